/- The walk's own rules: frames as functions, weakest preconditions over them, one lemma an operation. No condition. -/
import Derived.Tactics
import Derived.Orders
import Derived.Below
import Derived.Deep.LoopGhost
import Derived.Laws.AppendOwn
import Derived.Laws.Sem
import Derived.KernelRfl
set_option linter.all false
namespace Go.VG
open Go.RowKit (Below)

abbrev Fr := Nat → Value
def upd (f : Fr) (d : Nat) (v : Value) : Fr := fun t => cond (Nat.beq t d) v (f t)
def ev (f : Fr) : Operand → Value
  | .tmp t => f t
  | .const v => v
  | .global g => .pointer (some ⟨g, 0, none⟩)
  | .func g => .func (.func g) #[] #[]

structure Agree (n : Nat) (a : Act) (f : Fr) : Prop where
  defers : a.defers = []
  size : a.tmps.size = n
  get : ∀ t, a.tmps.getD t undef = f t

theorem Agree.eval {n : Nat} {a : Act} {f : Fr} (h : Agree n a f) : a.eval = ev f := by
  funext x
  cases x <;> simp only [Act.eval, ev]
  exact h.get _

theorem Agree.put {n : Nat} {a : Act} {f : Fr} (h : Agree n a f) (d : Nat) (v : Value) (hd : Nat.blt d n = true) : Agree n (a.put (some d) v) (upd f d v) := by
  have hd' : d < n := by simpa [Nat.blt_eq] using hd
  refine ⟨h.defers, by simp [Act.put, h.size], fun t => ?_⟩
  have hg := h.get t
  by_cases e : t = d
  · subst e
    simp [Act.put, upd, h.size, hd']
  · have hb : Nat.beq t d = false := by
      cases hx : Nat.beq t d
      · rfl
      · exact absurd (Nat.eq_of_beq_eq_true hx) e
    have hne : ¬ d = t := fun h => e h.symm
    simp only [upd, hb, cond_false, ← hg, Act.put]
    simp [hne]

theorem Agree.putNone {n : Nat} {a : Act} {f : Fr} (h : Agree n a f) (v : Value) : Agree n (a.put none v) f := h

abbrev Post := Exit → Fr → World → Prop

def lift (n : Nat) (Q : Post) : Exit → Act → World → Prop := fun e a w => ∃ f, Agree n a f ∧ Q e f w

def W (P : Program) (n : Nat) (c : Code) (Q : Post) (f : Fr) (w : World) : Prop :=
  ∀ a, Agree n a f → c.wp P (lift n Q) a w

def WL (P : Program) (n : Nat) (ops : Array Oper) (Q : Post) (l : List Oper) (f : Fr) (w : World) : Prop :=
  ∀ a, Agree n a f → wpList P ops (lift n Q) l a w

def thenQ (K : Fr → World → Prop) (Q : Post) : Post
  | .normal, f, w => K f w
  | e, f, w => Q e f w

def inBlk (id : Nat) (Q : Post) : Post
  | .exit id', f, w => cond (Nat.beq id' id) (Q .normal f w) (Q (.exit id') f w)
  | e, f, w => Q e f w

section
variable {P : Program} {n : Nat} {Q : Post} {f : Fr} {w : World}

theorem W.mono {c : Code} {Q' : Post} (h : W P n c Q f w) (hq : ∀ e f w, Q e f w → Q' e f w) : W P n c Q' f w :=
  fun a ha => wp_mono (h a ha) fun _ _ _ ⟨f', h1, h2⟩ => ⟨f', h1, hq _ _ _ h2⟩

theorem W.skip (h : Q .normal f w) : W P n .skip Q f w := fun _ ha => wp_skip ⟨f, ha, h⟩
theorem W.exit {id : Nat} (h : Q (.exit id) f w) : W P n (.exit id) Q f w := fun _ ha => wp_exit ⟨f, ha, h⟩
theorem W.ret (h : Q .ret f w) : W P n .ret Q f w := fun _ ha => wp_ret ⟨f, ha, h⟩

theorem W.seq {x y : Code} (h : W P n x (thenQ (fun f w => W P n y Q f w) Q) f w) : W P n (.seq x y) Q f w := fun a ha => by
  refine wp_seq (wp_mono (h a ha) fun e a' w' hh => ?_)
  obtain ⟨f', h1, h2⟩ := hh
  cases e <;> first | exact h2 a' h1 | exact ⟨f', h1, h2⟩

theorem W.block {id : Nat} {c : Code} (h : W P n c (inBlk id Q) f w) : W P n (.block id c) Q f w := fun a ha => by
  refine wp_block (wp_mono (h a ha) fun e a' w' hh => ?_)
  obtain ⟨f', h1, h2⟩ := hh
  cases e <;> try exact ⟨f', h1, h2⟩
  rename_i id'
  simp only [inBlk, Exit.inBlock] at h2 ⊢
  split <;> rename_i hid
  · subst hid
    rw [show Nat.beq id' id' = true from Nat.beq_refl id'] at h2; exact ⟨f', h1, h2⟩
  · have hb : Nat.beq id' id = false := by
      cases hx : Nat.beq id' id
      · rfl
      · exact absurd (Nat.eq_of_beq_eq_true hx) hid
    rw [hb] at h2; exact ⟨f', h1, h2⟩

theorem W.cond {c : Operand} {x y : Code} (b : Bool) (hc : ev f c = .bool b) (ht : b = true → W P n x Q f w) (hf : b = false → W P n y Q f w) : W P n (.cond c x y) Q f w := fun a ha => by
  have hc' : a.eval c = .bool b := by rw [ha.eval]; exact hc
  cases b
  · exact wp_cond_false hc' (hf rfl a ha)
  · exact wp_cond_true hc' (ht rfl a ha)

/-- A loop by an invariant and a number that goes down. -/
theorem W.loop {c : Code} (I : Nat → Fr → World → Prop) (k : Nat) (h0 : I k f w)
    (round : ∀ k f w, I k f w → W P n c (thenQ (fun f' w' => ∃ k', k' < k ∧ I k' f' w') Q) f w) : W P n (.loop c) Q f w := fun a ha => by
  refine wp_loop_ghost (fun k a w => ∃ f, Agree n a f ∧ I k f w) k ⟨f, ha, h0⟩ fun k a w hh => ?_
  obtain ⟨f, ha, hI⟩ := hh
  refine wp_mono (round k f w hI a ha) fun e a' w' hq => ?_
  obtain ⟨f', h1, h2⟩ := hq
  cases e with
  | normal => obtain ⟨k', h3, h4⟩ := h2; exact ⟨k', h3, f', h1, h4⟩
  | _ => exact ⟨f', h1, h2⟩

/-! ### Regions that do not draw -/

theorem W.region {id : Nat} {l : List Oper} (h : WL P n l.toArray Q l f w) : W P n (.region id l.toArray false) Q f w := fun a ha => wp_region_lit (h a ha)

theorem WL.nil {ops : Array Oper} (h : Q .normal f w) : WL P n ops Q [] f w := fun _ ha => wpList_nil ⟨f, ha, h⟩

end

/-- The operation yields a value. -/
def OpV (P : Program) (op : Op) (T : TypeId) (f : Fr) (w : World) (v : Value) (w' : World) : Prop :=
  ∀ dst pos after guard, (execOp (ev f) ⟨dst, op, T, pos, after, guard⟩).run P w = .ok (.value v) w'
/-- The operation yields nothing (a store). -/
def OpS (P : Program) (op : Op) (T : TypeId) (f : Fr) (w : World) (w' : World) : Prop :=
  ∀ dst pos after guard, (execOp (ev f) ⟨dst, op, T, pos, after, guard⟩).run P w = .ok .skip w'
/-- The operation enters a function. -/
def OpC (P : Program) (op : Op) (T : TypeId) (f : Fr) (w : World) (g : FuncId) (args : Array Value) : Prop :=
  ∀ dst pos after guard, (execOp (ev f) ⟨dst, op, T, pos, after, guard⟩).run P w = .ok (.enter g args) w

/-- The call returns a value of which R holds. -/
def Ret (P : Program) (g : FuncId) (args : Array Value) (w : World) (R : Value → World → Prop) : Prop :=
  Calls P g args w fun e w' => ∃ v, e = .returned v ∧ R v w'

theorem Ret.mono {P : Program} {g : FuncId} {args : Array Value} {w : World} {R R' : Value → World → Prop} (h : Ret P g args w R) (hr : ∀ v w', R v w' → R' v w') : Ret P g args w R' :=
  Calls.mono h fun _ _ ⟨v, h1, h2⟩ => ⟨v, h1, hr _ _ h2⟩

section
variable {P : Program} {n : Nat} {Q : Post} {f : Fr} {w : World} {ops : Array Oper} {rest : List Oper} {op : Op} {T : TypeId} {pos : String} {after : Array Edge}

theorem WL.val {d : Nat} (v : Value) (w' : World) (hr : OpV P op T f w v w') (hd : Nat.blt d n = true) (k : WL P n ops Q rest (upd f d v) w') :
    WL P n ops Q (⟨some d, op, T, pos, after, none⟩ :: rest) f w := fun a ha =>
  wpList_plain rfl fun K hK => by
    have he : (execOp a.eval ⟨some d, op, T, pos, after, none⟩).run P w = .ok (.value v) w' := by rw [ha.eval]; exact hr _ _ _ _
    show Oper.upon P _ a K _ ((execOp a.eval _).run P w)
    rw [he]
    exact hK _ _ (k _ (ha.put d v hd))

theorem WL.skp (w' : World) (hr : OpS P op T f w w') (k : WL P n ops Q rest f w') :
    WL P n ops Q (⟨none, op, T, pos, after, none⟩ :: rest) f w := fun a ha =>
  wpList_plain rfl fun K hK => by
    have he : (execOp a.eval ⟨none, op, T, pos, after, none⟩).run P w = .ok .skip w' := by rw [ha.eval]; exact hr _ _ _ _
    show Oper.upon P _ a K _ ((execOp a.eval _).run P w)
    rw [he]
    exact hK _ _ (k _ (ha.putNone undef))

theorem WL.call {d : Nat} {g : FuncId} {args : Array Value} (R : Value → World → Prop) (hr : OpC P op T f w g args) (hc : Ret P g args w R) (hd : Nat.blt d n = true)
    (k : ∀ v w', R v w' → WL P n ops Q rest (upd f d v) w') : WL P n ops Q (⟨some d, op, T, pos, after, none⟩ :: rest) f w := fun a ha =>
  wpList_plain rfl fun K hK => by
    have he : (execOp a.eval ⟨some d, op, T, pos, after, none⟩).run P w = .ok (.enter g args) w := by rw [ha.eval]; exact hr _ _ _ _
    show Oper.upon P _ a K _ ((execOp a.eval _).run P w)
    rw [he]
    refine Calls.mono hc fun e w'' hh => ?_
    obtain ⟨v, rfl, h2⟩ := hh
    exact hK _ _ (k v w'' h2 _ (ha.put d v hd))

theorem yielded_of {a : Act} (ha : Agree n a f) {j t : Nat} {b : Bool} (hj : (ops[j]?).bind (·.dst) = some t) (hv : f t = .bool b) : yielded ops a.tmps j = some b := by
  have hg := ha.get t
  rw [hv] at hg
  unfold yielded
  rw [hj]
  simp only [Option.bind_some]
  cases hx : a.tmps[t]? with
  | none => rw [Array.getD_eq_getD_getElem?, hx] at hg; simp [undef] at hg
  | some x => rw [Array.getD_eq_getD_getElem?, hx] at hg; simp at hg; rw [hg]

theorem yielded_undef {a : Act} (ha : Agree n a f) {j t : Nat} (hj : (ops[j]?).bind (·.dst) = some t) (hv : f t = undef) : yielded ops a.tmps j = none := by
  have hg := ha.get t
  rw [hv] at hg
  unfold yielded
  rw [hj]
  simp only [Option.bind_some]
  cases hx : a.tmps[t]? with
  | none => rfl
  | some x => rw [Array.getD_eq_getD_getElem?, hx] at hg; simp at hg; rw [hg]; rfl

/-- A guarded operation that is carried out. -/
theorem WL.grun {dst : Option Tmp} {j t : Nat} {b : Bool} (hj : (ops[j]?).bind (·.dst) = some t) (hv : f t = .bool b)
    (k : WL P n ops Q (⟨dst, op, T, pos, after, none⟩ :: rest) f w) : WL P n ops Q (⟨dst, op, T, pos, after, some (j, b)⟩ :: rest) f w := fun a ha => by
  have h := k a ha
  unfold wpList at h ⊢
  rw [if_pos (by simp [Region.wanted])] at h
  rw [if_pos (by simp [Region.wanted, yielded_of ha hj hv])]
  exact h

/-- A guarded operation that is passed over. -/
theorem WL.gskip {d : Nat} {j t : Nat} {b : Bool} (hj : (ops[j]?).bind (·.dst) = some t) (hv : f t = .bool !b) (hd : Nat.blt d n = true)
    (k : WL P n ops Q rest (upd f d undef) w) : WL P n ops Q (⟨some d, op, T, pos, after, some (j, b)⟩ :: rest) f w := fun a ha => by
  unfold wpList
  rw [if_neg (by simp [Region.wanted, yielded_of ha hj hv])]
  exact k _ (ha.put d undef hd)

theorem WL.gskipu {d : Nat} {j t : Nat} {b : Bool} (hj : (ops[j]?).bind (·.dst) = some t) (hv : f t = undef) (hd : Nat.blt d n = true)
    (k : WL P n ops Q rest (upd f d undef) w) : WL P n ops Q (⟨some d, op, T, pos, after, some (j, b)⟩ :: rest) f w := fun a ha => by
  unfold wpList
  rw [if_neg (by simp [Region.wanted, yielded_undef ha hj hv])]
  exact k _ (ha.put d undef hd)

end

/-! ### A cut inside a region -/

theorem Oper.wp_mono2 {P : Program} {o : Oper} {a : Act} {w : World} {K K' : Act → World → Prop} {Q Q' : Exit → Act → World → Prop} (h : ∀ a w, K a w → K' a w)
    (hq : ∀ e a w, Q e a w → e = .normal) (hh : o.wp P a w K Q) : o.wp P a w K' Q' := by
  unfold Oper.wp at *
  generalize (execOp a.eval o).run P w = r at *
  cases r with
  | ok nx w' =>
    cases nx <;> simp only [Oper.upon] at hh ⊢ <;>
      first
        | exact h _ _ hh
        | exact Calls.mono hh (fun e w'' he => by
            cases e with
            | returned v => exact h _ _ he
            | panicked c => exact absurd (hq _ _ _ he) (by simp)
            | outgrown => obtain ⟨_, _, hx⟩ := he; exact absurd (hq _ _ _ hx) (by simp))
        | exact Rows.mono hh (fun _ _ he => h _ _ he)
  | halt x w' => cases x <;> simp only [Oper.upon] at hh ⊢ <;> first | exact hh | exact absurd (hq _ _ _ hh) (by simp)

theorem wpList_append {P : Program} {ops : Array Oper} {Q1 Q : Exit → Act → World → Prop} {l2 : List Oper} (hq : ∀ e a w, Q1 e a w → e = .normal)
    (h2 : ∀ a w, Q1 .normal a w → wpList P ops Q l2 a w) : ∀ (l1 : List Oper) (a : Act) (w : World), wpList P ops Q1 l1 a w → wpList P ops Q (l1 ++ l2) a w
  | [], a, w, h => h2 a w h
  | o :: l1, a, w, h => by
    have ih := wpList_append hq h2 l1
    simp only [List.cons_append]
    unfold wpList at h ⊢
    split
    · rename_i hw
      rw [if_pos hw] at h
      rcases h with h | ⟨_, a', w', hx⟩
      · exact .inl (Oper.wp_mono2 ih hq h)
      · exact absurd (hq _ _ _ hx) (by simp)
    · rename_i hw
      rw [if_neg hw] at h
      exact ih _ _ h

/-- The first k operations by a post of their own. -/
theorem WL.cut {P : Program} {n : Nat} {Q : Post} {f : Fr} {w : World} {ops : Array Oper} {l : List Oper} (k : Nat) (M : Fr → World → Prop)
    (h1 : WL P n ops (fun e f w => e = .normal ∧ M f w) (l.take k) f w) (h2 : ∀ f w, M f w → WL P n ops Q (l.drop k) f w) : WL P n ops Q l f w := fun a ha => by
  have := wpList_append (Q1 := lift n fun e f w => e = .normal ∧ M f w) (Q := lift n Q) (l2 := l.drop k) (fun e a w ⟨_, _, h, _⟩ => h)
    (fun a w ⟨f', hf, _, hM⟩ => h2 f' w hM a hf) (l.take k) a w (h1 a ha)
  rwa [List.take_append_drop] at this

/-- A piece of code by a post of its own. -/
theorem W.cut {P : Program} {n : Nat} {Q : Post} {f : Fr} {w : World} {x y : Code} (M : Fr → World → Prop)
    (h1 : W P n x (thenQ M Q) f w) (h2 : ∀ f w, M f w → W P n y Q f w) : W P n (.seq x y) Q f w :=
  W.seq (h1.mono fun e f w h => by cases e <;> first | exact h2 f w h | exact h)

/-! ### Entering a function -/

def fr0 (args : Array Value) : Fr := fun t => args.getD t undef

theorem Ret.enter {P : Program} {g : FuncId} {fn : Func} {c : Code} {args : Array Value} {w : World} {R : Value → World → Prop}
    (hf : P.funcs[g]? = some fn) (hb : fn.body = some c) (n : Nat) (hn : fn.ntmps = n) (ha : args.size ≤ n)
    (h : W P n c (fun e f w' => (e = .normal ∨ e = .ret) ∧ ∃ v, (∀ a, Agree n a f → (results fn a.tmps).run P w' = .ok v w') ∧ R v w') (fr0 args) w) : Ret P g args w R := by
  refine calls_of_wp hf hb ?_
  refine wp_mono (h _ ⟨rfl, by simp [hn]; omega, fun t => ?_⟩) fun e a w' hh => ?_
  · simp only [fr0, Array.getD_eq_getD_getElem?, Array.getElem?_append]
    split
    · rfl
    · rename_i hlt
      simp only [Array.getElem?_replicate]
      rw [Array.getElem?_eq_none (by omega)]
      split <;> rfl
  · obtain ⟨f', h1, h2, v, h3, h4⟩ := hh
    rcases h2 with rfl | rfl
    · exact ⟨h1.defers, v, h3 a h1, v, rfl, h4⟩
    · exact ⟨h1.defers, v, h3 a h1, v, rfl, h4⟩

theorem res1 {P : Program} {fn : Func} {t : Tmp} (h : fn.results = #[.tmp t]) {n : Nat} {f : Fr} {w : World} {v : Value} (hv : f t = v) : ∀ a, Agree n a f → (results fn a.tmps).run P w = .ok v w := fun a ha => by
  rw [results_tmp h, ← hv, ← ha.get t]
theorem res2 {P : Program} {fn : Func} {t u : Tmp} (h : fn.results = #[.tmp t, .tmp u]) {n : Nat} {f : Fr} {w : World} {v v2 : Value} (hv : f t = v) (hv2 : f u = v2) :
    ∀ a, Agree n a f → (results fn a.tmps).run P w = .ok (.tuple #[v, v2]) w := fun a ha => by
  rw [results_tmp2 h, ← hv, ← hv2, ← ha.get t, ← ha.get u]
theorem res3 {P : Program} {fn : Func} {t u s : Tmp} (h : fn.results = #[.tmp t, .tmp u, .tmp s]) {n : Nat} {f : Fr} {w : World} {v v2 v3 : Value} (hv : f t = v) (hv2 : f u = v2) (hv3 : f s = v3) :
    ∀ a, Agree n a f → (results fn a.tmps).run P w = .ok (.tuple #[v, v2, v3]) w := fun a ha => by
  have e1 := ha.get t; have e2 := ha.get u; have e3 := ha.get s
  simp [results, h, ← hv, ← hv2, ← hv3, ← e1, ← e2, ← e3]
theorem res0 {P : Program} {fn : Func} (h : fn.results = #[]) {n : Nat} {f : Fr} {w : World} : ∀ a, Agree n a f → (results fn a.tmps).run P w = .ok (.tuple #[]) w := fun a _ => results_none h _ _ _

end Go.VG
