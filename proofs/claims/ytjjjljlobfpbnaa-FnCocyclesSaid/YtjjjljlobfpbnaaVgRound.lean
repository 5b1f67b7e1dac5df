/- The rounds of a loop over a function: the walk's words there. No condition. -/
import Derived.Test.YtjjjljlobfpbnaaVgCopy
import Derived.RangeFuncNested
import Derived.OrdersIn
import Derived.TacticsIn
import Derived.RangeFuncCalls
import Derived.RangeFuncFrom
import Derived.RangeFuncLeaves
import Derived.Shelf.Abstract
set_option linter.all false
namespace Go.VG
open Go.RowKit (Below)

def noDef (l : List Oper) : Bool := l.all fun o => match o.op with | .defer _ => false | _ => true

section
variable {P : Program} {n m lr : Nat} {f : Fr} {w : World}

theorem uponIn_of {o : Oper} {a : Act} {K K' : Act → World → Prop} {Q : Exit → Act → World → Prop} (hK : ∀ a w, K a w → K' a w) (r : Result Next) (h : o.upon P a K Q r) : o.uponIn (Fence.wide.inRound lr) m P a K' Q r := by
  cases r with
  | ok v w' =>
    cases v with
    | value v => exact hK _ _ h
    | skip => exact hK _ _ h
    | defer d => exact hK _ _ h
    | enter g args =>
      refine ⟨fun h => by simp [Fence.wide] at h, CallsIn.inRound lr (callsIn_wide.2 (Calls.mono h fun e w hh => ?_))⟩
      cases e <;> first | exact hK _ _ hh | exact hh
    | row row args =>
      refine ⟨fun h => by simp [Fence.wide] at h, fun c cs _ => ?_⟩
      obtain ⟨v, w2, h1, h2⟩ := h c cs
      exact ⟨v, w2, hK _ _ h1, stepsIn_wide.2 h2⟩
    | _ => exact h.elim
  | halt x w' => cases x <;> exact h
theorem wpOp_in {ops : Array Oper} {Q : Exit → Act → World → Prop} {i : Nat} {K K' : Act → World → Prop} {a : Act} {w : World} (hd : ∀ o, ops[i]? = some o → ∀ c, o.op ≠ .defer c) (hL : ¬ LetsOut Q) (hK : ∀ a w, K a w → K' a w)
    (h : wpOp P ops Q i K a w) : wpOpIn (Fence.wide.inRound lr) m P ops Q i K' a w := by
  unfold wpOp at h
  unfold wpOpIn
  split
  · rename_i e; rw [e] at h; exact hK _ _ h
  · rename_i o e
    rw [e] at h
    simp only at h
    split
    · rename_i hw
      rw [if_pos hw] at h
      rcases h with h | h
      · refine ⟨fun _ _ => trivial, ?_⟩
        have e2 : Oper.semAt (Fence.wide.inRound lr).round a.eval o = execOp a.eval o := Oper.semAt_eq _ _ _ (hd o e)
        rw [e2]
        exact uponIn_of hK _ h
      · exact absurd h.2 hL
    · rename_i hw
      rw [if_neg hw] at h
      exact ⟨fun _ _ => trivial, hK _ _ h⟩
theorem wpAny_in {ops : Array Oper} {Q : Exit → Act → World → Prop} {md : Region.Mode} (hd : ∀ (i : Nat) (o : Oper), ops[i]? = some o → ∀ c, o.op ≠ .defer c) (hL : ¬ LetsOut Q) : ∀ (fuel : Nat) (listed : Array Bool) (a : Act) (w : World),
    wpAny P md ops Q fuel listed a w → wpAnyIn (Fence.wide.inRound lr) m P md ops Q fuel listed a w
  | 0, listed, a, w, h => h
  | fuel + 1, listed, a, w, h => ⟨h.1, fun i hi => wpOp_in (hd i) hL (fun a w hh => wpAny_in hd hL fuel _ a w hh) (h.2 i hi)⟩
theorem wpList_in {ops : Array Oper} {Q : Exit → Act → World → Prop} (hL : ¬ LetsOut Q) : ∀ (l : List Oper) (a : Act) (w : World), (∀ o ∈ l, ∀ c, o.op ≠ .defer c) → wpList P ops Q l a w → wpListIn (Fence.wide.inRound lr) m P ops Q l a w
  | [], a, w, _, h => h
  | o :: l, a, w, hd, h => by
    unfold wpList at h
    unfold wpListIn
    split
    · rename_i hw
      rw [if_pos hw] at h
      rcases h with h | h
      · refine ⟨fun _ _ => trivial, ?_⟩
        have e2 : Oper.semAt (Fence.wide.inRound lr).round a.eval o = execOp a.eval o := Oper.semAt_eq _ _ _ (hd o List.mem_cons_self)
        rw [e2]
        exact uponIn_of (fun a w hh => wpList_in hL l a w (fun o ho => hd o (List.mem_cons_of_mem _ ho)) hh) _ h
      · exact absurd h.2 hL
    · rename_i hw
      rw [if_neg hw] at h
      exact ⟨fun _ _ => trivial, wpList_in hL l _ w (fun o ho => hd o (List.mem_cons_of_mem _ ho)) h⟩

theorem noDef_of {l : List Oper} (h : noDef l = true) (o : Oper) (ho : o ∈ l) (c) : o.op ≠ .defer c := by
  have := List.all_eq_true.1 h o ho
  intro e
  rw [e] at this
  cases this
theorem not_out {K : Fr → World → Prop} : ¬ LetsOut (lift n (nrm K)) := fun ⟨_, _, _, _, h⟩ => h

/-- A code in the round lr, which ends plainly. -/
def WR (P : Program) (n m lr : Nat) (c : Code) (K : Fr → World → Prop) (f : Fr) (w : World) : Prop :=
  ∀ a, Agree n a f → c.wpIn (Fence.wide.inRound lr) m P (lift n (nrm K)) a w
variable {K : Fr → World → Prop}
theorem WR.at {c0 : Code} (h : WR P n m lr c0 K f w) (a : Act) (ha : Agree n a f) : c0.wpIn (Fence.wide.inRound lr) m P (lift n (nrm K)) a w := h a ha
theorem WR.region {id : Nat} {l : List Oper} (hd : noDef l = true) (h : WL P n l.toArray (nrm K) l f w) : WR P n m lr (.region id l.toArray false) K f w :=
  fun a ha => wpIn_region_lit (wpList_in not_out l a w (fun o ho => noDef_of hd o ho) (h a ha))
theorem WR.drawn {id : Nat} {l : List Oper} (hm : P.follows .mixedOrders = true) (hd : noDef l = true)
    (h : ∀ a, Agree n a f → wpAny P .any l.toArray (lift n (nrm K)) l.toArray.size (Array.replicate l.toArray.size false) a { w with drawn := w.drawn + 1 }) : WR P n m lr (.region id l.toArray true) K f w :=
  fun a ha => wpIn_region_any hm (wpAny_in (fun i o ho => noDef_of hd o (List.mem_of_getElem? (by simpa using ho))) not_out _ _ _ _ (h a ha))
theorem WR.seq {x y : Code} (h : WR P n m lr x (fun f w => WR P n m lr y K f w) f w) : WR P n m lr (.seq x y) K f w := fun a ha => by
  refine wpIn_seq (wpIn_mono (h a ha) fun e a' w' hh => ?_)
  obtain ⟨f', h1, h2⟩ := hh
  cases e <;> first | exact h2 a' h1 | exact h2.elim
theorem WR.block {id : Nat} {c : Code} (h : WR P n m lr c K f w) : WR P n m lr (.block id c) K f w := fun a ha => by
  refine wpIn_block (wpIn_mono (h a ha) fun e a' w' hh => ?_)
  obtain ⟨f', h1, h2⟩ := hh
  cases e <;> first | exact ⟨f', h1, h2⟩ | exact h2.elim
theorem WR.drawR {id : Nat} {l : List Oper} (hm : P.follows .mixedOrders = true) (hd : noDef l = true) (p : Nat) (fl : List Nat) (phis : List Phi) (hok : parOkE l p fl = true)
    (hn : (l.take p).all (fun o => match o.dst with | some d => Nat.blt d n | none => false) = true)
    (hst : OkX l 0 (l.take p) phis) (hops : ParX P l p fl f w phis 0 (l.take p) phis)
    (hend : ∀ (f' : Fr) (w' : World) (Ss : Nat → Nat → Prop), Ext w w' → (∀ t, isDst l p t = false → f' t = f t) → (∀ j, NewS w w' (Ss j)) → (∀ i j b, Ss i b → Ss j b → i = j) →
      (∀ (j : Nat) d φj, j < p → dstOf l j = some d → phis[j]? = some φj → φj f' (f' d) (Ss j) w') → WL P n l.toArray (nrm K) (l.drop p) f' w') :
    WR P n m lr (.region id l.toArray true) K f w :=
  WR.drawn hm hd (drawX_any p fl phis hok hn hst hops (fun f' w' he hout ⟨Ss, h1, h2, h3⟩ => hend f' w' Ss he hout h1 h2 (fun j d φj hj hd hφ => h3 j d φj hj trivial hd hφ)) nrm_normal)
theorem WR.orders {id : Nat} {l : List Oper} (hm : P.follows .mixedOrders = true) (hd : noDef l = true) (h : ∀ w', Ext w w' → WA P n l K l.length (Array.replicate l.length false) f w') : WR P n m lr (.region id l.toArray true) K f w :=
  WR.drawn hm hd fun a ha => by
    have hsz : (Array.replicate l.toArray.size false) = Array.replicate l.length false := by simp
    rw [hsz]
    simpa using h { w with drawn := w.drawn + 1 } ⟨rfl, rfl, rfl, Nat.le_refl _, fun _ _ => rfl⟩ a ha
end

/-! ### Codes in which a round is called -/

theorem agree_start {fn : Func} {args : Array Value} {n : Nat} (hn : fn.ntmps = n) (ha : args.size ≤ n) : Agree n { tmps := args ++ Array.replicate (fn.ntmps - args.size) undef, defers := [] } (fr0 args) := by
  refine ⟨rfl, by simp [hn]; omega, fun t => ?_⟩
  simp only [fr0, Array.getD_eq_getD_getElem?, Array.getElem?_append]
  split
  · rfl
  · rename_i hlt
    simp only [Array.getElem?_replicate]
    rw [Array.getElem?_eq_none (by omega)]
    split <;> rfl

def WI (P : Program) (n m : Nat) (c : Code) (Q : Post) (f : Fr) (w : World) : Prop := ∀ a, Agree n a f → c.wpIn Fence.wide m P (lift n Q) a w
def WLI (P : Program) (n m : Nat) (ops : Array Oper) (Q : Post) (l : List Oper) (f : Fr) (w : World) : Prop := ∀ a, Agree n a f → wpListIn Fence.wide m P ops (lift n Q) l a w
section
variable {P : Program} {n m : Nat} {f : Fr} {w : World} {Q : Post}
theorem WI.ofW {c : Code} (h : W P n c Q f w) : WI P n m c Q f w := fun a ha => wpIn_wide.2 (h a ha)
theorem WI.seq {x y : Code} (h : WI P n m x (thenQ (fun f w => WI P n m y Q f w) Q) f w) : WI P n m (.seq x y) Q f w := fun a ha => by
  refine wpIn_seq (wpIn_mono (h a ha) fun e a' w' hh => ?_)
  obtain ⟨f', h1, h2⟩ := hh
  cases e <;> first | exact h2 a' h1 | exact ⟨f', h1, h2⟩
theorem WI.block {id : Nat} {c : Code} (h : WI P n m c (inBlk id Q) f w) : WI P n m (.block id c) Q f w := fun a ha => by
  refine wpIn_block (wpIn_mono (h a ha) fun e a' w' hh => ?_)
  obtain ⟨f', h1, h2⟩ := hh
  cases e <;> try exact ⟨f', h1, h2⟩
  rename_i id'
  simp only [inBlk, Exit.inBlock] at h2 ⊢
  split <;> rename_i hid
  · subst hid
    rw [show Nat.beq id' id' = true from Nat.beq_refl id'] at h2; exact ⟨f', h1, h2⟩
  · have hb : Nat.beq id' id = false := by
      cases hx : Nat.beq id' id
      · rfl
      · exact absurd (Nat.eq_of_beq_eq_true hx) hid
    rw [hb] at h2; exact ⟨f', h1, h2⟩
theorem WI.skip (h : Q .normal f w) : WI P n m .skip Q f w := fun a ha => wpIn_skip ⟨f, ha, h⟩
theorem WI.exit {id : Nat} (h : Q (.exit id) f w) : WI P n m (.exit id) Q f w := fun a ha => wpIn_exit ⟨f, ha, h⟩
theorem WI.ret (h : Q .ret f w) : WI P n m .ret Q f w := fun a ha => wpIn_ret ⟨f, ha, h⟩
theorem WI.cond {c : Operand} {x y : Code} (b : Bool) (hc : ev f c = .bool b) (ht : b = true → WI P n m x Q f w) (hf : b = false → WI P n m y Q f w) : WI P n m (.cond c x y) Q f w := fun a ha => by
  have hc' : a.eval c = .bool b := by rw [ha.eval]; exact hc
  cases b
  · exact wpIn_cond_false hc' (hf rfl a ha)
  · exact wpIn_cond_true hc' (ht rfl a ha)
theorem WI.loop {c : Code} (I : Fr → World → Prop) (t : Nat) (ν : Value → Nat) (h0 : I f w)
    (round : ∀ f w, I f w → WI P n m c (thenQ (fun f' w' => I f' w' ∧ ν (f' t) < ν (f t)) Q) f w) : WI P n m (.loop c) Q f w := fun a ha => by
  refine wpIn_loop (fun a w => ∃ f, Agree n a f ∧ I f w) (fun a _ => ν (a.tmps.getD t undef)) ⟨f, ha, h0⟩ fun a w hh => ?_
  obtain ⟨f, ha, hI⟩ := hh
  refine wpIn_mono (round f w hI a ha) fun e a' w' hq => ?_
  obtain ⟨f', h1, h2⟩ := hq
  cases e with
  | normal => exact ⟨⟨f', h1, h2.1⟩, by rw [h1.get t, ha.get t]; exact h2.2⟩
  | _ => exact ⟨f', h1, h2⟩
theorem WI.region {id : Nat} {l : List Oper} (h : WLI P n m l.toArray Q l f w) : WI P n m (.region id l.toArray false) Q f w := fun a ha => wpIn_region_lit (h a ha)
variable {ops : Array Oper} {rest : List Oper} {op : Op} {T : TypeId} {pos : String} {after : Array Edge}
theorem WLI.nil (h : Q .normal f w) : WLI P n m ops Q [] f w := fun _ ha => ⟨f, ha, h⟩
theorem WLI.val {d : Nat} (v : Value) (w' : World) (hr : OpV P op T f w v w') (hd : Nat.blt d n = true) (hnd : ∀ c, op ≠ .defer c) (k : WLI P n m ops Q rest (upd f d v) w') :
    WLI P n m ops Q (⟨some d, op, T, pos, after, none⟩ :: rest) f w := fun a ha =>
  wpListIn_plain rfl fun K hK => by
    refine ⟨fun _ _ => trivial, ?_⟩
    have he : (execOp a.eval ⟨some d, op, T, pos, after, none⟩).run P w = .ok (.value v) w' := by rw [ha.eval]; exact hr _ _ _ _
    rw [Oper.semAt_eq _ _ _ hnd, he]
    exact hK _ _ (k _ (ha.put d v hd))
theorem WLI.yield {d l : Nat} {c : Call} {x : Operand} {vs : Array Value} {R : Ending → World → Prop} (hc : c.callee = .value x) (hx : ev f x = .func (.yield l) #[] #[]) (hv : c.args.map (ev f) = vs)
    (hY : YieldAt Fence.wide (m - 1) P l vs w R) (hd : Nat.blt d n = true) (k : ∀ e w', R e w' → ∃ v, e = .returned v ∧ WLI P n m ops Q rest (upd f d v) w') :
    WLI P n m ops Q (⟨some d, .call c, T, pos, after, none⟩ :: rest) f w := fun a ha =>
  wpListIn_plain rfl fun K hK => by
    refine ⟨fun _ _ => trivial, ?_⟩
    obtain ⟨fn, tmps, assign, body, hy, hR⟩ := hY
    have he : (execOp a.eval ⟨some d, .call c, T, pos, after, none⟩).run P w = .ok (.round l fn tmps assign body) w := by
      rw [ha.eval, ← hy, ← hv]
      simp [execOp, resolve, hc, hx, Deferred.ofValue, invoke, Sem.run_bind]
    rw [Oper.semAt_eq _ _ _ (by intro c h; cases h), he]
    refine ⟨fun h => by simp [Fence.wide] at h, hR.mono fun e w' hh => ?_⟩
    obtain ⟨v, rfl, h2⟩ := k e w' hh
    exact hK _ _ (h2 _ (ha.put d v hd))
theorem WI.calls {g : FuncId} {fn : Func} {c : Code} {args : Array Value} {R : World → Prop} (hf : P.funcs[g]? = some fn) (hb : fn.body = some c) (hn : fn.ntmps = n) (ha : Nat.ble args.size n = true) (hr : fn.results = #[])
    (h : WI P n m c (fun e _ w' => (e = .normal ∨ e = .ret) ∧ R w') (fr0 args) w) : CallsIn Fence.wide m P g args w fun e W' => (∃ v, e = .returned v) ∧ R W' := by
  refine callsIn_of_wp hf hb trivial ?_ rfl
  refine wpIn_mono (h _ (agree_start hn (Nat.le_of_ble_eq_true ha))) ?_
  rintro e a' w' ⟨f', ha, he, h⟩
  rcases he with rfl | rfl
  · exact ⟨ha.defers, _, results_none hr _ _ _, ⟨_, rfl⟩, h⟩
  · exact ⟨ha.defers, _, results_none hr _ _ _, ⟨_, rfl⟩, h⟩
end

def KpB (w0 : World) (Bs : Nat) (W W' : World) : Prop := Go.RowKit.Below w0.heap.size W W' ∧ W'.heap[Bs]? = W.heap[Bs]?
theorem cell_same {W W' : World} {b : Nat} {u : Value} (h : W'.heap[b]? = W.heap[b]?) (hc : W.cell? ⟨b, 0, none⟩ = some u) : W'.cell? ⟨b, 0, none⟩ = some u := (cell_of_block h).trans hc

/-- Every block laid since w, but the variables' own, is as it was in W. -/
def keepE (w W : World) (bs : List Nat) : Ent := fun S w' => ∀ k, w.heap.size ≤ k → k < W.heap.size → k ∉ bs → S k ∧ w'.heap[k]? = W.heap[k]?
theorem keepE_local (w W : World) (bs : List Nat) : Local (keepE w W bs) :=
  ⟨fun S w1 w2 h hA k h1 h2 h3 => let ⟨g1, g2⟩ := hA k h1 h2 h3; ⟨g1, (h k g1).trans g2⟩, fun S S' w1 h hA k h1 h2 h3 => let ⟨g1, g2⟩ := hA k h1 h2 h3; ⟨h k g1, g2⟩⟩
def BoxC (W : World) (b : Nat) (v : Value) : Prop := ∃ T, W.heap[b]? = some (.cells #[v] T (0, 0))
theorem BoxC.keep {W W' : World} {row : Option Nat} {b : Nat} {v : Value} (h : BoxC W b v) (hg : W.grownBy W' row) (hr : ∀ r, row = some r → ∃ o : Obj, W.heap[r]? = some o ∧ o.isCells = false) : BoxC W' b v := by
  obtain ⟨T, h⟩ := h
  exact ⟨T, (grownBy_keeps_cells hg hr h rfl).trans h⟩
structure BkI0 (w W : World) (b1 b2 b3 b4 Bs : Nat) (v : Value) (s : Int × Int × Int × Int) : Prop where
  ext : Ext w W
  h1 : BoxC W b1 (.int .i64 s.1)
  h2 : BoxC W b2 (.int .i64 s.2.1)
  h3 : BoxC W b3 (.int .i64 s.2.2.1)
  h4 : BoxC W b4 (.int .i64 s.2.2.2)
  h5 : BoxC W Bs v
theorem BkI0.st {w W : World} {b1 b2 b3 b4 Bs : Nat} {v : Value} {s : Int × Int × Int × Int} (h : BkI0 w W b1 b2 b3 b4 Bs v s) (g1 : w.heap.size ≤ b1) (g2 : w.heap.size ≤ b2) (g3 : w.heap.size ≤ b3) (g4 : w.heap.size ≤ b4)
    (d12 : b1 ≠ b2) (d13 : b1 ≠ b3) (d14 : b1 ≠ b4) (d23 : b2 ≠ b3) (d24 : b2 ≠ b4) (d34 : b3 ≠ b4) :
    St w W [bx b1 [Value.int .i64 s.1], bx b2 [Value.int .i64 s.2.1], bx b3 [Value.int .i64 s.2.2.1], bx b4 [Value.int .i64 s.2.2.2], keepE w W [b1, b2, b3, b4]] := by
  obtain ⟨T1, e1⟩ := h.h1
  obtain ⟨T2, e2⟩ := h.h2
  obtain ⟨T3, e3⟩ := h.h3
  obtain ⟨T4, e4⟩ := h.h4
  have l1 := (Array.getElem?_eq_some_iff.1 e1).1
  have l2 := (Array.getElem?_eq_some_iff.1 e2).1
  have l3 := (Array.getElem?_eq_some_iff.1 e3).1
  have l4 := (Array.getElem?_eq_some_iff.1 e4).1
  refine ⟨h.ext, fun i b => (i = 0 ∧ b = b1) ∨ (i = 1 ∧ b = b2) ∨ (i = 2 ∧ b = b3) ∨ (i = 3 ∧ b = b4) ∨ (i = 4 ∧ w.heap.size ≤ b ∧ b < W.heap.size ∧ b ∉ [b1, b2, b3, b4]), ?_, ?_, ?_⟩
  · intro i b hb; omega
  · intro i j b hi hj
    simp only [List.mem_cons, List.not_mem_nil, or_false, not_or] at hi hj
    omega
  · intro i A hA
    match i, hA with
    | 0, hA => cases hA; exact ⟨⟨.inl ⟨rfl, rfl⟩, T1, e1⟩, bx_local _ _⟩
    | 1, hA => cases hA; exact ⟨⟨.inr (.inl ⟨rfl, rfl⟩), T2, e2⟩, bx_local _ _⟩
    | 2, hA => cases hA; exact ⟨⟨.inr (.inr (.inl ⟨rfl, rfl⟩)), T3, e3⟩, bx_local _ _⟩
    | 3, hA => cases hA; exact ⟨⟨.inr (.inr (.inr (.inl ⟨rfl, rfl⟩))), T4, e4⟩, bx_local _ _⟩
    | 4, hA => cases hA; exact ⟨fun k k1 k2 k3 => ⟨.inr (.inr (.inr (.inr ⟨rfl, k1, k2, k3⟩))), rfl⟩, keepE_local _ _ _⟩
theorem BkI0.own {w : World} {b1 b2 b3 b4 Bs B : Nat} {v : Value} {β : Type} {F : β → Int × Int × Int × Int} (hB : w.heap.size ≤ B) : OwnFrom B (fun (s : β) W => BkI0 w W b1 b2 b3 b4 Bs v (F s)) := fun s W W' row h hg hr =>
  have hr' : ∀ r, row = some r → ∃ o : Obj, W.heap[r]? = some o ∧ o.isCells = false := fun r e => (hr r e).2
  ⟨(ownFrom_below (β := Unit) (n₀ := w.heap.size) (w₀ := w) (Nat.le_refl _) hB) () W W' row h.ext hg hr, h.h1.keep hg hr', h.h2.keep hg hr', h.h3.keep hg hr', h.h4.keep hg hr', h.h5.keep hg hr'⟩
/-- A round's end. -/
theorem bk_end {w W W' : World} {b1 b2 b3 b4 Bs : Nat} {v : Value} {s s' : Int × Int × Int × Int} (h : BkI0 w W b1 b2 b3 b4 Bs v s) (g1 : w.heap.size ≤ b1) (hBs0 : w.heap.size ≤ Bs ∧ Bs ∉ [b1, b2, b3, b4])
    (hS : St w W' [bx b1 [Value.int .i64 s'.1], bx b2 [Value.int .i64 s'.2.1], bx b3 [Value.int .i64 s'.2.2.1], bx b4 [Value.int .i64 s'.2.2.2], keepE w W [b1, b2, b3, b4]]) :
    KeepsOthers W W' ∧ KpB w Bs W W' ∧ BkI0 w W' b1 b2 b3 b4 Bs v s' := by
  obtain ⟨U5, u5⟩ := h.h5
  have hBs : w.heap.size ≤ Bs ∧ Bs < W.heap.size ∧ Bs ∉ [b1, b2, b3, b4] := ⟨hBs0.1, (Array.getElem?_eq_some_iff.1 u5).1, hBs0.2⟩
  obtain ⟨S1, ⟨_, T1, e1⟩, _⟩ := hS.sep.get 0 rfl
  obtain ⟨S2, ⟨_, T2, e2⟩, _⟩ := hS.sep.get 1 rfl
  obtain ⟨S3, ⟨_, T3, e3⟩, _⟩ := hS.sep.get 2 rfl
  obtain ⟨S4, ⟨_, T4, e4⟩, _⟩ := hS.sep.get 3 rfl
  obtain ⟨S5, hk, _⟩ := hS.sep.get 4 rfl
  obtain ⟨U1, u1⟩ := h.h1
  obtain ⟨U2, u2⟩ := h.h2
  obtain ⟨U3, u3⟩ := h.h3
  obtain ⟨U4, u4⟩ := h.h4
  have same : ∀ (k : Nat) (o : Obj), W.heap[k]? = some o → o.isCells = false → W'.heap[k]? = some o := by
    intro k o ho hc
    rcases Nat.lt_or_ge k w.heap.size with hlt | hge
    · rw [hS.ext.block k hlt, ← h.ext.block k hlt]; exact ho
    · have hk' := hk k hge (Array.getElem?_eq_some_iff.1 ho).1 (by
        simp only [List.mem_cons, List.not_mem_nil, or_false, not_or]
        refine ⟨?_, ?_, ?_, ?_⟩ <;> (intro e; subst e)
        · rw [u1] at ho; cases ho; cases hc
        · rw [u2] at ho; cases ho; cases hc
        · rw [u3] at ho; cases ho; cases hc
        · rw [u4] at ho; cases ho; cases hc)
      rw [hk'.2]; exact ho
  have size : W.heap.size ≤ W'.heap.size := by
    have l1 := (Array.getElem?_eq_some_iff.1 u1).1
    by_cases hin : W.heap.size - 1 ∈ [b1, b2, b3, b4]
    · simp only [List.mem_cons, List.not_mem_nil, or_false] at hin
      have k1 := (Array.getElem?_eq_some_iff.1 e1).1
      have k2 := (Array.getElem?_eq_some_iff.1 e2).1
      have k3 := (Array.getElem?_eq_some_iff.1 e3).1
      have k4 := (Array.getElem?_eq_some_iff.1 e4).1
      omega
    · have hk' := (hk (W.heap.size - 1) (by omega) (by omega) hin).2
      rw [Array.getElem?_eq_getElem (xs := W.heap) (show W.heap.size - 1 < W.heap.size by omega)] at hk'
      have := (Array.getElem?_eq_some_iff.1 hk').1
      omega
  refine ⟨⟨size, same⟩, ⟨⟨hS.ext.os.trans h.ext.os.symm, hS.ext.tape.trans h.ext.tape.symm, hS.ext.output.trans h.ext.output.symm, size, fun k hlt => (hS.ext.block k hlt).trans (h.ext.block k hlt).symm⟩, (hk Bs hBs.1 hBs.2.1 hBs.2.2).2⟩,
    ⟨hS.ext, ⟨T1, e1⟩, ⟨T2, e2⟩, ⟨T3, e3⟩, ⟨T4, e4⟩, ⟨U5, ((hk Bs hBs.1 hBs.2.1 hBs.2.2).2).trans u5⟩⟩⟩
theorem WI.step {P : Program} {n m : Nat} {f : Fr} {w : World} {a : Act} {x y : Code} {Q : Exit → Act → World → Prop} {K : Fr → World → Prop} (h : W P n x (nrm K) f w) (ha : Agree n a f) (k : ∀ f' w' a', Agree n a' f' → K f' w' → y.wpIn Fence.wide m P Q a' w') :
    (Code.seq x y).wpIn Fence.wide m P Q a w := by
  refine wpIn_seq (wpIn_mono (wpIn_wide.2 (h a ha)) ?_)
  rintro e a' w' ⟨f', h1, h2⟩
  cases e <;> first | exact k _ _ _ h1 h2 | exact h2.elim
theorem BkI0.cell3 {w W : World} {b1 b2 b3 b4 Bs : Nat} {v : Value} {s : Int × Int × Int × Int} (h : BkI0 w W b1 b2 b3 b4 Bs v s) : W.cell? ⟨b3, 0, none⟩ = some (.int .i64 s.2.2.1) := by
  obtain ⟨T, e⟩ := h.h3
  exact cell_in (vs := [.int .i64 s.2.2.1]) e rfl
/-- Where the loop begins. -/
theorem bk_start {w W : World} {b1 b2 b3 b4 Bs : Nat} {s : Int × Int × Int × Int} {v : Value} (h : St w W [bx b1 [Value.int .i64 s.1], bx b2 [Value.int .i64 s.2.1], bx b3 [Value.int .i64 s.2.2.1], bx b4 [Value.int .i64 s.2.2.2], bx Bs [v]]) :
    w.heap.size ≤ b1 ∧ w.heap.size ≤ b2 ∧ w.heap.size ≤ b3 ∧ w.heap.size ≤ b4 ∧ b1 ≠ b2 ∧ b1 ≠ b3 ∧ b1 ≠ b4 ∧ b2 ≠ b3 ∧ b2 ≠ b4 ∧ b3 ≠ b4 ∧ BkI0 w W b1 b2 b3 b4 Bs v s ∧ w.heap.size ≤ Bs ∧ Bs < W.heap.size ∧ Bs ∉ [b1, b2, b3, b4] ∧ W.cell? ⟨Bs, 0, none⟩ = some v := by
  have hx := h.ext
  obtain ⟨Ss, h1, h2, h3⟩ := h.sep
  obtain ⟨⟨m1, T1, e1⟩, _⟩ := h3 0 _ rfl
  obtain ⟨⟨m2, T2, e2⟩, _⟩ := h3 1 _ rfl
  obtain ⟨⟨m3, T3, e3⟩, _⟩ := h3 2 _ rfl
  obtain ⟨⟨m4, T4, e4⟩, _⟩ := h3 3 _ rfl
  obtain ⟨⟨m5, T5, e5⟩, _⟩ := h3 4 _ rfl
  have ne : ∀ {i j b b'}, Ss i b → Ss j b' → i ≠ j → b ≠ b' := fun hi hj hne e => hne (h2 _ _ _ hi (by rw [e]; exact hj))
  refine ⟨(h1 _ _ m1).1, (h1 _ _ m2).1, (h1 _ _ m3).1, (h1 _ _ m4).1, ne m1 m2 (by decide), ne m1 m3 (by decide), ne m1 m4 (by decide), ne m2 m3 (by decide), ne m2 m4 (by decide), ne m3 m4 (by decide), ⟨hx, ⟨T1, e1⟩, ⟨T2, e2⟩, ⟨T3, e3⟩, ⟨T4, e4⟩, ⟨T5, e5⟩⟩, (h1 _ _ m5).1, (h1 _ _ m5).2, ?_, cell_in e5 rfl⟩
  simp only [List.mem_cons, List.not_mem_nil, or_false, not_or]
  exact ⟨ne m5 m1 (by decide), ne m5 m2 (by decide), ne m5 m3 (by decide), ne m5 m4 (by decide)⟩
end Go.VG
