/- Slices that are read only: as long as the base and the blocks of S stand; two of them that share blocks; rows read at the base; the state of a function value that writes. No condition. -/
import Derived.Test.YtopabdbonlnijaaVgCopy
set_option linter.all false
namespace Go.VG
open Go.RowKit (Below)

/-! ### Short words for what drawn regions hand over -/
abbrev pe (X : Value) : Phi := fun _ v _ _ => v = X
abbrev pj (x : Int) : Phi := fun _ v _ _ => v = Value.int .i64 x ∧ InR .i64 x
theorem ov {P : Program} {l : List Oper} {o : Oper} {f : Fr} {w : World} {φ : Phi} (v : Value) (hg : wantedF l o f = true) (h : OpV P o.op o.type f w v w) (hφ : φ f v noB w) : OpX P l o f w φ := OpX.val v w hg h (Ext.refl _) hφ
section
variable {w w0 : World} {As : List Ent}
/-- The same memory told otherwise. -/
theorem St.tell {A A' : Ent} {k : Nat} (h : St w0 w As) (hk : As[k]? = some A) (hL : Local A') (hu : ∀ S, A S w → A' S w) : St w0 w (As.set k A') :=
  h.upd k hk hL rfl rfl rfl (Nat.le_refl _) fun S hA hS => ⟨fun _ _ _ => rfl, S, hu S hA, fun b hb => ⟨.inl hb, (hS b hb).2⟩⟩
theorem St.addE (h : St w0 w As) : St w0 w (As ++ [emp]) :=
  h.join (Ext.refl w) (Sep.one (S := fun _ => False) trivial emp_local (fun b hb => hb.elim))
end
section
variable {P : Program} {n : Nat} {Q : Post} {f : Fr} {w w0 : World} {T : TypeId} {As : List Ent} {ops : Array Oper} {rest : List Oper} {pos : String} {after : Array Edge}
/-- An owned slice is cut off behind: it stays owned. -/
theorem WL.cutH {α : Type} {t : Ty α} {x o : Operand} {st e : TypeId} {zv : Value} {bytes d k : Nat} {v : Value} {xs xs' : List α} {b : Int} {kd : IntKind} (h : St w0 w As) (hk : As[k]? = some (t.sl.at v xs)) (hT : SlE P st e zv bytes) (hx : ev f x = v) (ho : ev f o = .int kd b) (hc : cutL xs 0 b = some xs') (hd : Nat.blt d n = true)
    (kk : ∀ v', St w0 w (As.set k (t.sl.at v' xs')) → WL P n ops Q rest (upd f d v') w) :
    WL P n ops Q (⟨some d, .slice st x none (some o) none, T, pos, after, none⟩ :: rest) f w := by
  obtain ⟨h0, h1, h2, e1⟩ := cutL_some hc
  have e2 : xs' = xs.take b.toNat := by rw [e1]; simp
  obtain ⟨i, hi', hiz, his, hib⟩ := hT.info
  have hel : P.elem st = e := by simp [Program.elem, hT.1]
  have hel' : P.underlying st = some (.slice (P.elem st)) := by rw [hel]; exact hT.1
  have hsz : (sizeOf (P.elem st)).run P w = .ok 1 w := by rw [hel]; simp [sizeOf, typeInfo, hi', his]
  obtain ⟨S0, hA0, _, _⟩ := h.sep.get k hk
  rcases hA0 with ⟨p, hv, hl⟩ | ⟨bb, c, vs, T', Ss, hv, g2, g3, g4, g5, g6, g7, g8, g9⟩
  · have hb0 : b = 0 := by rw [hl] at h2; simp at h2; omega
    have hx0 : xs' = [] := by rw [e2, hl]; simp
    have key : (Instr.slice st (.slice p 0 0) none (some (.int kd b)) none).run P w = .ok (.slice p 0 0) w := by
      rw [run_slice_h w st p 0 0 hel' kd b (by omega) (by omega), hsz, hb0]
      simp [sliced]
    refine WL.val (.slice p 0 0) w (fun _ _ _ _ => ?_) hd (kk _ ?_)
    · have hat : (Instr.sliceAt st (.slice p 0 0) none (some (.int kd b)) none).run P w = (Instr.slice st (.slice p 0 0) none (some (.int kd b)) none).run P w := by
        simp [Instr.sliceAt, run_underlying hT.1]
      simp [execOp, hx, hv, ho, hat, key]
    · rw [hx0]
      exact h.tell hk (Ty.at_local _ _ _) fun S hA => .inl ⟨p, rfl, rfl⟩
  · have hbl : b.toNat ≤ xs.length := by omega
    have key : (Instr.slice st (.slice (some ⟨bb, 0, none⟩) xs.length c) none (some (.int kd b)) none).run P w = .ok (.slice (some ⟨bb, 0, none⟩) b.toNat c) w := by
      rw [run_slice_h w st _ xs.length c hel' kd b (by omega) (by omega), hsz]
      simp [sliced, Addr.add]
    refine WL.val (.slice (some ⟨bb, 0, none⟩) b.toNat c) w (fun _ _ _ _ => ?_) hd (kk _ ?_)
    · have hat : (Instr.sliceAt st (.slice (some ⟨bb, 0, none⟩) xs.length c) none (some (.int kd b)) none).run P w = (Instr.slice st (.slice (some ⟨bb, 0, none⟩) xs.length c) none (some (.int kd b)) none).run P w := by
        simp [Instr.sliceAt, run_underlying hT.1]
      simp [execOp, hx, hv, ho, hat, key]
    · refine h.tell hk (Ty.at_local _ _ _) fun S hA => ?_
      rcases hA with ⟨p, hv2, hl0⟩ | ⟨bb2, c2, vs2, T2, Ss2, hv2, q2, q3, q4, q5, q6, q7, q8, q9⟩
      · rw [hv] at hv2
        simp only [Value.slice.injEq] at hv2
        obtain ⟨_, el, ec⟩ := hv2
        subst ec
        have hb0 : b.toNat = 0 := by omega
        rw [e2, hb0]
        exact .inl ⟨_, rfl, rfl⟩
      · rw [hv] at hv2
        simp only [Value.slice.injEq, Option.some.injEq, Addr.mk.injEq, and_true, true_and] at hv2
        obtain ⟨eb, ec⟩ := hv2
        subst eb
        subst ec
        have hlen : xs'.length = b.toNat := by rw [e2, List.length_take]; omega
        refine .inr ⟨bb, c, vs2, T2, Ss2, by rw [hlen], q2, q3, q4, by omega, q6, q7, q8, fun i y hy => ?_⟩
        rw [e2, List.getElem?_take] at hy
        split at hy
        · exact q9 i y hy
        · cases hy
end

/-! ### Rows that are read at a base -/
def Ty.bs {α : Type} (w0 : World) (t : Ty α) : Ty α where
  own := fun _ _ v x => t.rep w0 v x
  rep := fun _ v x => t.rep w0 v x
  loc := fun _ h => h
  mono := fun _ h => h
  toRep := fun h => h
  ext := fun _ h => h
  one := fun h => t.one h
theorem flat_bs {α : Type} {w0 : World} {t : Ty α} : (Ty.bs w0 t).Flat := fun _ _ _ _ h => h

/-! ### Read while the base stands and the blocks of S stand -/
structure FrT (α : Type) where
  w0 : World
  t : Ty α
def Ty.fr1 {α : Type} (t : Ty α) (w0 : World) : FrT α := ⟨w0, t⟩
def FrT.at {α : Type} (o : FrT α) (v : Value) (x : α) : Ent := fun S w => ∀ w', Ext o.w0 w' → (∀ b, S b → w'.heap[b]? = w.heap[b]?) → o.t.rep w' v x
theorem FrT.at_local {α : Type} (o : FrT α) (v : Value) (x : α) : Local (o.at v x) :=
  ⟨fun _ _ _ h k w'' he hs => k w'' he fun b hb => (hs b hb).trans (h b hb), fun _ _ _ h k w' he hs => k w' he fun b hb => hs b (h b hb)⟩
section
variable {w0 w : World} {As Rs : List Ent} {B : Nat} {α β : Type} {t : Ty α} {v u1 u2 : Value} {x x1 x2 : α}
theorem St.repFr {wb : World} (h : St wb w As) (he : Ext w0 w) (k : Nat) (hk : As[k]? = some ((t.fr1 w0).at v x)) : t.rep w v x := by
  obtain ⟨S, hA, _⟩ := h.sep.get k hk
  exact hA w he fun _ _ => rfl
theorem Sep.frOwn (h : Sep B w [t.at v x]) : Sep B w [(t.fr1 w0).at v x] := by
  obtain ⟨S, hA, _, hS⟩ := h.get 0 rfl
  exact Sep.one (S := S) (fun w' _ hs => t.toRep (t.loc hs hA)) (FrT.at_local _ _ _) hS
theorem Sep.frRep (h : t.rep w0 v x) : Sep B w [(t.fr1 w0).at v x] :=
  Sep.one (S := fun _ => False) (fun w' he _ => t.lift he h) (FrT.at_local _ _ _) fun _ hb => hb.elim

/-! ### Two that share blocks -/
def fst2 : Value → Value
  | .agg a => a.toList.headD undef
  | _ => undef
def snd2 : Value → Value
  | .agg a => (a.toList.drop 1).headD undef
  | _ => undef
structure Fr2 (α : Type) where
  t : Ty α
def Ty.fr2 {α : Type} (t : Ty α) : Fr2 α := ⟨t⟩
def Fr2.at {α : Type} (o : Fr2 α) (v : Value) (x : α × α) : Ent := fun S w => ∀ w', (∀ b, S b → w'.heap[b]? = w.heap[b]?) → o.t.rep w' (fst2 v) x.1 ∧ o.t.rep w' (snd2 v) x.2
theorem Fr2.at_local (o : Fr2 α) (v : Value) (x : α × α) : Local (o.at v x) :=
  ⟨fun _ _ _ h k w'' hs => k w'' fun b hb => (hs b hb).trans (h b hb), fun _ _ _ h k w' hs => k w' fun b hb => hs b (h b hb)⟩
theorem St.repA {y : α × α} (h : St w0 w As) (k : Nat) (hk : As[k]? = some (t.fr2.at v y)) : t.rep w (fst2 v) y.1 := by
  obtain ⟨S, hA, _⟩ := h.sep.get k hk
  exact (hA w fun _ _ => rfl).1
theorem St.repB {y : α × α} (h : St w0 w As) (k : Nat) (hk : As[k]? = some (t.fr2.at v y)) : t.rep w (snd2 v) y.2 := by
  obtain ⟨S, hA, _⟩ := h.sep.get k hk
  exact (hA w fun _ _ => rfl).2
theorem St.fr2Sub {s : Ty β} {y : β} {k : Nat} (h : St w0 w As) (hk : As[k]? = some (s.at v y)) (h1 : ∀ w', s.rep w' v y → t.rep w' u1 x1) (h2 : ∀ w', s.rep w' v y → t.rep w' u2 x2) :
    St w0 w (As.set k (t.fr2.at (.agg #[u1, u2]) (x1, x2))) :=
  h.tell hk (Fr2.at_local _ _ _) fun S hA w' hs => ⟨h1 _ (s.toRep (s.loc hs hA)), h2 _ (s.toRep (s.loc hs hA))⟩
theorem St.fr2Nil (t : Ty α) (h : St w0 w As) : St w0 w (As ++ [t.sl.fr2.at (.agg #[.slice none 0 0, .slice none 0 0]) ([], [])]) :=
  h.join (Ext.refl w) (Sep.one (S := fun _ => False) (fun w' _ => ⟨nilRep _ _, nilRep _ _⟩) (Fr2.at_local _ _ _) fun b hb => hb.elim)
theorem St.fr2Own {k1 k2 : Nat} (h : St w0 w As) (hk1 : As[k1]? = some (t.at u1 x1)) (hk2 : As[k2]? = some (t.at u2 x2)) (hne : Nat.beq k1 k2 = false) :
    St w0 w ((As.set k1 (t.fr2.at (.agg #[u1, u2]) (x1, x2))).set k2 emp) := by
  have hn : k1 ≠ k2 := fun e => by subst e; rw [Nat.beq_refl] at hne; cases hne
  refine ⟨h.ext, ?_⟩
  obtain ⟨Ss, g1, g2, g3⟩ := h.sep
  refine ⟨fun i b => if i = k1 then Ss k1 b ∨ Ss k2 b else if i = k2 then False else Ss i b, ?_, ?_, ?_⟩
  · intro i b hb
    try dsimp only at hb
    split at hb
    · exact hb.elim (g1 _ b) (g1 _ b)
    · split at hb
      · exact hb.elim
      · exact g1 _ b hb
  · intro i j b hb hc
    try dsimp only at hb hc
    split at hb <;> split at hc
    · omega
    · split at hc
      · exact hc.elim
      · rcases hb with hb | hb
        · have := g2 _ _ b hb hc; omega
        · have := g2 _ _ b hb hc; omega
    · split at hb
      · exact hb.elim
      · rcases hc with hc | hc
        · have := g2 _ _ b hb hc; omega
        · have := g2 _ _ b hb hc; omega
    · split at hb <;> split at hc
      · omega
      · exact hb.elim
      · exact hc.elim
      · exact g2 _ _ b hb hc
  · intro i A hA
    rw [List.getElem?_set] at hA
    split at hA
    · rename_i hi
      split at hA
      · cases hA
        refine ⟨?_, emp_local⟩
        trivial
      · cases hA
    · rename_i hi2
      rw [List.getElem?_set] at hA
      split at hA
      · rename_i hi
        split at hA
        · cases hA
          refine ⟨?_, Fr2.at_local _ _ _⟩
          subst hi
          have e : (fun b => if k1 = k1 then Ss k1 b ∨ Ss k2 b else if k1 = k2 then False else Ss k1 b) = fun b => Ss k1 b ∨ Ss k2 b := by
            funext b; rw [if_pos rfl]
          show t.fr2.at _ _ (fun b => if k1 = k1 then Ss k1 b ∨ Ss k2 b else if k1 = k2 then False else Ss k1 b) w
          rw [e]
          intro w' hs
          exact ⟨t.toRep (t.loc (fun b hb => hs b (.inl hb)) (g3 _ _ hk1).1), t.toRep (t.loc (fun b hb => hs b (.inr hb)) (g3 _ _ hk2).1)⟩
        · cases hA
      · rename_i hi
        obtain ⟨h4, h5⟩ := g3 i A hA
        refine ⟨?_, h5⟩
        have e : (fun b => if i = k1 then Ss k1 b ∨ Ss k2 b else if i = k2 then False else Ss i b) = Ss i := by
          funext b; rw [if_neg (fun e => hi e.symm), if_neg (fun e => hi2 e.symm)]
        show A (fun b => if i = k1 then Ss k1 b ∨ Ss k2 b else if i = k2 then False else Ss i b) w
        rw [e]
        exact h4
end

/-! ### A slice of a slice: read whenever that one is -/
theorem rep_sliceRT {α : Type} {t : Ty α} {w : World} {v : Value} {l : List α} (h : t.sl.rep w v l) {lo hi : Nat} (h1 : lo ≤ hi) (h2 : hi ≤ l.length) : ∃ p c, v = .slice p l.length c ∧ l.length ≤ c ∧
    ∀ w', t.sl.rep w' v l → t.sl.rep w' (.slice (if c = lo then p else p.map (·.add (lo * 1))) (hi - lo) (c - lo)) ((l.take hi).drop lo) := by
  obtain ⟨p, c, hv, hlc, _⟩ := rep_slice h h1 h2
  refine ⟨p, c, hv, hlc, fun w' h' => ?_⟩
  obtain ⟨p', c', hv', _, hr⟩ := rep_slice h' h1 h2
  rw [hv] at hv'
  cases hv'
  exact hr
section
variable {P : Program} {n : Nat} {Q : Post} {f : Fr} {w : World} {T : TypeId}
theorem op_sliceRT {α : Type} {t : Ty α} {v : Value} {l l' : List α} {x : Operand} {lo hi : Option Operand} {st e : TypeId} {zv : Value} {bytes : Nat} {a b : Int} {kd : IntKind} (hT : SlE P st e zv bytes) (hx : ev f x = v) (h : t.sl.rep w v l)
    (hlo : match lo with | some o => ev f o = .int kd a | none => a = 0) (hhi : match hi with | some o => ev f o = .int kd b | none => b = l.length) (hc : cutL l a b = some l') :
    ∃ v', (∀ w', OpV P (.slice st x lo hi none) T f w' v' w') ∧ ∀ w', t.sl.rep w' v l → t.sl.rep w' v' l' := by
  obtain ⟨h0, h1, h2, rfl⟩ := cutL_some hc
  obtain ⟨i, hi', hiz, his, hib⟩ := hT.info
  obtain ⟨p, c, hv, hlc, hrep⟩ := rep_sliceRT h (lo := a.toNat) (hi := b.toNat) (by omega) (by omega)
  refine ⟨_, fun w' _ _ _ _ => ?_, hrep⟩
  have hel : P.elem st = e := by simp [Program.elem, hT.1]
  have hel' : P.underlying st = some (.slice (P.elem st)) := by rw [hel]; exact hT.1
  have hsz : (sizeOf (P.elem st)).run P w' = .ok 1 w' := by rw [hel]; simp [sizeOf, typeInfo, hi', his]
  have key : (Instr.slice st (.slice p l.length c) (lo.map (ev f)) (hi.map (ev f)) none).run P w' = .ok (.slice (if c = a.toNat then p else p.map (·.add (a.toNat * 1))) (b.toNat - a.toNat) (c - a.toNat)) w' := by
    cases lo with
    | none =>
      simp only at hlo; subst hlo
      cases hi with
      | none =>
        simp only at hhi; subst hhi
        simp only [Option.map_none]
        rw [run_slice_all w' st p l.length c hel', hsz]
        simp [sliced]
      | some oh =>
        simp only at hhi
        simp only [Option.map_none, Option.map_some, hhi]
        rw [run_slice_h w' st p l.length c hel' kd b (by omega) (by omega), hsz]
        simp [sliced]
    | some ol =>
      simp only at hlo
      cases hi with
      | none =>
        simp only at hhi; subst hhi
        simp only [Option.map_none, Option.map_some, hlo]
        rw [run_slice_l w' st p l.length c hel' kd a h0 h1, hsz]
        simp [sliced]
      | some oh =>
        simp only at hhi
        simp only [Option.map_some, hlo, hhi]
        rw [run_slice_lh w' st p l.length c hel' kd kd a b h0 h1 (by omega), hsz]
        simp [sliced]
  subst hv
  have hat : (Instr.sliceAt st (.slice p l.length c) (lo.map (ev f)) (hi.map (ev f)) none).run P w' = (Instr.slice st (.slice p l.length c) (lo.map (ev f)) (hi.map (ev f)) none).run P w' := by
    simp [Instr.sliceAt, run_underlying hT.1]
  simp [execOp, hx, hat, key]
end

theorem res4 {P : Program} {fn : Func} {t u s r : Tmp} (h : fn.results = #[.tmp t, .tmp u, .tmp s, .tmp r]) {n : Nat} {f : Fr} {w : World} {v v2 v3 v4 : Value} (hv : f t = v) (hv2 : f u = v2) (hv3 : f s = v3) (hv4 : f r = v4) :
    ∀ a, Agree n a f → (results fn a.tmps).run P w = .ok (.tuple #[v, v2, v3, v4]) w := fun a ha => by
  have e1 := ha.get t; have e2 := ha.get u; have e3 := ha.get s; have e4 := ha.get r
  simp [results, h, ← hv, ← hv2, ← hv3, ← hv4, ← e1, ← e2, ← e3, ← e4]

/-! ### What a function value writes -/
structure ES (σ : Type) where
  ent : σ → Ent
  loc : ∀ s, Local (ent s)
def ES.at {σ : Type} (E : ES σ) (_ : Value) (s : σ) : Ent := E.ent s
/-- A call of the function g with a list that is lent. -/
def EnT (P : Program) (gid : FuncId) (first cap : Array Value) {σ : Type} (E : ES σ) (g : List Int → σ → Option (Bool × σ)) : Prop :=
  ∀ {w0 w : World} {R : Ent} {u : Value} {p : List Int} {s : σ} {res : Bool × σ}, St w0 w [(Ty.sl (Ty.i .i64)).at u p, E.at .nilFunc s, R] → g p s = some res →
    Ret P gid (first ++ #[u] ++ cap) w fun v w' => v = .bool res.1 ∧ St w0 w' [(Ty.sl (Ty.i .i64)).at u p, E.at .nilFunc res.2, R]
/-- A variable of whole numbers. -/
def boxI (b : Nat) : ES Int := ⟨fun s S w => bx b [.int .i64 s] S w ∧ InR .i64 s, fun s => ⟨fun S w w' h k => ⟨(bx_local b _).1 S w w' h k.1, k.2⟩, fun S S' w h k => ⟨(bx_local b _).2 S S' w h k.1, k.2⟩⟩⟩
/-- A variable of a list that it owns; where it is empty it is nil. -/
def boxL (b : Nat) : ES (List Int) := ⟨fun s S w => ∃ v : Value, NilIff v s ∧ restOf [bx b [v], (Ty.sl (Ty.i .i64)).at v s] S w,
  fun s => ⟨fun S w w' h ⟨v, hn, k⟩ => ⟨v, hn, (restOf_local _).1 S w w' h k⟩, fun S S' w h ⟨v, hn, k⟩ => ⟨v, hn, (restOf_local _).2 S S' w h k⟩⟩⟩
section
variable {w0 w : World} {As : List Ent} {b k : Nat} {u v : Value}
theorem St.openI {s : Int} (h : St w0 w As) (hk : As[k]? = some ((boxI b).at u s)) : InR .i64 s ∧ St w0 w (As.set k (bx b [.int .i64 s])) := by
  obtain ⟨S, hA, _⟩ := h.sep.get k hk
  exact ⟨hA.2, h.tell hk (bx_local _ _) fun S hA => hA.1⟩
theorem St.closeI {s : Int} (h : St w0 w As) (hk : As[k]? = some (bx b [.int .i64 s])) (hr : InR .i64 s) : St w0 w (As.set k ((boxI b).at .nilFunc s)) :=
  h.tell hk ((boxI b).loc s) fun S hA => ⟨hA, hr⟩
theorem St.openL {s : List Int} (Bs : List Ent) (h : St w0 w (Bs ++ [(boxL b).at u s])) : ∃ v : Value, NilIff v s ∧ St w0 w (Bs ++ [bx b [v], (Ty.sl (Ty.i .i64)).at v s]) := by
  have hk : (Bs ++ [(boxL b).at u s])[Bs.length]? = some ((boxL b).at u s) := by simp
  obtain ⟨S, ⟨v, hn, _⟩, _⟩ := h.sep.get _ hk
  obtain ⟨Ss, g1, g2, g3⟩ := h.sep
  obtain ⟨⟨v, hn, hr⟩, _⟩ := g3 _ _ hk
  refine ⟨v, hn, ?_⟩
  refine St.unfold Bs _ ⟨h.ext, ?_⟩
  refine ⟨Ss, g1, g2, fun i A hA => ?_⟩
  rw [List.getElem?_append] at hA
  split at hA
  · rename_i hi
    exact g3 i A (by rw [List.getElem?_append, if_pos hi]; exact hA)
  · rename_i hi
    have hi0 : i - Bs.length = 0 := by
      have := (List.getElem?_eq_some_iff.1 hA).1
      simp at this; omega
    rw [hi0] at hA
    simp at hA
    subst hA
    obtain rfl : i = Bs.length := by omega
    exact ⟨hr, restOf_local _⟩
theorem St.closeL {s : List Int} (Bs : List Ent) (h : St w0 w (Bs ++ [bx b [v], (Ty.sl (Ty.i .i64)).at v s])) (hn : NilIff v s) : St w0 w (Bs ++ [(boxL b).at .nilFunc s]) := by
  have h2 := St.fold Bs _ h
  have hk : (Bs ++ [restOf [bx b [v], (Ty.sl (Ty.i .i64)).at v s]])[Bs.length]? = some (restOf [bx b [v], (Ty.sl (Ty.i .i64)).at v s]) := by simp
  have h3 := h2.tell hk ((boxL b).loc s) fun S hA => ⟨v, hn, hA⟩
  rw [List.set_append_right _ _ (Nat.le_refl _)] at h3
  have h4 : St w0 w (Bs ++ [(boxL b).ent s]) := by simpa using h3
  exact h4
end
end Go.VG
