/- The walks, part 4: each Go function returns what its plain twin returns. No condition beyond what each names. -/
import Derived.Test.YtgmimpbkhedfnaaGWalk3
set_option linter.all false
namespace Go.VG
open Go.Proofs
attribute [local irreducible] W WL Sep FinP

theorem c_laws_markInt64SS {w : World} {a : (List (List Int))} {v_a : Value} {k1 : Int} {w0 : World} {R : Ent} (hS0 : St w0 w [(Ty.sl (Ty.sl (Ty.i .i64))).at v_a a, R]) (r_k1 : InR .i64 k1) {res : Int × (List (List Int))} (h : p_laws_markInt64SS a k1  = some res) :
    Ret Try.prog 56 #[v_a, (Value.int .i64 k1)] w (fun v w' => v = Value.int .i64 res.1 ∧ InR .i64 res.1 ∧ St w0 w' [(Ty.sl (Ty.sl (Ty.i .i64))).at v_a res.2, R]) := by
  unfold p_laws_markInt64SS at h
  refine Ret.start (fn := Try.f56) Try.func56 rfl 19 rfl rfl ?_
  refine W.seq (W.region ?_)
  refine WL.val (Value.int .i64 (0 : Int)) _ (op_assign rfl) rfl ?_
  refine WL.nil ?_
  refine W.seq (W.seq (W.region ?_))
  refine WL.val (Value.int .i64 (0 : Int)) _ (op_assign rfl) rfl ?_
  refine WL.nil ?_
  show W _ _ _ _ _ _
  obtain ⟨res1, hres2, h⟩ := bs h
  refine W.blockLoop (fun fq wq => ∃ s, res1 = Res.fin s ∧ fq 1 = Value.int .i64 s.2 ∧ InR .i64 s.2 ∧ (s.1).length = (a).length ∧ St w0 wq [(Ty.sl (Ty.sl (Ty.i .i64))).at v_a s.1, R]) ?_ ?_
  · refine W.forN (fun k (s : (List (List Int)) × Int) fq wq => fq 0 = v_a ∧ fq 1 = Value.int .i64 s.2 ∧ InR .i64 s.2 ∧ fq 5 = Value.int .i64 (k : Int) ∧ InR .i64 (k : Int) ∧ (s.1).length = (a).length ∧ St w0 wq [(Ty.sl (Ty.sl (Ty.i .i64))).at v_a s.1, R]) hres2 ⟨rfl, rfl, r_k1, rfl, (inL rfl), rfl, hS0⟩ ?_ ?_
    · intro k3 s40 ct6 f7 wd8 hk9 hb10 hI11 hbrk12 hret13
      obtain ⟨x4, x5⟩ := s40
      replace hI11 : f7 0 = v_a ∧ f7 1 = Value.int .i64 x5 ∧ InR .i64 x5 ∧ f7 5 = Value.int .i64 (k3 : Int) ∧ InR .i64 (k3 : Int) ∧ (x4).length = (a).length ∧ St w0 wd8 [(Ty.sl (Ty.sl (Ty.i .i64))).at v_a x4, R] := hI11
      replace hb10 : p_laws_markInt64SS_L1  k3 x4 x5 = some ct6 := hb10
      unfold p_laws_markInt64SS_L1 at hb10
      obtain ⟨hf14, hf15, hr16, hf17, hr18, hL19, hS20⟩ := hI11
      refine W.seq (W.seq (W.region ?_))
      refine WL.val (Value.int .i64 (k3 : Int)) _ (op_move hf17) rfl ?_
      refine WL.val v_a _ (op_move hf14) rfl ?_
      have hr21 := inR_len (St.rep (t := (Ty.sl (Ty.sl (Ty.i .i64)))) hS20 0 rfl)
      refine WL.val (Value.int .i64 ((x4).length : Int)) _ (op_lenL sl_26 (St.rep (t := (Ty.sl (Ty.sl (Ty.i .i64)))) hS20 0 rfl) rfl) rfl ?_
      refine WL.val (Value.bool (decide ((k3 : Int) < ((x4).length : Int)))) _ (op_lss rfl rfl) rfl ?_
      have hl22 : (k3 : Int) < ((x4).length : Int) := by omega
      refine WL.nil ?_
      refine W.condT (decide ((k3 : Int) < ((x4).length : Int))) rfl (decide_eq_true hl22) ?_
      refine W.skip ?_
      refine W.seq ?_
      refine W.block ?_
      refine W.region ?_
      refine WL.val v_a _ (op_move hf14) rfl ?_
      refine WL.val (Value.int .i64 (k3 : Int)) _ (op_move hf17) rfl ?_
      obtain ⟨x24, hx27, hb10⟩ := bs hb10
      obtain ⟨ha25, hb26, hx27⟩ := idx_some hx27
      refine WL.val (Value.pointer (some (elA v_a ((k3 : Int)).toNat))) _ (op_idx sl_26 (St.rep (t := (Ty.sl (Ty.sl (Ty.i .i64)))) hS20 0 rfl) rfl rfl ha25 hb26) rfl ?_
      obtain ⟨u28, hc29, hr30⟩ := repSl.el (St.rep (t := (Ty.sl (Ty.sl (Ty.i .i64)))) hS20 0 rfl) hx27
      refine WL.val u28 _ (op_load one_22 rfl hc29) rfl ?_
      refine WL.val (Value.int .i64 x5) _ (op_move hf15) rfl ?_
      have hS31 := St.unrow (k := 0) hS20 rfl hx27 hc29
      replace hS31 : St w0 wd8 [holeAt (Ty.sl (Ty.i .i64)) v_a x4 ((k3 : Int)).toNat u28, R, (Ty.sl (Ty.i .i64)).at u28 x24] := hS31
      obtain ⟨x32, hx33, hb10⟩ := bs hb10
      have hS34 := St.fold [(Ty.sl (Ty.i .i64)).at u28 x24] [holeAt (Ty.sl (Ty.i .i64)) v_a x4 ((k3 : Int)).toNat u28, R] (St.pick hS31 [2, 0, 1] rfl)
      refine WL.call _ (op_call fn_57 (args2 rfl rfl)) (c_laws_markInt64S hS34 hr16 hx33) rfl ?_
      rintro _ wd37 ⟨rfl, hr38, hS35⟩
      have hS36 := St.pick (St.unfold [(Ty.sl (Ty.i .i64)).at u28 x32.2] [holeAt (Ty.sl (Ty.i .i64)) v_a x4 ((k3 : Int)).toNat u28, R] hS35) [1, 2, 0] rfl
      replace hS36 : St w0 wd37 [holeAt (Ty.sl (Ty.i .i64)) v_a x4 ((k3 : Int)).toNat u28, R, (Ty.sl (Ty.i .i64)).at u28 x32.2] := hS36
      have hS39 := St.rerow (k := 0) (k2 := 2) hS36 rfl rfl rfl
      replace hS39 : St w0 wd37 [(Ty.sl (Ty.sl (Ty.i .i64))).at v_a ((x4).set ((k3 : Int)).toNat x32.2), R, emp] := hS39
      refine WL.val (Value.int .i64 x32.1) _ (op_assign rfl) rfl ?_
      refine WL.nil ?_
      show W _ _ _ _ _ _
      refine W.region ?_
      refine WL.val (Value.int .i64 (k3 : Int)) _ (op_move hf17) rfl ?_
      refine WL.val (Value.int .i64 (w64 ((k3 : Int) + (1 : Int)))) _ (op_add rfl rfl) rfl ?_
      refine WL.val (Value.int .i64 (w64 ((k3 : Int) + (1 : Int)))) _ (op_assign rfl) rfl ?_
      refine WL.nil ?_
      obtain rfl := Option.some.inj hb10
      show ∃ s, _ = Ctl.next s ∧ _
      exact ⟨_, rfl, hf14, rfl, hr38, (ctr_next hl22 hr21), (ctr_rng hl22 hr21), (by first | exact hL19 | (simp only [List.length_set]; exact hL19)), (St.pick hS39 [0, 1] rfl)⟩
    · intro s45 f41 wd42 hs43 hI44
      obtain ⟨x46, x47⟩ := s45
      replace hI44 : f41 0 = v_a ∧ f41 1 = Value.int .i64 x47 ∧ InR .i64 x47 ∧ f41 5 = Value.int .i64 (((a).length : Nat) : Int) ∧ InR .i64 (((a).length : Nat) : Int) ∧ (x46).length = (a).length ∧ St w0 wd42 [(Ty.sl (Ty.sl (Ty.i .i64))).at v_a x46, R] := hI44
      obtain ⟨hf48, hf49, hr50, hf51, hr52, hL53, hS54⟩ := hI44
      refine W.seq (W.seq (W.region ?_))
      refine WL.val (Value.int .i64 (((a).length : Nat) : Int)) _ (op_move hf51) rfl ?_
      refine WL.val v_a _ (op_move hf48) rfl ?_
      have hr55 := inR_len (St.rep (t := (Ty.sl (Ty.sl (Ty.i .i64)))) hS54 0 rfl)
      refine WL.val (Value.int .i64 ((x46).length : Int)) _ (op_lenL sl_26 (St.rep (t := (Ty.sl (Ty.sl (Ty.i .i64)))) hS54 0 rfl) rfl) rfl ?_
      refine WL.val (Value.bool (decide ((((a).length : Nat) : Int) < ((x46).length : Int)))) _ (op_lss rfl rfl) rfl ?_
      have hl56 : ¬ (((a).length : Nat) : Int) < ((x46).length : Int) := by omega
      refine WL.nil ?_
      refine W.condF (decide ((((a).length : Nat) : Int) < ((x46).length : Int))) rfl (decide_eq_false hl56) ?_
      refine W.exit ?_
      show _ = _ ∧ _
      exact ⟨rfl, _, hs43, hf49, hr50, (by first | exact hL53 | (simp only [List.length_set]; exact hL53)), hS54⟩
  · rintro f57 wd58 ⟨s60, rfl, hq59⟩
    replace h := onRes_fin h
    obtain ⟨x61, x62⟩ := s60
    replace hq59 : f57 1 = Value.int .i64 x62 ∧ InR .i64 x62 ∧ (x61).length = (a).length ∧ St w0 wd58 [(Ty.sl (Ty.sl (Ty.i .i64))).at v_a x61, R] := hq59
    replace h : (_ : Option _) = _ := h
    dsimp only at h
    obtain ⟨hf63, hr64, hL65, hS66⟩ := hq59
    refine W.seq (W.region ?_)
    refine WL.val (Value.int .i64 x62) _ (op_move hf63) rfl ?_
    refine WL.val (Value.int .i64 x62) _ (op_assign rfl) rfl ?_
    refine WL.nil ?_
    refine W.ret ?_
    obtain rfl := Option.some.inj h
    show FinP _ _ _ _ _ _ _
    exact FinP.ret _ (res1 rfl rfl) ⟨rfl, hr64, (St.pick hS66 [0, 1] rfl)⟩

theorem c_laws_markInt64SSS {w : World} {a : (List (List (List Int)))} {v_a : Value} {k1 : Int} {w0 : World} {R : Ent} (hS0 : St w0 w [(Ty.sl (Ty.sl (Ty.sl (Ty.i .i64)))).at v_a a, R]) (r_k1 : InR .i64 k1) {res : Int × (List (List (List Int)))} (h : p_laws_markInt64SSS a k1  = some res) :
    Ret Try.prog 109 #[v_a, (Value.int .i64 k1)] w (fun v w' => v = Value.int .i64 res.1 ∧ InR .i64 res.1 ∧ St w0 w' [(Ty.sl (Ty.sl (Ty.sl (Ty.i .i64)))).at v_a res.2, R]) := by
  unfold p_laws_markInt64SSS at h
  refine Ret.start (fn := Try.f109) Try.func109 rfl 19 rfl rfl ?_
  refine W.seq (W.region ?_)
  refine WL.val (Value.int .i64 (0 : Int)) _ (op_assign rfl) rfl ?_
  refine WL.nil ?_
  refine W.seq (W.seq (W.region ?_))
  refine WL.val (Value.int .i64 (0 : Int)) _ (op_assign rfl) rfl ?_
  refine WL.nil ?_
  show W _ _ _ _ _ _
  obtain ⟨res1, hres2, h⟩ := bs h
  refine W.blockLoop (fun fq wq => ∃ s, res1 = Res.fin s ∧ fq 1 = Value.int .i64 s.2 ∧ InR .i64 s.2 ∧ (s.1).length = (a).length ∧ St w0 wq [(Ty.sl (Ty.sl (Ty.sl (Ty.i .i64)))).at v_a s.1, R]) ?_ ?_
  · refine W.forN (fun k (s : (List (List (List Int))) × Int) fq wq => fq 0 = v_a ∧ fq 1 = Value.int .i64 s.2 ∧ InR .i64 s.2 ∧ fq 5 = Value.int .i64 (k : Int) ∧ InR .i64 (k : Int) ∧ (s.1).length = (a).length ∧ St w0 wq [(Ty.sl (Ty.sl (Ty.sl (Ty.i .i64)))).at v_a s.1, R]) hres2 ⟨rfl, rfl, r_k1, rfl, (inL rfl), rfl, hS0⟩ ?_ ?_
    · intro k3 s40 ct6 f7 wd8 hk9 hb10 hI11 hbrk12 hret13
      obtain ⟨x4, x5⟩ := s40
      replace hI11 : f7 0 = v_a ∧ f7 1 = Value.int .i64 x5 ∧ InR .i64 x5 ∧ f7 5 = Value.int .i64 (k3 : Int) ∧ InR .i64 (k3 : Int) ∧ (x4).length = (a).length ∧ St w0 wd8 [(Ty.sl (Ty.sl (Ty.sl (Ty.i .i64)))).at v_a x4, R] := hI11
      replace hb10 : p_laws_markInt64SSS_L1  k3 x4 x5 = some ct6 := hb10
      unfold p_laws_markInt64SSS_L1 at hb10
      obtain ⟨hf14, hf15, hr16, hf17, hr18, hL19, hS20⟩ := hI11
      refine W.seq (W.seq (W.region ?_))
      refine WL.val (Value.int .i64 (k3 : Int)) _ (op_move hf17) rfl ?_
      refine WL.val v_a _ (op_move hf14) rfl ?_
      have hr21 := inR_len (St.rep (t := (Ty.sl (Ty.sl (Ty.sl (Ty.i .i64))))) hS20 0 rfl)
      refine WL.val (Value.int .i64 ((x4).length : Int)) _ (op_lenL sl_23 (St.rep (t := (Ty.sl (Ty.sl (Ty.sl (Ty.i .i64))))) hS20 0 rfl) rfl) rfl ?_
      refine WL.val (Value.bool (decide ((k3 : Int) < ((x4).length : Int)))) _ (op_lss rfl rfl) rfl ?_
      have hl22 : (k3 : Int) < ((x4).length : Int) := by omega
      refine WL.nil ?_
      refine W.condT (decide ((k3 : Int) < ((x4).length : Int))) rfl (decide_eq_true hl22) ?_
      refine W.skip ?_
      refine W.seq ?_
      refine W.block ?_
      refine W.region ?_
      refine WL.val v_a _ (op_move hf14) rfl ?_
      refine WL.val (Value.int .i64 (k3 : Int)) _ (op_move hf17) rfl ?_
      obtain ⟨x24, hx27, hb10⟩ := bs hb10
      obtain ⟨ha25, hb26, hx27⟩ := idx_some hx27
      refine WL.val (Value.pointer (some (elA v_a ((k3 : Int)).toNat))) _ (op_idx sl_23 (St.rep (t := (Ty.sl (Ty.sl (Ty.sl (Ty.i .i64))))) hS20 0 rfl) rfl rfl ha25 hb26) rfl ?_
      obtain ⟨u28, hc29, hr30⟩ := repSl.el (St.rep (t := (Ty.sl (Ty.sl (Ty.sl (Ty.i .i64))))) hS20 0 rfl) hx27
      refine WL.val u28 _ (op_load one_26 rfl hc29) rfl ?_
      refine WL.val (Value.int .i64 x5) _ (op_move hf15) rfl ?_
      have hS31 := St.unrow (k := 0) hS20 rfl hx27 hc29
      replace hS31 : St w0 wd8 [holeAt (Ty.sl (Ty.sl (Ty.i .i64))) v_a x4 ((k3 : Int)).toNat u28, R, (Ty.sl (Ty.sl (Ty.i .i64))).at u28 x24] := hS31
      obtain ⟨x32, hx33, hb10⟩ := bs hb10
      have hS34 := St.fold [(Ty.sl (Ty.sl (Ty.i .i64))).at u28 x24] [holeAt (Ty.sl (Ty.sl (Ty.i .i64))) v_a x4 ((k3 : Int)).toNat u28, R] (St.pick hS31 [2, 0, 1] rfl)
      refine WL.call _ (op_call fn_56 (args2 rfl rfl)) (c_laws_markInt64SS hS34 hr16 hx33) rfl ?_
      rintro _ wd37 ⟨rfl, hr38, hS35⟩
      have hS36 := St.pick (St.unfold [(Ty.sl (Ty.sl (Ty.i .i64))).at u28 x32.2] [holeAt (Ty.sl (Ty.sl (Ty.i .i64))) v_a x4 ((k3 : Int)).toNat u28, R] hS35) [1, 2, 0] rfl
      replace hS36 : St w0 wd37 [holeAt (Ty.sl (Ty.sl (Ty.i .i64))) v_a x4 ((k3 : Int)).toNat u28, R, (Ty.sl (Ty.sl (Ty.i .i64))).at u28 x32.2] := hS36
      have hS39 := St.rerow (k := 0) (k2 := 2) hS36 rfl rfl rfl
      replace hS39 : St w0 wd37 [(Ty.sl (Ty.sl (Ty.sl (Ty.i .i64)))).at v_a ((x4).set ((k3 : Int)).toNat x32.2), R, emp] := hS39
      refine WL.val (Value.int .i64 x32.1) _ (op_assign rfl) rfl ?_
      refine WL.nil ?_
      show W _ _ _ _ _ _
      refine W.region ?_
      refine WL.val (Value.int .i64 (k3 : Int)) _ (op_move hf17) rfl ?_
      refine WL.val (Value.int .i64 (w64 ((k3 : Int) + (1 : Int)))) _ (op_add rfl rfl) rfl ?_
      refine WL.val (Value.int .i64 (w64 ((k3 : Int) + (1 : Int)))) _ (op_assign rfl) rfl ?_
      refine WL.nil ?_
      obtain rfl := Option.some.inj hb10
      show ∃ s, _ = Ctl.next s ∧ _
      exact ⟨_, rfl, hf14, rfl, hr38, (ctr_next hl22 hr21), (ctr_rng hl22 hr21), (by first | exact hL19 | (simp only [List.length_set]; exact hL19)), (St.pick hS39 [0, 1] rfl)⟩
    · intro s45 f41 wd42 hs43 hI44
      obtain ⟨x46, x47⟩ := s45
      replace hI44 : f41 0 = v_a ∧ f41 1 = Value.int .i64 x47 ∧ InR .i64 x47 ∧ f41 5 = Value.int .i64 (((a).length : Nat) : Int) ∧ InR .i64 (((a).length : Nat) : Int) ∧ (x46).length = (a).length ∧ St w0 wd42 [(Ty.sl (Ty.sl (Ty.sl (Ty.i .i64)))).at v_a x46, R] := hI44
      obtain ⟨hf48, hf49, hr50, hf51, hr52, hL53, hS54⟩ := hI44
      refine W.seq (W.seq (W.region ?_))
      refine WL.val (Value.int .i64 (((a).length : Nat) : Int)) _ (op_move hf51) rfl ?_
      refine WL.val v_a _ (op_move hf48) rfl ?_
      have hr55 := inR_len (St.rep (t := (Ty.sl (Ty.sl (Ty.sl (Ty.i .i64))))) hS54 0 rfl)
      refine WL.val (Value.int .i64 ((x46).length : Int)) _ (op_lenL sl_23 (St.rep (t := (Ty.sl (Ty.sl (Ty.sl (Ty.i .i64))))) hS54 0 rfl) rfl) rfl ?_
      refine WL.val (Value.bool (decide ((((a).length : Nat) : Int) < ((x46).length : Int)))) _ (op_lss rfl rfl) rfl ?_
      have hl56 : ¬ (((a).length : Nat) : Int) < ((x46).length : Int) := by omega
      refine WL.nil ?_
      refine W.condF (decide ((((a).length : Nat) : Int) < ((x46).length : Int))) rfl (decide_eq_false hl56) ?_
      refine W.exit ?_
      show _ = _ ∧ _
      exact ⟨rfl, _, hs43, hf49, hr50, (by first | exact hL53 | (simp only [List.length_set]; exact hL53)), hS54⟩
  · rintro f57 wd58 ⟨s60, rfl, hq59⟩
    replace h := onRes_fin h
    obtain ⟨x61, x62⟩ := s60
    replace hq59 : f57 1 = Value.int .i64 x62 ∧ InR .i64 x62 ∧ (x61).length = (a).length ∧ St w0 wd58 [(Ty.sl (Ty.sl (Ty.sl (Ty.i .i64)))).at v_a x61, R] := hq59
    replace h : (_ : Option _) = _ := h
    dsimp only at h
    obtain ⟨hf63, hr64, hL65, hS66⟩ := hq59
    refine W.seq (W.region ?_)
    refine WL.val (Value.int .i64 x62) _ (op_move hf63) rfl ?_
    refine WL.val (Value.int .i64 x62) _ (op_assign rfl) rfl ?_
    refine WL.nil ?_
    refine W.ret ?_
    obtain rfl := Option.some.inj h
    show FinP _ _ _ _ _ _ _
    exact FinP.ret _ (res1 rfl rfl) ⟨rfl, hr64, (St.pick hS66 [0, 1] rfl)⟩

theorem c_laws_markCocycle {w : World} {a_Orders : (List Int)} {v_a_Orders : Value} {a_Modulus : Int} {a_Values : (List (List (List Int)))} {v_a_Values : Value} {k1 : Int} {w0 : World} {R : Ent} (hS0 : St w0 w [(Ty.sl (Ty.i .i64)).at v_a_Orders a_Orders, (Ty.sl (Ty.sl (Ty.sl (Ty.i .i64)))).at v_a_Values a_Values, R]) (r_a_Modulus : InR .i64 a_Modulus) (r_k1 : InR .i64 k1) {res : Int × (List Int) × (List (List (List Int)))} (h : p_laws_markCocycle a_Orders a_Modulus a_Values k1  = some res) :
    Ret Try.prog 55 #[(Value.agg #[v_a_Orders, (Value.int .i64 a_Modulus), v_a_Values]), (Value.int .i64 k1)] w (fun v w' => v = Value.int .i64 res.1 ∧ InR .i64 res.1 ∧ St w0 w' [(Ty.sl (Ty.i .i64)).at v_a_Orders res.2.1, (Ty.sl (Ty.sl (Ty.sl (Ty.i .i64)))).at v_a_Values res.2.2, R]) := by
  unfold p_laws_markCocycle at h
  refine Ret.start (fn := Try.f55) Try.func55 rfl 14 rfl rfl ?_
  refine W.seq (W.region ?_)
  refine WL.box hS0 rfl (cs := [v_a_Orders, (Value.int .i64 a_Modulus), v_a_Values]) rfl rfl ?_
  intro b1 wd2 hS3 he4 hx5
  replace hS3 : St w0 wd2 [(Ty.sl (Ty.i .i64)).at v_a_Orders a_Orders, (Ty.sl (Ty.sl (Ty.sl (Ty.i .i64)))).at v_a_Values a_Values, R, bx b1 [v_a_Orders, (Value.int .i64 a_Modulus), v_a_Values]] := hS3
  refine WL.val (Value.int .i64 (0 : Int)) _ (op_assign rfl) rfl ?_
  refine WL.nil ?_
  refine W.seq (W.region ?_)
  refine WL.val (Value.pointer (some ⟨b1, 0, none⟩)) _ (op_fieldAddr fd_34_0 rfl) rfl ?_
  refine WL.val v_a_Orders _ (op_load one_22 rfl (BoxAt.cell (St.boxAt hS3 3 rfl) rfl)) rfl ?_
  refine WL.val (Value.int .i64 k1) _ (op_move rfl) rfl ?_
  obtain ⟨x6, hx7, h⟩ := bs h
  have hS8 := St.fold [(Ty.sl (Ty.i .i64)).at v_a_Orders a_Orders] [(Ty.sl (Ty.sl (Ty.sl (Ty.i .i64)))).at v_a_Values a_Values, R, bx b1 [v_a_Orders, (Value.int .i64 a_Modulus), v_a_Values]] (St.pick hS3 [0, 1, 2, 3] rfl)
  refine WL.call _ (op_call fn_57 (args2 rfl rfl)) (c_laws_markInt64S hS8 r_k1 hx7) rfl ?_
  rintro _ wd11 ⟨rfl, hr12, hS9⟩
  have hS10 := St.pick (St.unfold [(Ty.sl (Ty.i .i64)).at v_a_Orders x6.2] [(Ty.sl (Ty.sl (Ty.sl (Ty.i .i64)))).at v_a_Values a_Values, R, bx b1 [v_a_Orders, (Value.int .i64 a_Modulus), v_a_Values]] hS9) [0, 1, 2, 3] rfl
  replace hS10 : St w0 wd11 [(Ty.sl (Ty.i .i64)).at v_a_Orders x6.2, (Ty.sl (Ty.sl (Ty.sl (Ty.i .i64)))).at v_a_Values a_Values, R, bx b1 [v_a_Orders, (Value.int .i64 a_Modulus), v_a_Values]] := hS10
  refine WL.val (Value.int .i64 x6.1) _ (op_assign rfl) rfl ?_
  refine WL.nil ?_
  refine W.seq (W.region ?_)
  refine WL.val (Value.pointer (some ⟨b1, 2, none⟩)) _ (op_fieldAddr fd_34_2 rfl) rfl ?_
  refine WL.val v_a_Values _ (op_load one_23 rfl (BoxAt.cell (St.boxAt hS10 3 rfl) rfl)) rfl ?_
  refine WL.val (Value.int .i64 x6.1) _ (op_move rfl) rfl ?_
  obtain ⟨x13, hx14, h⟩ := bs h
  have hS15 := St.fold [(Ty.sl (Ty.sl (Ty.sl (Ty.i .i64)))).at v_a_Values a_Values] [(Ty.sl (Ty.i .i64)).at v_a_Orders x6.2, R, bx b1 [v_a_Orders, (Value.int .i64 a_Modulus), v_a_Values]] (St.pick hS10 [1, 0, 2, 3] rfl)
  refine WL.call _ (op_call fn_109 (args2 rfl rfl)) (c_laws_markInt64SSS hS15 hr12 hx14) rfl ?_
  rintro _ wd18 ⟨rfl, hr19, hS16⟩
  have hS17 := St.pick (St.unfold [(Ty.sl (Ty.sl (Ty.sl (Ty.i .i64)))).at v_a_Values x13.2] [(Ty.sl (Ty.i .i64)).at v_a_Orders x6.2, R, bx b1 [v_a_Orders, (Value.int .i64 a_Modulus), v_a_Values]] hS16) [1, 0, 2, 3] rfl
  replace hS17 : St w0 wd18 [(Ty.sl (Ty.i .i64)).at v_a_Orders x6.2, (Ty.sl (Ty.sl (Ty.sl (Ty.i .i64)))).at v_a_Values x13.2, R, bx b1 [v_a_Orders, (Value.int .i64 a_Modulus), v_a_Values]] := hS17
  refine WL.val (Value.int .i64 x13.1) _ (op_assign rfl) rfl ?_
  refine WL.nil ?_
  refine W.seq (W.region ?_)
  refine WL.val (Value.int .i64 x13.1) _ (op_move rfl) rfl ?_
  refine WL.val (Value.int .i64 x13.1) _ (op_assign rfl) rfl ?_
  refine WL.nil ?_
  refine W.ret ?_
  obtain rfl := Option.some.inj h
  show FinP _ _ _ _ _ _ _
  exact FinP.ret _ (res1 rfl rfl) ⟨rfl, hr19, (St.pick hS17 [0, 1, 2] rfl)⟩

theorem c_laws_markBraiding {w : World} {a_Cocycle_Orders : (List Int)} {v_a_Cocycle_Orders : Value} {a_Cocycle_Modulus : Int} {a_Cocycle_Values : (List (List (List Int)))} {v_a_Cocycle_Values : Value} {a_Values : (List (List Int))} {v_a_Values : Value} {k1 : Int} {w0 : World} {R : Ent} (hS0 : St w0 w [(Ty.sl (Ty.i .i64)).at v_a_Cocycle_Orders a_Cocycle_Orders, (Ty.sl (Ty.sl (Ty.sl (Ty.i .i64)))).at v_a_Cocycle_Values a_Cocycle_Values, (Ty.sl (Ty.sl (Ty.i .i64))).at v_a_Values a_Values, R]) (r_a_Cocycle_Modulus : InR .i64 a_Cocycle_Modulus) (r_k1 : InR .i64 k1) {res : Int × (List Int) × (List (List (List Int))) × (List (List Int))} (h : p_laws_markBraiding a_Cocycle_Orders a_Cocycle_Modulus a_Cocycle_Values a_Values k1  = some res) :
    Ret Try.prog 12 #[(Value.agg #[v_a_Cocycle_Orders, (Value.int .i64 a_Cocycle_Modulus), v_a_Cocycle_Values, v_a_Values]), (Value.int .i64 k1)] w (fun v w' => v = Value.int .i64 res.1 ∧ InR .i64 res.1 ∧ St w0 w' [(Ty.sl (Ty.i .i64)).at v_a_Cocycle_Orders res.2.1, (Ty.sl (Ty.sl (Ty.sl (Ty.i .i64)))).at v_a_Cocycle_Values res.2.2.1, (Ty.sl (Ty.sl (Ty.i .i64))).at v_a_Values res.2.2.2, R]) := by
  unfold p_laws_markBraiding at h
  refine Ret.start (fn := Try.f12) Try.func12 rfl 14 rfl rfl ?_
  refine W.seq (W.region ?_)
  refine WL.box hS0 rfl (cs := [v_a_Cocycle_Orders, (Value.int .i64 a_Cocycle_Modulus), v_a_Cocycle_Values, v_a_Values]) rfl rfl ?_
  intro b1 wd2 hS3 he4 hx5
  replace hS3 : St w0 wd2 [(Ty.sl (Ty.i .i64)).at v_a_Cocycle_Orders a_Cocycle_Orders, (Ty.sl (Ty.sl (Ty.sl (Ty.i .i64)))).at v_a_Cocycle_Values a_Cocycle_Values, (Ty.sl (Ty.sl (Ty.i .i64))).at v_a_Values a_Values, R, bx b1 [v_a_Cocycle_Orders, (Value.int .i64 a_Cocycle_Modulus), v_a_Cocycle_Values, v_a_Values]] := hS3
  refine WL.val (Value.int .i64 (0 : Int)) _ (op_assign rfl) rfl ?_
  refine WL.nil ?_
  refine W.seq (W.region ?_)
  refine WL.val (Value.pointer (some ⟨b1, 0, none⟩)) _ (op_fieldAddr fd_36_0 rfl) rfl ?_
  refine WL.val (Value.agg #[v_a_Cocycle_Orders, (Value.int .i64 a_Cocycle_Modulus), v_a_Cocycle_Values]) _ (op_loadBox st_34 rfl (St.boxAt hS3 4 rfl) rfl rfl) rfl ?_
  refine WL.val (Value.int .i64 k1) _ (op_move rfl) rfl ?_
  obtain ⟨x6, hx7, h⟩ := bs h
  have hS8 := St.fold [(Ty.sl (Ty.i .i64)).at v_a_Cocycle_Orders a_Cocycle_Orders, (Ty.sl (Ty.sl (Ty.sl (Ty.i .i64)))).at v_a_Cocycle_Values a_Cocycle_Values] [(Ty.sl (Ty.sl (Ty.i .i64))).at v_a_Values a_Values, R, bx b1 [v_a_Cocycle_Orders, (Value.int .i64 a_Cocycle_Modulus), v_a_Cocycle_Values, v_a_Values]] (St.pick hS3 [0, 1, 2, 3, 4] rfl)
  refine WL.call _ (op_call fn_55 (args2 rfl rfl)) (c_laws_markCocycle hS8 r_a_Cocycle_Modulus r_k1 hx7) rfl ?_
  rintro _ wd11 ⟨rfl, hr12, hS9⟩
  have hS10 := St.pick (St.unfold [(Ty.sl (Ty.i .i64)).at v_a_Cocycle_Orders x6.2.1, (Ty.sl (Ty.sl (Ty.sl (Ty.i .i64)))).at v_a_Cocycle_Values x6.2.2] [(Ty.sl (Ty.sl (Ty.i .i64))).at v_a_Values a_Values, R, bx b1 [v_a_Cocycle_Orders, (Value.int .i64 a_Cocycle_Modulus), v_a_Cocycle_Values, v_a_Values]] hS9) [0, 1, 2, 3, 4] rfl
  replace hS10 : St w0 wd11 [(Ty.sl (Ty.i .i64)).at v_a_Cocycle_Orders x6.2.1, (Ty.sl (Ty.sl (Ty.sl (Ty.i .i64)))).at v_a_Cocycle_Values x6.2.2, (Ty.sl (Ty.sl (Ty.i .i64))).at v_a_Values a_Values, R, bx b1 [v_a_Cocycle_Orders, (Value.int .i64 a_Cocycle_Modulus), v_a_Cocycle_Values, v_a_Values]] := hS10
  refine WL.val (Value.int .i64 x6.1) _ (op_assign rfl) rfl ?_
  refine WL.nil ?_
  refine W.seq (W.region ?_)
  refine WL.val (Value.pointer (some ⟨b1, 3, none⟩)) _ (op_fieldAddr fd_36_1 rfl) rfl ?_
  refine WL.val v_a_Values _ (op_load one_26 rfl (BoxAt.cell (St.boxAt hS10 4 rfl) rfl)) rfl ?_
  refine WL.val (Value.int .i64 x6.1) _ (op_move rfl) rfl ?_
  obtain ⟨x13, hx14, h⟩ := bs h
  have hS15 := St.fold [(Ty.sl (Ty.sl (Ty.i .i64))).at v_a_Values a_Values] [(Ty.sl (Ty.i .i64)).at v_a_Cocycle_Orders x6.2.1, (Ty.sl (Ty.sl (Ty.sl (Ty.i .i64)))).at v_a_Cocycle_Values x6.2.2, R, bx b1 [v_a_Cocycle_Orders, (Value.int .i64 a_Cocycle_Modulus), v_a_Cocycle_Values, v_a_Values]] (St.pick hS10 [2, 0, 1, 3, 4] rfl)
  refine WL.call _ (op_call fn_56 (args2 rfl rfl)) (c_laws_markInt64SS hS15 hr12 hx14) rfl ?_
  rintro _ wd18 ⟨rfl, hr19, hS16⟩
  have hS17 := St.pick (St.unfold [(Ty.sl (Ty.sl (Ty.i .i64))).at v_a_Values x13.2] [(Ty.sl (Ty.i .i64)).at v_a_Cocycle_Orders x6.2.1, (Ty.sl (Ty.sl (Ty.sl (Ty.i .i64)))).at v_a_Cocycle_Values x6.2.2, R, bx b1 [v_a_Cocycle_Orders, (Value.int .i64 a_Cocycle_Modulus), v_a_Cocycle_Values, v_a_Values]] hS16) [1, 2, 0, 3, 4] rfl
  replace hS17 : St w0 wd18 [(Ty.sl (Ty.i .i64)).at v_a_Cocycle_Orders x6.2.1, (Ty.sl (Ty.sl (Ty.sl (Ty.i .i64)))).at v_a_Cocycle_Values x6.2.2, (Ty.sl (Ty.sl (Ty.i .i64))).at v_a_Values x13.2, R, bx b1 [v_a_Cocycle_Orders, (Value.int .i64 a_Cocycle_Modulus), v_a_Cocycle_Values, v_a_Values]] := hS17
  refine WL.val (Value.int .i64 x13.1) _ (op_assign rfl) rfl ?_
  refine WL.nil ?_
  refine W.seq (W.region ?_)
  refine WL.val (Value.int .i64 x13.1) _ (op_move rfl) rfl ?_
  refine WL.val (Value.int .i64 x13.1) _ (op_assign rfl) rfl ?_
  refine WL.nil ?_
  refine W.ret ?_
  obtain rfl := Option.some.inj h
  show FinP _ _ _ _ _ _ _
  exact FinP.ret _ (res1 rfl rfl) ⟨rfl, hr19, (St.pick hS17 [0, 1, 2, 3] rfl)⟩

theorem c_laws_markMetric {w : World} {a_Orders : (List Int)} {v_a_Orders : Value} {a_Modulus : Int} {a_Values : (List Int)} {v_a_Values : Value} {k1 : Int} {w0 : World} {R : Ent} (hS0 : St w0 w [(Ty.sl (Ty.i .i64)).at v_a_Orders a_Orders, (Ty.sl (Ty.i .i64)).at v_a_Values a_Values, R]) (r_a_Modulus : InR .i64 a_Modulus) (r_k1 : InR .i64 k1) {res : Int × (List Int) × (List Int)} (h : p_laws_markMetric a_Orders a_Modulus a_Values k1  = some res) :
    Ret Try.prog 13 #[(Value.agg #[v_a_Orders, (Value.int .i64 a_Modulus), v_a_Values]), (Value.int .i64 k1)] w (fun v w' => v = Value.int .i64 res.1 ∧ InR .i64 res.1 ∧ St w0 w' [(Ty.sl (Ty.i .i64)).at v_a_Orders res.2.1, (Ty.sl (Ty.i .i64)).at v_a_Values res.2.2, R]) := by
  unfold p_laws_markMetric at h
  refine Ret.start (fn := Try.f13) Try.func13 rfl 14 rfl rfl ?_
  refine W.seq (W.region ?_)
  refine WL.box hS0 rfl (cs := [v_a_Orders, (Value.int .i64 a_Modulus), v_a_Values]) rfl rfl ?_
  intro b1 wd2 hS3 he4 hx5
  replace hS3 : St w0 wd2 [(Ty.sl (Ty.i .i64)).at v_a_Orders a_Orders, (Ty.sl (Ty.i .i64)).at v_a_Values a_Values, R, bx b1 [v_a_Orders, (Value.int .i64 a_Modulus), v_a_Values]] := hS3
  refine WL.val (Value.int .i64 (0 : Int)) _ (op_assign rfl) rfl ?_
  refine WL.nil ?_
  refine W.seq (W.region ?_)
  refine WL.val (Value.pointer (some ⟨b1, 0, none⟩)) _ (op_fieldAddr fd_31_0 rfl) rfl ?_
  refine WL.val v_a_Orders _ (op_load one_22 rfl (BoxAt.cell (St.boxAt hS3 3 rfl) rfl)) rfl ?_
  refine WL.val (Value.int .i64 k1) _ (op_move rfl) rfl ?_
  obtain ⟨x6, hx7, h⟩ := bs h
  have hS8 := St.fold [(Ty.sl (Ty.i .i64)).at v_a_Orders a_Orders] [(Ty.sl (Ty.i .i64)).at v_a_Values a_Values, R, bx b1 [v_a_Orders, (Value.int .i64 a_Modulus), v_a_Values]] (St.pick hS3 [0, 1, 2, 3] rfl)
  refine WL.call _ (op_call fn_57 (args2 rfl rfl)) (c_laws_markInt64S hS8 r_k1 hx7) rfl ?_
  rintro _ wd11 ⟨rfl, hr12, hS9⟩
  have hS10 := St.pick (St.unfold [(Ty.sl (Ty.i .i64)).at v_a_Orders x6.2] [(Ty.sl (Ty.i .i64)).at v_a_Values a_Values, R, bx b1 [v_a_Orders, (Value.int .i64 a_Modulus), v_a_Values]] hS9) [0, 1, 2, 3] rfl
  replace hS10 : St w0 wd11 [(Ty.sl (Ty.i .i64)).at v_a_Orders x6.2, (Ty.sl (Ty.i .i64)).at v_a_Values a_Values, R, bx b1 [v_a_Orders, (Value.int .i64 a_Modulus), v_a_Values]] := hS10
  refine WL.val (Value.int .i64 x6.1) _ (op_assign rfl) rfl ?_
  refine WL.nil ?_
  refine W.seq (W.region ?_)
  refine WL.val (Value.pointer (some ⟨b1, 2, none⟩)) _ (op_fieldAddr fd_31_2 rfl) rfl ?_
  refine WL.val v_a_Values _ (op_load one_22 rfl (BoxAt.cell (St.boxAt hS10 3 rfl) rfl)) rfl ?_
  refine WL.val (Value.int .i64 x6.1) _ (op_move rfl) rfl ?_
  obtain ⟨x13, hx14, h⟩ := bs h
  have hS15 := St.fold [(Ty.sl (Ty.i .i64)).at v_a_Values a_Values] [(Ty.sl (Ty.i .i64)).at v_a_Orders x6.2, R, bx b1 [v_a_Orders, (Value.int .i64 a_Modulus), v_a_Values]] (St.pick hS10 [1, 0, 2, 3] rfl)
  refine WL.call _ (op_call fn_57 (args2 rfl rfl)) (c_laws_markInt64S hS15 hr12 hx14) rfl ?_
  rintro _ wd18 ⟨rfl, hr19, hS16⟩
  have hS17 := St.pick (St.unfold [(Ty.sl (Ty.i .i64)).at v_a_Values x13.2] [(Ty.sl (Ty.i .i64)).at v_a_Orders x6.2, R, bx b1 [v_a_Orders, (Value.int .i64 a_Modulus), v_a_Values]] hS16) [1, 0, 2, 3] rfl
  replace hS17 : St w0 wd18 [(Ty.sl (Ty.i .i64)).at v_a_Orders x6.2, (Ty.sl (Ty.i .i64)).at v_a_Values x13.2, R, bx b1 [v_a_Orders, (Value.int .i64 a_Modulus), v_a_Values]] := hS17
  refine WL.val (Value.int .i64 x13.1) _ (op_assign rfl) rfl ?_
  refine WL.nil ?_
  refine W.seq (W.region ?_)
  refine WL.val (Value.int .i64 x13.1) _ (op_move rfl) rfl ?_
  refine WL.val (Value.int .i64 x13.1) _ (op_assign rfl) rfl ?_
  refine WL.nil ?_
  refine W.ret ?_
  obtain rfl := Option.some.inj h
  show FinP _ _ _ _ _ _ _
  exact FinP.ret _ (res1 rfl rfl) ⟨rfl, hr19, (St.pick hS17 [0, 1, 2] rfl)⟩

theorem c_laws_heldInt64S {w : World} {a : (List Int)} {v_a : Value} {k1 : Int} (r_a : (Ty.sl (Ty.i .i64)).rep w v_a a) (r_k1 : InR .i64 k1) {res : Int} (h : p_laws_heldInt64S a k1  = some res) :
    Ret Try.prog 58 #[v_a, (Value.int .i64 k1)] w (fun v w' => v = Value.int .i64 res ∧ InR .i64 res ∧ Ext w w') := by
  unfold p_laws_heldInt64S at h
  have hS0 : St w w [] := St.start w
  refine Ret.start (fn := Try.f58) Try.func58 rfl 21 rfl rfl ?_
  refine W.seq (W.region ?_)
  refine WL.val (Value.int .i64 (0 : Int)) _ (op_assign rfl) rfl ?_
  refine WL.nil ?_
  refine W.seq (W.seq (W.region ?_))
  refine WL.val (Value.int .i64 (0 : Int)) _ (op_assign rfl) rfl ?_
  refine WL.nil ?_
  show W _ _ _ _ _ _
  obtain ⟨res1, hres2, h⟩ := bs h
  refine W.blockLoop (fun fq wq => ∃ s, res1 = Res.fin s ∧ fq 1 = Value.int .i64 s ∧ InR .i64 s ∧ St w wq []) ?_ ?_
  · refine W.forN (fun k (s : Int) fq wq => fq 0 = v_a ∧ fq 1 = Value.int .i64 s ∧ InR .i64 s ∧ fq 5 = Value.int .i64 (k : Int) ∧ InR .i64 (k : Int) ∧ St w wq []) hres2 ⟨rfl, rfl, r_k1, rfl, (inL rfl), hS0⟩ ?_ ?_
    · intro k3 x4 ct5 f6 wd7 hk8 hb9 hI10 hbrk11 hret12
      replace hI10 : f6 0 = v_a ∧ f6 1 = Value.int .i64 x4 ∧ InR .i64 x4 ∧ f6 5 = Value.int .i64 (k3 : Int) ∧ InR .i64 (k3 : Int) ∧ St w wd7 [] := hI10
      replace hb9 : p_laws_heldInt64S_L1 a k3 x4 = some ct5 := hb9
      unfold p_laws_heldInt64S_L1 at hb9
      obtain ⟨hf13, hf14, hr15, hf16, hr17, hS18⟩ := hI10
      refine W.seq (W.seq (W.region ?_))
      refine WL.val (Value.int .i64 (k3 : Int)) _ (op_move hf16) rfl ?_
      refine WL.val v_a _ (op_move hf13) rfl ?_
      have hr19 := inR_len (Ty.lift _ hS18.ext r_a)
      refine WL.val (Value.int .i64 ((a).length : Int)) _ (op_lenL sl_22 (Ty.lift _ hS18.ext r_a) rfl) rfl ?_
      refine WL.val (Value.bool (decide ((k3 : Int) < ((a).length : Int)))) _ (op_lss rfl rfl) rfl ?_
      have hl20 : (k3 : Int) < ((a).length : Int) := by omega
      refine WL.nil ?_
      refine W.condT (decide ((k3 : Int) < ((a).length : Int))) rfl (decide_eq_true hl20) ?_
      refine W.skip ?_
      refine W.seq ?_
      refine W.block ?_
      refine W.seq (W.seq (W.region ?_))
      refine WL.val v_a _ (op_move hf13) rfl ?_
      refine WL.val (Value.int .i64 (k3 : Int)) _ (op_move hf16) rfl ?_
      obtain ⟨x22, hx25, hb9⟩ := bs hb9
      obtain ⟨ha23, hb24, hx25⟩ := idx_some hx25
      refine WL.val (Value.pointer (some (elA v_a ((k3 : Int)).toNat))) _ (op_idx sl_22 (Ty.lift _ hS18.ext r_a) rfl rfl ha23 hb24) rfl ?_
      obtain ⟨u26, hc27, hr28⟩ := repSl.el r_a hx25
      obtain ⟨rfl, hr28⟩ := hr28
      refine WL.val (Value.int .i64 x22) _ (op_load one_2 rfl (Ext.cell hS18.ext hc27)) rfl ?_
      refine WL.val (Value.int .i64 x4) _ (op_move hf14) rfl ?_
      refine WL.val (Value.bool (x22 != x4)) _ (op_neq rfl rfl) rfl ?_
      refine WL.nil ?_
      refine W.cond (x22 != x4) rfl (fun hc29 => ?_) (fun hc29 => ?_)
      · replace hb9 := ip hb9 hc29
        refine W.seq (W.region ?_)
        refine WL.val (Value.int .i64 (-1 : Int)) _ (op_assign rfl) rfl ?_
        refine WL.nil ?_
        refine W.ret ?_
        obtain rfl := Option.some.inj hb9
        obtain rfl := hret12 _ rfl
        replace h := onRes_ret h
        obtain rfl := Option.some.inj h
        show FinP _ _ _ _ _ _ _
        exact FinP.ret _ (res1 rfl rfl) ⟨rfl, (inR_i64.2 (show (-9223372036854775808 : Int) ≤ -1 ∧ (-1 : Int) ≤ 9223372036854775807 from by decide)), hS18.ext⟩
      · replace hb9 := inegb hb9 hc29
        refine W.skip ?_
        show W _ _ _ _ _ _
        refine W.region ?_
        refine WL.val (Value.int .i64 x4) _ (op_move hf14) rfl ?_
        refine WL.val (Value.int .i64 (w64 (x4 + (1 : Int)))) _ (op_add rfl rfl) rfl ?_
        refine WL.val (Value.int .i64 (w64 (x4 + (1 : Int)))) _ (op_assign rfl) rfl ?_
        refine WL.nil ?_
        show W _ _ _ _ _ _
        refine W.region ?_
        refine WL.val (Value.int .i64 (k3 : Int)) _ (op_move hf16) rfl ?_
        refine WL.val (Value.int .i64 (w64 ((k3 : Int) + (1 : Int)))) _ (op_add rfl rfl) rfl ?_
        refine WL.val (Value.int .i64 (w64 ((k3 : Int) + (1 : Int)))) _ (op_assign rfl) rfl ?_
        refine WL.nil ?_
        obtain rfl := Option.some.inj hb9
        show ∃ s, _ = Ctl.next s ∧ _
        exact ⟨_, rfl, hf13, rfl, (inR_wrap _ _), (ctr_next hl20 hr19), (ctr_rng hl20 hr19), hS18⟩
    · intro x37 f32 wd33 hs34 hI35
      replace hI35 : f32 0 = v_a ∧ f32 1 = Value.int .i64 x37 ∧ InR .i64 x37 ∧ f32 5 = Value.int .i64 (((a).length : Nat) : Int) ∧ InR .i64 (((a).length : Nat) : Int) ∧ St w wd33 [] := hI35
      obtain ⟨hf38, hf39, hr40, hf41, hr42, hS43⟩ := hI35
      refine W.seq (W.seq (W.region ?_))
      refine WL.val (Value.int .i64 (((a).length : Nat) : Int)) _ (op_move hf41) rfl ?_
      refine WL.val v_a _ (op_move hf38) rfl ?_
      have hr44 := inR_len (Ty.lift _ hS43.ext r_a)
      refine WL.val (Value.int .i64 ((a).length : Int)) _ (op_lenL sl_22 (Ty.lift _ hS43.ext r_a) rfl) rfl ?_
      refine WL.val (Value.bool (decide ((((a).length : Nat) : Int) < ((a).length : Int)))) _ (op_lss rfl rfl) rfl ?_
      have hl45 : ¬ (((a).length : Nat) : Int) < ((a).length : Int) := by omega
      refine WL.nil ?_
      refine W.condF (decide ((((a).length : Nat) : Int) < ((a).length : Int))) rfl (decide_eq_false hl45) ?_
      refine W.exit ?_
      show _ = _ ∧ _
      exact ⟨rfl, _, hs34, hf39, hr40, hS43⟩
  · rintro f46 wd47 ⟨x50, rfl, hq48⟩
    replace h := onRes_fin h
    replace hq48 : f46 1 = Value.int .i64 x50 ∧ InR .i64 x50 ∧ St w wd47 [] := hq48
    obtain ⟨hf51, hr52, hS53⟩ := hq48
    refine W.seq (W.region ?_)
    refine WL.val (Value.int .i64 x50) _ (op_move hf51) rfl ?_
    refine WL.val (Value.int .i64 x50) _ (op_assign rfl) rfl ?_
    refine WL.nil ?_
    refine W.ret ?_
    obtain rfl := Option.some.inj h
    show FinP _ _ _ _ _ _ _
    exact FinP.ret _ (res1 rfl rfl) ⟨rfl, hr52, hS53.ext⟩

theorem c_laws_heldMetric {w : World} {a_Orders : (List Int)} {v_a_Orders : Value} {a_Modulus : Int} {a_Values : (List Int)} {v_a_Values : Value} {k1 : Int} (r_a_Orders : (Ty.sl (Ty.i .i64)).rep w v_a_Orders a_Orders) (r_a_Modulus : InR .i64 a_Modulus) (r_a_Values : (Ty.sl (Ty.i .i64)).rep w v_a_Values a_Values) (r_k1 : InR .i64 k1) {res : Int} (h : p_laws_heldMetric a_Orders a_Modulus a_Values k1  = some res) :
    Ret Try.prog 14 #[(Value.agg #[v_a_Orders, (Value.int .i64 a_Modulus), v_a_Values]), (Value.int .i64 k1)] w (fun v w' => v = Value.int .i64 res ∧ InR .i64 res ∧ Ext w w') := by
  unfold p_laws_heldMetric at h
  have hS0 : St w w [] := St.start w
  refine Ret.start (fn := Try.f14) Try.func14 rfl 18 rfl rfl ?_
  refine W.seq (W.region ?_)
  refine WL.box hS0 rfl (cs := [v_a_Orders, (Value.int .i64 a_Modulus), v_a_Values]) rfl rfl ?_
  intro b1 wd2 hS3 he4 hx5
  replace hS3 : St w wd2 [bx b1 [v_a_Orders, (Value.int .i64 a_Modulus), v_a_Values]] := hS3
  have hx6 := St.boxAt hS3 0 rfl
  have hE7 : Ext w wd2 := hS3.ext
  have hS8 : St wd2 wd2 [] := St.start wd2
  refine WL.val (Value.int .i64 (0 : Int)) _ (op_assign rfl) rfl ?_
  refine WL.nil ?_
  refine W.seq (W.region ?_)
  refine WL.val (Value.pointer (some ⟨b1, 0, none⟩)) _ (op_fieldAddr fd_31_0 rfl) rfl ?_
  refine WL.val v_a_Orders _ (op_load one_22 rfl (BoxAt.cell (BoxAt.lift hS8.ext hx6) rfl)) rfl ?_
  refine WL.val (Value.int .i64 k1) _ (op_move rfl) rfl ?_
  obtain ⟨x9, hx10, h⟩ := bs h
  refine WL.call _ (op_call fn_58 (args2 rfl rfl)) (c_laws_heldInt64S (Ty.lift _ (Ext.trans hE7 hS8.ext) r_a_Orders) r_k1 hx10) rfl ?_
  rintro _ wd12 ⟨rfl, hr11, he13⟩
  have hS15 := St.extend hS8 he13
  replace hS15 : St wd2 wd12 [] := hS15
  refine WL.val (Value.int .i64 x9) _ (op_assign rfl) rfl ?_
  refine WL.nil ?_
  refine W.seq (W.seq (W.region ?_))
  refine WL.val (Value.int .i64 x9) _ (op_move rfl) rfl ?_
  refine WL.val (Value.bool (decide (x9 < (0 : Int)))) _ (op_lss rfl rfl) rfl ?_
  refine WL.nil ?_
  refine W.cond (decide (x9 < (0 : Int))) rfl (fun hc16 => ?_) (fun hc16 => ?_)
  · replace h := ip h hc16
    refine W.seq (W.region ?_)
    refine WL.val (Value.int .i64 (-1 : Int)) _ (op_assign rfl) rfl ?_
    refine WL.nil ?_
    refine W.ret ?_
    obtain rfl := Option.some.inj h
    show FinP _ _ _ _ _ _ _
    exact FinP.ret _ (res1 rfl rfl) ⟨rfl, (inR_i64.2 (show (-9223372036854775808 : Int) ≤ -1 ∧ (-1 : Int) ≤ 9223372036854775807 from by decide)), (Ext.trans hE7 hS15.ext)⟩
  · replace h := inegb h hc16
    refine W.skip ?_
    refine W.seq (W.region ?_)
    refine WL.val (Value.pointer (some ⟨b1, 2, none⟩)) _ (op_fieldAddr fd_31_2 rfl) rfl ?_
    refine WL.val v_a_Values _ (op_load one_22 rfl (BoxAt.cell (BoxAt.lift hS15.ext hx6) rfl)) rfl ?_
    refine WL.val (Value.int .i64 x9) _ (op_move rfl) rfl ?_
    obtain ⟨x18, hx19, h⟩ := bs h
    refine WL.call _ (op_call fn_58 (args2 rfl rfl)) (c_laws_heldInt64S (Ty.lift _ (Ext.trans hE7 hS15.ext) r_a_Values) hr11 hx19) rfl ?_
    rintro _ wd21 ⟨rfl, hr20, he22⟩
    have hS24 := St.extend hS15 he22
    replace hS24 : St wd2 wd21 [] := hS24
    refine WL.val (Value.int .i64 x18) _ (op_assign rfl) rfl ?_
    refine WL.nil ?_
    refine W.seq (W.seq (W.region ?_))
    refine WL.val (Value.int .i64 x18) _ (op_move rfl) rfl ?_
    refine WL.val (Value.bool (decide (x18 < (0 : Int)))) _ (op_lss rfl rfl) rfl ?_
    refine WL.nil ?_
    refine W.cond (decide (x18 < (0 : Int))) rfl (fun hc25 => ?_) (fun hc25 => ?_)
    · replace h := ip h hc25
      refine W.seq (W.region ?_)
      refine WL.val (Value.int .i64 (-1 : Int)) _ (op_assign rfl) rfl ?_
      refine WL.nil ?_
      refine W.ret ?_
      obtain rfl := Option.some.inj h
      show FinP _ _ _ _ _ _ _
      exact FinP.ret _ (res1 rfl rfl) ⟨rfl, (inR_i64.2 (show (-9223372036854775808 : Int) ≤ -1 ∧ (-1 : Int) ≤ 9223372036854775807 from by decide)), (Ext.trans hE7 hS24.ext)⟩
    · replace h := inegb h hc25
      refine W.skip ?_
      refine W.seq (W.region ?_)
      refine WL.val (Value.int .i64 x18) _ (op_move rfl) rfl ?_
      refine WL.val (Value.int .i64 x18) _ (op_assign rfl) rfl ?_
      refine WL.nil ?_
      refine W.ret ?_
      obtain rfl := Option.some.inj h
      show FinP _ _ _ _ _ _ _
      exact FinP.ret _ (res1 rfl rfl) ⟨rfl, hr20, (Ext.trans hE7 hS24.ext)⟩

theorem c_laws_FnExactFormOfBraiding {w : World} {aB_Cocycle_Orders : (List Int)} {v_aB_Cocycle_Orders : Value} {aB_Cocycle_Modulus : Int} {aB_Cocycle_Values : (List (List (List Int)))} {v_aB_Cocycle_Values : Value} {aB_Values : (List (List Int))} {v_aB_Values : Value} (r_aB_Cocycle_Orders : (Ty.sl (Ty.i .i64)).rep w v_aB_Cocycle_Orders aB_Cocycle_Orders) (r_aB_Cocycle_Modulus : InR .i64 aB_Cocycle_Modulus) (r_aB_Cocycle_Values : (Ty.sl (Ty.sl (Ty.sl (Ty.i .i64)))).rep w v_aB_Cocycle_Values aB_Cocycle_Values) (r_aB_Values : (Ty.sl (Ty.sl (Ty.i .i64))).rep w v_aB_Values aB_Values) {res : Bool} (h : p_laws_FnExactFormOfBraiding aB_Cocycle_Orders aB_Cocycle_Modulus aB_Cocycle_Values aB_Values  = some res) :
    Ret Try.prog 3 #[(Value.agg #[v_aB_Cocycle_Orders, (Value.int .i64 aB_Cocycle_Modulus), v_aB_Cocycle_Values, v_aB_Values])] w (fun v w' => v = Value.bool res ∧ Ext w w') := by
  unfold p_laws_FnExactFormOfBraiding at h
  have hS0 : St w w [] := St.start w
  refine Ret.start (fn := Try.f3) Try.func3 rfl 96 rfl rfl ?_
  refine W.seq (W.region ?_)
  refine WL.box hS0 rfl (cs := [v_aB_Cocycle_Orders, (Value.int .i64 aB_Cocycle_Modulus), v_aB_Cocycle_Values, v_aB_Values]) rfl rfl ?_
  intro b1 wd2 hS3 he4 hx5
  replace hS3 : St w wd2 [bx b1 [v_aB_Cocycle_Orders, (Value.int .i64 aB_Cocycle_Modulus), v_aB_Cocycle_Values, v_aB_Values]] := hS3
  have hx6 := St.boxAt hS3 0 rfl
  have hE7 : Ext w wd2 := hS3.ext
  have hS8 : St wd2 wd2 [] := St.start wd2
  refine WL.val (Value.bool false) _ (op_assign rfl) rfl ?_
  refine WL.nil ?_
  refine W.seq (W.region ?_)
  refine WL.val (Value.int .i64 (1048576 : Int)) _ (op_assign rfl) rfl ?_
  refine WL.nil ?_
  refine W.seq (W.region ?_)
  refine WL.val (Value.agg #[v_aB_Cocycle_Orders, (Value.int .i64 aB_Cocycle_Modulus), v_aB_Cocycle_Values, v_aB_Values]) _ (op_loadBox st_28 rfl (BoxAt.lift hS8.ext hx6) rfl rfl) rfl ?_
  refine WL.val (Value.int .i64 (1048576 : Int)) _ (op_move rfl) rfl ?_
  obtain ⟨x9, hx10, h⟩ := bs h
  refine WL.call _ (op_call fn_6 (args2 rfl rfl)) (c_laws_szBraiding (Ty.lift _ (Ext.trans hE7 hS8.ext) r_aB_Cocycle_Orders) r_aB_Cocycle_Modulus (Ty.lift _ (Ext.trans hE7 hS8.ext) r_aB_Cocycle_Values) (Ty.lift _ (Ext.trans hE7 hS8.ext) r_aB_Values) (inL rfl) hx10) rfl ?_
  rintro _ wd12 ⟨rfl, hr11, he13⟩
  have hS15 := St.extend hS8 he13
  replace hS15 : St wd2 wd12 [] := hS15
  refine WL.val (Value.int .i64 x9) _ (op_assign rfl) rfl ?_
  refine WL.nil ?_
  refine W.seq (W.seq (W.region ?_))
  refine WL.val (Value.int .i64 x9) _ (op_move rfl) rfl ?_
  refine WL.val (Value.bool (decide (x9 < (0 : Int)))) _ (op_lss rfl rfl) rfl ?_
  refine WL.nil ?_
  refine W.cond (decide (x9 < (0 : Int))) rfl (fun hc16 => ?_) (fun hc16 => ?_)
  · replace h := ip h hc16
    refine W.seq (W.region ?_)
    refine WL.val (Value.bool true) _ (op_assign rfl) rfl ?_
    refine WL.nil ?_
    refine W.ret ?_
    obtain rfl := Option.some.inj h
    show FinP _ _ _ _ _ _ _
    exact FinP.ret _ (res1 rfl rfl) ⟨rfl, (Ext.trans hE7 hS15.ext)⟩
  · replace h := inegb h hc16
    refine W.skip ?_
    refine W.seq (W.region ?_)
    refine WL.val (Value.agg #[v_aB_Cocycle_Orders, (Value.int .i64 aB_Cocycle_Modulus), v_aB_Cocycle_Values, v_aB_Values]) _ (op_loadBox st_28 rfl (BoxAt.lift hS15.ext hx6) rfl rfl) rfl ?_
    obtain ⟨x18, hx19, h⟩ := bs h
    refine WL.call _ (op_call fn_8 (args1 rfl)) (c_laws_toBraiding (Ty.lift _ (Ext.trans hE7 hS15.ext) r_aB_Cocycle_Orders) r_aB_Cocycle_Modulus (Ty.lift _ (Ext.trans hE7 hS15.ext) r_aB_Cocycle_Values) (Ty.lift _ (Ext.trans hE7 hS15.ext) r_aB_Values) hx19) rfl ?_
    rintro _ wd24 ⟨u20, u22, u23, rfl, hr21, he25, hs26⟩
    have hS27 := St.join hS15 he25 hs26
    replace hS27 : St wd2 wd24 [(Ty.sl (Ty.i .i64)).at u20 x18.1, (Ty.sl (Ty.sl (Ty.sl (Ty.i .i64)))).at u22 x18.2.2.1, (Ty.sl (Ty.sl (Ty.i .i64))).at u23 x18.2.2.2] := hS27
    have hb28 := St.rep (t := (Ty.sl (Ty.i .i64))) hS27 0 rfl
    have hb29 := St.rep (t := (Ty.sl (Ty.sl (Ty.sl (Ty.i .i64))))) hS27 1 rfl
    have hb30 := St.rep (t := (Ty.sl (Ty.sl (Ty.i .i64)))) hS27 2 rfl
    have hE31 : Ext w wd24 := (Ext.trans hE7 hS27.ext)
    have hE32 : Ext wd2 wd24 := hS27.ext
    have hS33 : St wd24 wd24 [] := St.start wd24
    obtain ⟨x34, hx35, h⟩ := bs h
    refine WL.call _ (op_call fn_7 (args1 rfl)) (c_spec_FormOfBraiding (Ty.lift _ hS33.ext hb28) hr21 (Ty.lift _ hS33.ext hb29) (Ty.lift _ hS33.ext hb30) hx35) rfl ?_
    rintro _ wd40 ⟨u36, u38, rfl, hr37, hr39, he41, hs42⟩
    have hS43 := St.join hS33 he41 hs42
    replace hS43 : St wd24 wd40 [(Ty.sl (Ty.i .i64)).at u36 x34.1, (Ty.sl (Ty.i .i64)).at u38 x34.2.2.1] := hS43
    refine WL.val (Value.tuple #[(Value.agg #[u36, (Value.int .i64 x34.2.1), u38]), (Value.int .i64 x34.2.2.2)]) _ (op_move rfl) rfl ?_
    refine WL.val (Value.agg #[u36, (Value.int .i64 x34.2.1), u38]) _ (op_extract rfl rfl) rfl ?_
    refine WL.val (Value.int .i64 x34.2.2.2) _ (op_extract rfl rfl) rfl ?_
    refine WL.alloc hS43 ze_31 (cs := [(Value.slice none 0 0), (Value.int .i64 (0 : Int)), (Value.slice none 0 0)]) rfl rfl ?_
    intro b44 wd45 hS46 he47
    replace hS46 : St wd24 wd45 [(Ty.sl (Ty.i .i64)).at u36 x34.1, (Ty.sl (Ty.i .i64)).at u38 x34.2.2.1, bx b44 [(Value.slice none 0 0), (Value.int .i64 (0 : Int)), (Value.slice none 0 0)]] := hS46
    refine WL.storeBox [u36, (Value.int .i64 x34.2.1), u38] hS46 (k := 2) rfl rfl rfl (us := [u36, (Value.int .i64 x34.2.1), u38]) rfl sz_31 rfl rfl (all_rep (St.rep (t := (Ty.sl (Ty.i .i64))) hS46 0 rfl) (all_cons rfl (all_rep (St.rep (t := (Ty.sl (Ty.i .i64))) hS46 1 rfl) all_nil))) rfl ?_
    intro wd48 hS49
    replace hS49 : St wd24 wd48 [(Ty.sl (Ty.i .i64)).at u36 x34.1, (Ty.sl (Ty.i .i64)).at u38 x34.2.2.1, bx b44 [u36, (Value.int .i64 x34.2.1), u38]] := hS49
    refine WL.val (Value.int .i64 x34.2.2.2) _ (op_assign rfl) rfl ?_
    refine WL.nil ?_
    refine W.seq (W.region ?_)
    refine WL.val (Value.agg #[v_aB_Cocycle_Orders, (Value.int .i64 aB_Cocycle_Modulus), v_aB_Cocycle_Values, v_aB_Values]) _ (op_loadBox st_28 rfl (BoxAt.lift (Ext.trans hE32 hS49.ext) hx6) rfl rfl) rfl ?_
    obtain ⟨x50, hx51, h⟩ := bs h
    refine WL.call _ (op_call fn_8 (args1 rfl)) (c_laws_toBraiding (Ty.lift _ (Ext.trans hE31 hS49.ext) r_aB_Cocycle_Orders) r_aB_Cocycle_Modulus (Ty.lift _ (Ext.trans hE31 hS49.ext) r_aB_Cocycle_Values) (Ty.lift _ (Ext.trans hE31 hS49.ext) r_aB_Values) hx51) rfl ?_
    rintro _ wd56 ⟨u52, u54, u55, rfl, hr53, he57, hs58⟩
    have hS59 := St.join hS49 he57 hs58
    replace hS59 : St wd24 wd56 [(Ty.sl (Ty.i .i64)).at u36 x34.1, (Ty.sl (Ty.i .i64)).at u38 x34.2.2.1, bx b44 [u36, (Value.int .i64 x34.2.1), u38], (Ty.sl (Ty.i .i64)).at u52 x50.1, (Ty.sl (Ty.sl (Ty.sl (Ty.i .i64)))).at u54 x50.2.2.1, (Ty.sl (Ty.sl (Ty.i .i64))).at u55 x50.2.2.2] := hS59
    refine WL.alloc hS59 ze_36 (cs := [(Value.slice none 0 0), (Value.int .i64 (0 : Int)), (Value.slice none 0 0), (Value.slice none 0 0)]) rfl rfl ?_
    intro b60 wd61 hS62 he63
    replace hS62 : St wd24 wd61 [(Ty.sl (Ty.i .i64)).at u36 x34.1, (Ty.sl (Ty.i .i64)).at u38 x34.2.2.1, bx b44 [u36, (Value.int .i64 x34.2.1), u38], (Ty.sl (Ty.i .i64)).at u52 x50.1, (Ty.sl (Ty.sl (Ty.sl (Ty.i .i64)))).at u54 x50.2.2.1, (Ty.sl (Ty.sl (Ty.i .i64))).at u55 x50.2.2.2, bx b60 [(Value.slice none 0 0), (Value.int .i64 (0 : Int)), (Value.slice none 0 0), (Value.slice none 0 0)]] := hS62
    refine WL.storeBox [u52, (Value.int .i64 x50.2.1), u54, u55] hS62 (k := 6) rfl rfl rfl (us := [u52, (Value.int .i64 x50.2.1), u54, u55]) rfl sz_36 rfl rfl (all_rep (St.rep (t := (Ty.sl (Ty.i .i64))) hS62 3 rfl) (all_cons rfl (all_rep (St.rep (t := (Ty.sl (Ty.sl (Ty.sl (Ty.i .i64))))) hS62 4 rfl) (all_rep (St.rep (t := (Ty.sl (Ty.sl (Ty.i .i64)))) hS62 5 rfl) all_nil)))) rfl ?_
    intro wd64 hS65
    replace hS65 : St wd24 wd64 [(Ty.sl (Ty.i .i64)).at u36 x34.1, (Ty.sl (Ty.i .i64)).at u38 x34.2.2.1, bx b44 [u36, (Value.int .i64 x34.2.1), u38], (Ty.sl (Ty.i .i64)).at u52 x50.1, (Ty.sl (Ty.sl (Ty.sl (Ty.i .i64)))).at u54 x50.2.2.1, (Ty.sl (Ty.sl (Ty.i .i64))).at u55 x50.2.2.2, bx b60 [u52, (Value.int .i64 x50.2.1), u54, u55]] := hS65
    refine WL.nil ?_
    refine W.seq (W.region ?_)
    refine WL.val (Value.agg #[u52, (Value.int .i64 x50.2.1), u54, u55]) _ (op_loadBox st_36 rfl (St.boxAt hS65 6 rfl) rfl rfl) rfl ?_
    obtain ⟨x66, hx67, h⟩ := bs h
    refine WL.call _ (op_call fn_9 (args1 rfl)) (c_impl_FormOfBraiding (St.rep (t := (Ty.sl (Ty.i .i64))) hS65 3 rfl) hr53 (St.rep (t := (Ty.sl (Ty.sl (Ty.sl (Ty.i .i64))))) hS65 4 rfl) (St.rep (t := (Ty.sl (Ty.sl (Ty.i .i64)))) hS65 5 rfl) hx67) rfl ?_
    rintro _ wd72 ⟨u68, u70, rfl, hr69, hr71, he73, hs74⟩
    have hS75 := St.join hS65 he73 hs74
    replace hS75 : St wd24 wd72 [(Ty.sl (Ty.i .i64)).at u36 x34.1, (Ty.sl (Ty.i .i64)).at u38 x34.2.2.1, bx b44 [u36, (Value.int .i64 x34.2.1), u38], (Ty.sl (Ty.i .i64)).at u52 x50.1, (Ty.sl (Ty.sl (Ty.sl (Ty.i .i64)))).at u54 x50.2.2.1, (Ty.sl (Ty.sl (Ty.i .i64))).at u55 x50.2.2.2, bx b60 [u52, (Value.int .i64 x50.2.1), u54, u55], (Ty.sl (Ty.i .i64)).at u68 x66.1, (Ty.sl (Ty.i .i64)).at u70 x66.2.2.1] := hS75
    refine WL.val (Value.tuple #[(Value.agg #[u68, (Value.int .i64 x66.2.1), u70]), (Value.int .i64 x66.2.2.2)]) _ (op_move rfl) rfl ?_
    refine WL.val (Value.agg #[u68, (Value.int .i64 x66.2.1), u70]) _ (op_extract rfl rfl) rfl ?_
    refine WL.val (Value.int .i64 x66.2.2.2) _ (op_extract rfl rfl) rfl ?_
    refine WL.alloc hS75 ze_31 (cs := [(Value.slice none 0 0), (Value.int .i64 (0 : Int)), (Value.slice none 0 0)]) rfl rfl ?_
    intro b76 wd77 hS78 he79
    replace hS78 : St wd24 wd77 [(Ty.sl (Ty.i .i64)).at u36 x34.1, (Ty.sl (Ty.i .i64)).at u38 x34.2.2.1, bx b44 [u36, (Value.int .i64 x34.2.1), u38], (Ty.sl (Ty.i .i64)).at u52 x50.1, (Ty.sl (Ty.sl (Ty.sl (Ty.i .i64)))).at u54 x50.2.2.1, (Ty.sl (Ty.sl (Ty.i .i64))).at u55 x50.2.2.2, bx b60 [u52, (Value.int .i64 x50.2.1), u54, u55], (Ty.sl (Ty.i .i64)).at u68 x66.1, (Ty.sl (Ty.i .i64)).at u70 x66.2.2.1, bx b76 [(Value.slice none 0 0), (Value.int .i64 (0 : Int)), (Value.slice none 0 0)]] := hS78
    refine WL.storeBox [u68, (Value.int .i64 x66.2.1), u70] hS78 (k := 9) rfl rfl rfl (us := [u68, (Value.int .i64 x66.2.1), u70]) rfl sz_31 rfl rfl (all_rep (St.rep (t := (Ty.sl (Ty.i .i64))) hS78 7 rfl) (all_cons rfl (all_rep (St.rep (t := (Ty.sl (Ty.i .i64))) hS78 8 rfl) all_nil))) rfl ?_
    intro wd80 hS81
    replace hS81 : St wd24 wd80 [(Ty.sl (Ty.i .i64)).at u36 x34.1, (Ty.sl (Ty.i .i64)).at u38 x34.2.2.1, bx b44 [u36, (Value.int .i64 x34.2.1), u38], (Ty.sl (Ty.i .i64)).at u52 x50.1, (Ty.sl (Ty.sl (Ty.sl (Ty.i .i64)))).at u54 x50.2.2.1, (Ty.sl (Ty.sl (Ty.i .i64))).at u55 x50.2.2.2, bx b60 [u52, (Value.int .i64 x50.2.1), u54, u55], (Ty.sl (Ty.i .i64)).at u68 x66.1, (Ty.sl (Ty.i .i64)).at u70 x66.2.2.1, bx b76 [u68, (Value.int .i64 x66.2.1), u70]] := hS81
    refine WL.val (Value.int .i64 x66.2.2.2) _ (op_assign rfl) rfl ?_
    refine WL.nil ?_
    refine W.seq (W.seq (W.region ?_))
    refine WL.val (Value.agg #[u68, (Value.int .i64 x66.2.1), u70]) _ (op_loadBox st_31 rfl (St.boxAt hS81 9 rfl) rfl rfl) rfl ?_
    refine WL.val (Value.agg #[u36, (Value.int .i64 x34.2.1), u38]) _ (op_loadBox st_31 rfl (St.boxAt hS81 2 rfl) rfl rfl) rfl ?_
    obtain ⟨x82, hx83, h⟩ := bs h
    refine WL.call _ (op_call fn_10 (args2 rfl rfl)) (c_laws_eqMetric (St.rep (t := (Ty.sl (Ty.i .i64))) hS81 7 rfl) hr69 (St.rep (t := (Ty.sl (Ty.i .i64))) hS81 8 rfl) (St.rep (t := (Ty.sl (Ty.i .i64))) hS81 0 rfl) hr37 (St.rep (t := (Ty.sl (Ty.i .i64))) hS81 1 rfl) hx83) rfl ?_
    rintro _ wd84 ⟨rfl, he85⟩
    have hS87 := St.extend hS81 he85
    replace hS87 : St wd24 wd84 [(Ty.sl (Ty.i .i64)).at u36 x34.1, (Ty.sl (Ty.i .i64)).at u38 x34.2.2.1, bx b44 [u36, (Value.int .i64 x34.2.1), u38], (Ty.sl (Ty.i .i64)).at u52 x50.1, (Ty.sl (Ty.sl (Ty.sl (Ty.i .i64)))).at u54 x50.2.2.1, (Ty.sl (Ty.sl (Ty.i .i64))).at u55 x50.2.2.2, bx b60 [u52, (Value.int .i64 x50.2.1), u54, u55], (Ty.sl (Ty.i .i64)).at u68 x66.1, (Ty.sl (Ty.i .i64)).at u70 x66.2.2.1, bx b76 [u68, (Value.int .i64 x66.2.1), u70]] := hS87
    refine WL.val (Value.bool (!x82)) _ (op_not rfl) rfl ?_
    refine WL.val (Value.bool (!x82)) _ (op_move rfl) rfl ?_
    refine WL.cut 4 (fun fq wq => fq 1 = (Value.pointer (some ⟨b1, 0, none⟩)) ∧ fq 4 = (Value.pointer (some ⟨b44, 0, none⟩)) ∧ fq 5 = (Value.int .i64 x34.2.2.2) ∧ fq 6 = (Value.pointer (some ⟨b60, 0, none⟩)) ∧ fq 7 = (Value.pointer (some ⟨b76, 0, none⟩)) ∧ fq 8 = (Value.int .i64 x66.2.2.2) ∧ fq 40 = (Value.bool ((!x82) || (x66.2.2.2 != x34.2.2.2))) ∧ St wd24 wq [(Ty.sl (Ty.i .i64)).at u36 x34.1, (Ty.sl (Ty.i .i64)).at u38 x34.2.2.1, bx b44 [u36, (Value.int .i64 x34.2.1), u38], (Ty.sl (Ty.i .i64)).at u52 x50.1, (Ty.sl (Ty.sl (Ty.sl (Ty.i .i64)))).at u54 x50.2.2.1, (Ty.sl (Ty.sl (Ty.i .i64))).at u55 x50.2.2.2, bx b60 [u52, (Value.int .i64 x50.2.1), u54, u55], (Ty.sl (Ty.i .i64)).at u68 x66.1, (Ty.sl (Ty.i .i64)).at u70 x66.2.2.1, bx b76 [u68, (Value.int .i64 x66.2.1), u70]]) ?_ ?_
    · rcases Bool.eq_false_or_eq_true (!x82) with hc88 | hc88
      · refine WL.gskip rfl (bool_of rfl hc88) rfl ?_
        refine WL.gskip rfl (bool_of rfl hc88) rfl ?_
        refine WL.gskip rfl (bool_of rfl hc88) rfl ?_
        refine WL.val (Value.bool true) _ (op_pick_t (evb_of rfl hc88) rfl) rfl ?_
        refine WL.nil ?_
        exact ⟨rfl, rfl, rfl, rfl, rfl, rfl, rfl, (orT hc88), hS87⟩
      · refine WL.grun rfl (bool_of rfl hc88) ?_
        refine WL.val (Value.int .i64 x66.2.2.2) _ (op_move rfl) rfl ?_
        refine WL.grun rfl (bool_of rfl hc88) ?_
        refine WL.val (Value.int .i64 x34.2.2.2) _ (op_move rfl) rfl ?_
        refine WL.grun rfl (bool_of rfl hc88) ?_
        refine WL.val (Value.bool (x66.2.2.2 != x34.2.2.2)) _ (op_neq rfl rfl) rfl ?_
        refine WL.val (Value.bool (x66.2.2.2 != x34.2.2.2)) _ (op_pick_f (evb_of rfl hc88) rfl) rfl ?_
        refine WL.nil ?_
        exact ⟨rfl, rfl, rfl, rfl, rfl, rfl, rfl, (orF hc88), hS87⟩
    · intro f89 wd90 hq91
      obtain ⟨hf92, hf93, hf94, hf95, hf96, hf97, hf98, hS99⟩ := hq91
      refine WL.nil ?_
      refine W.cond ((!x82) || (x66.2.2.2 != x34.2.2.2)) hf98 (fun hc100 => ?_) (fun hc100 => ?_)
      · replace h := ip h hc100
        refine W.seq (W.region ?_)
        refine WL.val (Value.bool false) _ (op_assign rfl) rfl ?_
        refine WL.nil ?_
        refine W.ret ?_
        obtain rfl := Option.some.inj h
        show FinP _ _ _ _ _ _ _
        exact FinP.ret _ (res1 rfl rfl) ⟨rfl, (Ext.trans hE31 hS99.ext)⟩
      · replace h := inegb h hc100
        refine W.skip ?_
        refine W.seq (W.seq ?_)
        obtain ⟨x127, hx128, h⟩ := bs h
        refine W.drawR mixo 3 [] [fun _ v S w' => v = (Value.agg #[u52, (Value.int .i64 x50.2.1), u54, u55]) ∧ InR .i64 x50.2.1, fun _ v S w' => v = (Value.agg #[v_aB_Cocycle_Orders, (Value.int .i64 aB_Cocycle_Modulus), v_aB_Cocycle_Values, v_aB_Values]) ∧ InR .i64 aB_Cocycle_Modulus, fun _ v S w' => ∃ (uu0 : Value) (uu1 : Value) (uu2 : Value), v = (Value.agg #[uu0, (Value.int .i64 x127.2.1), uu1, uu2]) ∧ InR .i64 x127.2.1 ∧ SepS S w' [(Ty.sl (Ty.i .i64)).at uu0 x127.1, (Ty.sl (Ty.sl (Ty.sl (Ty.i .i64)))).at uu1 x127.2.2.1, (Ty.sl (Ty.sl (Ty.i .i64))).at uu2 x127.2.2.2]] (by kernel_rfl) (by kernel_rfl) ⟨⟨fun _ _ _ _ _ he ⟨h0, h1⟩ => ⟨h0, h1⟩, fun _ _ _ _ _ _ h => h⟩, ⟨fun _ _ _ _ _ he ⟨h0, h1⟩ => ⟨h0, h1⟩, fun _ _ _ _ _ _ h => h⟩, ⟨fun _ _ _ _ _ he ⟨uu0, uu1, uu2, h0, h1, r0⟩ => ⟨uu0, uu1, uu2, h0, h1, SepS.extend he r0⟩, fun _ _ _ _ _ _ h => h⟩, trivial⟩ ⟨?_, ?_, ?_, trivial⟩ ?_
        · refine ObX.op rfl fun f102 wd103 he104 hout105 hphi106 => ?_
          have hS107 := St.extend hS99 he104
          have e108 : f102 6 = (Value.pointer (some ⟨b60, 0, none⟩)) := (hout105 6 rfl).trans hf95
          exact OpX.val (Value.agg #[u52, (Value.int .i64 x50.2.1), u54, u55]) wd103 rfl (op_loadBox st_36 e108 (St.boxAt hS107 6 rfl) rfl rfl) (Ext.refl _) ⟨rfl, hr53⟩
        · refine ObX.op rfl fun f109 wd110 he111 hout112 hphi113 => ?_
          have hS114 := St.extend hS99 he111
          have e115 : f109 1 = (Value.pointer (some ⟨b1, 0, none⟩)) := (hout112 1 rfl).trans hf92
          exact OpX.val (Value.agg #[v_aB_Cocycle_Orders, (Value.int .i64 aB_Cocycle_Modulus), v_aB_Cocycle_Values, v_aB_Values]) wd110 rfl (op_loadBox st_28 e115 (BoxAt.lift (Ext.trans hE32 hS114.ext) hx6) rfl rfl) (Ext.refl _) ⟨rfl, r_aB_Cocycle_Modulus⟩
        · refine ObX.op rfl fun f116 wd117 he118 hout119 hphi120 => ?_
          have hS121 := St.extend hS99 he118
          obtain ⟨S122, hS123, hf124⟩ := hphi120 1 42 _ rfl rfl rfl
          obtain ⟨e125, hr126⟩ := hf124
          refine OpX.call rfl (op_call fn_8 (args1 e125)) (Ret.mono (c_laws_toBraiding (Ty.lift _ (Ext.trans hE31 hS121.ext) r_aB_Cocycle_Orders) hr126 (Ty.lift _ (Ext.trans hE31 hS121.ext) r_aB_Cocycle_Values) (Ty.lift _ (Ext.trans hE31 hS121.ext) r_aB_Values) hx128) ?_)
          rintro _ wd133 ⟨u129, u131, u132, rfl, hr130, he134, hs135⟩
          exact ⟨he134, _, newS _ _, ⟨u129, u131, u132, rfl, hr130, (Sep.new hs135)⟩⟩
        · intro f136 wd137 Ss138 he139 hout140 hSn141 hSd142 hphi143
          show WL _ _ _ _ _ _ _
          obtain ⟨e145, hr146⟩ := hphi143 0 41 _ (by decide) rfl rfl
          obtain ⟨u148, u150, u151, e147, hr149, e147s⟩ := hphi143 2 43 _ (by decide) rfl rfl
          have e152 : f136 1 = (Value.pointer (some ⟨b1, 0, none⟩)) := (hout140 1 rfl).trans hf92
          have e153 : f136 4 = (Value.pointer (some ⟨b44, 0, none⟩)) := (hout140 4 rfl).trans hf93
          have e154 : f136 5 = (Value.int .i64 x34.2.2.2) := (hout140 5 rfl).trans hf94
          have e155 : f136 6 = (Value.pointer (some ⟨b60, 0, none⟩)) := (hout140 6 rfl).trans hf95
          have e156 : f136 7 = (Value.pointer (some ⟨b76, 0, none⟩)) := (hout140 7 rfl).trans hf96
          have e157 : f136 8 = (Value.int .i64 x66.2.2.2) := (hout140 8 rfl).trans hf97
          have hS158 := St.joinS hS99 he139 hSn141 (SepS.consS hSd142 rfl e147s SepS.nilS)
          replace hS158 : St wd24 wd137 [(Ty.sl (Ty.i .i64)).at u36 x34.1, (Ty.sl (Ty.i .i64)).at u38 x34.2.2.1, bx b44 [u36, (Value.int .i64 x34.2.1), u38], (Ty.sl (Ty.i .i64)).at u52 x50.1, (Ty.sl (Ty.sl (Ty.sl (Ty.i .i64)))).at u54 x50.2.2.1, (Ty.sl (Ty.sl (Ty.i .i64))).at u55 x50.2.2.2, bx b60 [u52, (Value.int .i64 x50.2.1), u54, u55], (Ty.sl (Ty.i .i64)).at u68 x66.1, (Ty.sl (Ty.i .i64)).at u70 x66.2.2.1, bx b76 [u68, (Value.int .i64 x66.2.1), u70], (Ty.sl (Ty.i .i64)).at u148 x127.1, (Ty.sl (Ty.sl (Ty.sl (Ty.i .i64)))).at u150 x127.2.2.1, (Ty.sl (Ty.sl (Ty.i .i64))).at u151 x127.2.2.2] := hS158
          obtain ⟨x159, hx160, h⟩ := bs h
          refine WL.call _ (op_call fn_11 (args2 e145 e147)) (c_laws_eqBraiding (St.rep (t := (Ty.sl (Ty.i .i64))) hS158 3 rfl) hr146 (St.rep (t := (Ty.sl (Ty.sl (Ty.sl (Ty.i .i64))))) hS158 4 rfl) (St.rep (t := (Ty.sl (Ty.sl (Ty.i .i64)))) hS158 5 rfl) (St.rep (t := (Ty.sl (Ty.i .i64))) hS158 10 rfl) hr149 (St.rep (t := (Ty.sl (Ty.sl (Ty.sl (Ty.i .i64))))) hS158 11 rfl) (St.rep (t := (Ty.sl (Ty.sl (Ty.i .i64)))) hS158 12 rfl) hx160) rfl ?_
          rintro _ wd161 ⟨rfl, he162⟩
          have hS164 := St.extend hS158 he162
          replace hS164 : St wd24 wd161 [(Ty.sl (Ty.i .i64)).at u36 x34.1, (Ty.sl (Ty.i .i64)).at u38 x34.2.2.1, bx b44 [u36, (Value.int .i64 x34.2.1), u38], (Ty.sl (Ty.i .i64)).at u52 x50.1, (Ty.sl (Ty.sl (Ty.sl (Ty.i .i64)))).at u54 x50.2.2.1, (Ty.sl (Ty.sl (Ty.i .i64))).at u55 x50.2.2.2, bx b60 [u52, (Value.int .i64 x50.2.1), u54, u55], (Ty.sl (Ty.i .i64)).at u68 x66.1, (Ty.sl (Ty.i .i64)).at u70 x66.2.2.1, bx b76 [u68, (Value.int .i64 x66.2.1), u70], (Ty.sl (Ty.i .i64)).at u148 x127.1, (Ty.sl (Ty.sl (Ty.sl (Ty.i .i64)))).at u150 x127.2.2.1, (Ty.sl (Ty.sl (Ty.i .i64))).at u151 x127.2.2.2] := hS164
          refine WL.val (Value.bool (!x159)) _ (op_not rfl) rfl ?_
          refine WL.nil ?_
          refine W.cond (!x159) rfl (fun hc165 => ?_) (fun hc165 => ?_)
          · replace h := ip h hc165
            refine W.seq (W.region ?_)
            refine WL.val (Value.bool false) _ (op_assign rfl) rfl ?_
            refine WL.nil ?_
            refine W.ret ?_
            obtain rfl := Option.some.inj h
            show FinP _ _ _ _ _ _ _
            exact FinP.ret _ (res1 rfl rfl) ⟨rfl, (Ext.trans hE31 hS164.ext)⟩
          · replace h := inegb h hc165
            refine W.skip ?_
            refine W.seq (W.region ?_)
            refine WL.val (Value.int .i64 (1 : Int)) _ (op_assign rfl) rfl ?_
            refine WL.nil ?_
            refine W.seq (W.region ?_)
            refine WL.val (Value.agg #[u52, (Value.int .i64 x50.2.1), u54, u55]) _ (op_loadBox st_36 e155 (St.boxAt hS164 6 rfl) rfl rfl) rfl ?_
            refine WL.val (Value.int .i64 (1 : Int)) _ (op_move rfl) rfl ?_
            obtain ⟨x167, hx168, h⟩ := bs h
            have hS169 := St.fold [(Ty.sl (Ty.i .i64)).at u52 x50.1, (Ty.sl (Ty.sl (Ty.sl (Ty.i .i64)))).at u54 x50.2.2.1, (Ty.sl (Ty.sl (Ty.i .i64))).at u55 x50.2.2.2] [(Ty.sl (Ty.i .i64)).at u36 x34.1, (Ty.sl (Ty.i .i64)).at u38 x34.2.2.1, bx b44 [u36, (Value.int .i64 x34.2.1), u38], bx b60 [u52, (Value.int .i64 x50.2.1), u54, u55], (Ty.sl (Ty.i .i64)).at u68 x66.1, (Ty.sl (Ty.i .i64)).at u70 x66.2.2.1, bx b76 [u68, (Value.int .i64 x66.2.1), u70], (Ty.sl (Ty.i .i64)).at u148 x127.1, (Ty.sl (Ty.sl (Ty.sl (Ty.i .i64)))).at u150 x127.2.2.1, (Ty.sl (Ty.sl (Ty.i .i64))).at u151 x127.2.2.2] (St.pick hS164 [3, 4, 5, 0, 1, 2, 6, 7, 8, 9, 10, 11, 12] rfl)
            refine WL.call _ (op_call fn_12 (args2 rfl rfl)) (c_laws_markBraiding hS169 hr53 (inL rfl) hx168) rfl ?_
            rintro _ wd172 ⟨rfl, hr173, hS170⟩
            have hS171 := St.pick (St.unfold [(Ty.sl (Ty.i .i64)).at u52 x167.2.1, (Ty.sl (Ty.sl (Ty.sl (Ty.i .i64)))).at u54 x167.2.2.1, (Ty.sl (Ty.sl (Ty.i .i64))).at u55 x167.2.2.2] [(Ty.sl (Ty.i .i64)).at u36 x34.1, (Ty.sl (Ty.i .i64)).at u38 x34.2.2.1, bx b44 [u36, (Value.int .i64 x34.2.1), u38], bx b60 [u52, (Value.int .i64 x50.2.1), u54, u55], (Ty.sl (Ty.i .i64)).at u68 x66.1, (Ty.sl (Ty.i .i64)).at u70 x66.2.2.1, bx b76 [u68, (Value.int .i64 x66.2.1), u70], (Ty.sl (Ty.i .i64)).at u148 x127.1, (Ty.sl (Ty.sl (Ty.sl (Ty.i .i64)))).at u150 x127.2.2.1, (Ty.sl (Ty.sl (Ty.i .i64))).at u151 x127.2.2.2] hS170) [3, 4, 5, 0, 1, 2, 6, 7, 8, 9, 10, 11, 12] rfl
            replace hS171 : St wd24 wd172 [(Ty.sl (Ty.i .i64)).at u36 x34.1, (Ty.sl (Ty.i .i64)).at u38 x34.2.2.1, bx b44 [u36, (Value.int .i64 x34.2.1), u38], (Ty.sl (Ty.i .i64)).at u52 x167.2.1, (Ty.sl (Ty.sl (Ty.sl (Ty.i .i64)))).at u54 x167.2.2.1, (Ty.sl (Ty.sl (Ty.i .i64))).at u55 x167.2.2.2, bx b60 [u52, (Value.int .i64 x50.2.1), u54, u55], (Ty.sl (Ty.i .i64)).at u68 x66.1, (Ty.sl (Ty.i .i64)).at u70 x66.2.2.1, bx b76 [u68, (Value.int .i64 x66.2.1), u70], (Ty.sl (Ty.i .i64)).at u148 x127.1, (Ty.sl (Ty.sl (Ty.sl (Ty.i .i64)))).at u150 x127.2.2.1, (Ty.sl (Ty.sl (Ty.i .i64))).at u151 x127.2.2.2] := hS171
            refine WL.val (Value.int .i64 x167.1) _ (op_assign rfl) rfl ?_
            refine WL.nil ?_
            refine W.seq (W.seq (W.region ?_))
            refine WL.val (Value.int .i64 x167.1) _ (op_move rfl) rfl ?_
            refine WL.val (Value.bool (decide (x167.1 < (0 : Int)))) _ (op_lss rfl rfl) rfl ?_
            refine WL.val (Value.bool (decide (x167.1 < (0 : Int)))) _ (op_move rfl) rfl ?_
            obtain ⟨x175, hj176, h⟩ := bs h
            refine WL.cut 5 (fun fq wq => fq 1 = (Value.pointer (some ⟨b1, 0, none⟩)) ∧ fq 4 = (Value.pointer (some ⟨b44, 0, none⟩)) ∧ fq 5 = (Value.int .i64 x34.2.2.2) ∧ fq 7 = (Value.pointer (some ⟨b76, 0, none⟩)) ∧ fq 8 = (Value.int .i64 x66.2.2.2) ∧ fq 56 = Value.bool x175 ∧ St wd24 wq [(Ty.sl (Ty.i .i64)).at u36 x34.1, (Ty.sl (Ty.i .i64)).at u38 x34.2.2.1, bx b44 [u36, (Value.int .i64 x34.2.1), u38], (Ty.sl (Ty.i .i64)).at u68 x66.1, (Ty.sl (Ty.i .i64)).at u70 x66.2.2.1, bx b76 [u68, (Value.int .i64 x66.2.1), u70]]) ?_ ?_
            · rcases Bool.eq_false_or_eq_true (decide (x167.1 < (0 : Int))) with hc174 | hc174
              · replace hj176 := ip hj176 hc174
                refine WL.gskip rfl (bool_of rfl hc174) rfl ?_
                refine WL.gskip rfl (bool_of rfl hc174) rfl ?_
                refine WL.gskip rfl (bool_of rfl hc174) rfl ?_
                refine WL.gskip rfl (bool_of rfl hc174) rfl ?_
                refine WL.val (Value.bool true) _ (op_pick_t (evb_of rfl hc174) rfl) rfl ?_
                refine WL.nil ?_
                obtain rfl := Option.some.inj hj176
                exact ⟨rfl, e152, e153, e154, e156, e157, rfl, (St.pick hS171 [0, 1, 2, 7, 8, 9] rfl)⟩
              · replace hj176 := inegb hj176 hc174
                refine WL.grun rfl (bool_of rfl hc174) ?_
                refine WL.val (Value.agg #[u68, (Value.int .i64 x66.2.1), u70]) _ (op_loadBox st_31 e156 (St.boxAt hS171 9 rfl) rfl rfl) rfl ?_
                refine WL.grun rfl (bool_of rfl hc174) ?_
                refine WL.val (Value.agg #[u36, (Value.int .i64 x34.2.1), u38]) _ (op_loadBox st_31 e153 (St.boxAt hS171 2 rfl) rfl rfl) rfl ?_
                refine WL.grun rfl (bool_of rfl hc174) ?_
                obtain ⟨x180, hx181, hj176⟩ := bs hj176
                refine WL.call _ (op_call fn_10 (args2 rfl rfl)) (c_laws_eqMetric (St.rep (t := (Ty.sl (Ty.i .i64))) hS171 7 rfl) hr69 (St.rep (t := (Ty.sl (Ty.i .i64))) hS171 8 rfl) (St.rep (t := (Ty.sl (Ty.i .i64))) hS171 0 rfl) hr37 (St.rep (t := (Ty.sl (Ty.i .i64))) hS171 1 rfl) hx181) rfl ?_
                rintro _ wd182 ⟨rfl, he183⟩
                have hS185 := St.extend hS171 he183
                replace hS185 : St wd24 wd182 [(Ty.sl (Ty.i .i64)).at u36 x34.1, (Ty.sl (Ty.i .i64)).at u38 x34.2.2.1, bx b44 [u36, (Value.int .i64 x34.2.1), u38], (Ty.sl (Ty.i .i64)).at u52 x167.2.1, (Ty.sl (Ty.sl (Ty.sl (Ty.i .i64)))).at u54 x167.2.2.1, (Ty.sl (Ty.sl (Ty.i .i64))).at u55 x167.2.2.2, bx b60 [u52, (Value.int .i64 x50.2.1), u54, u55], (Ty.sl (Ty.i .i64)).at u68 x66.1, (Ty.sl (Ty.i .i64)).at u70 x66.2.2.1, bx b76 [u68, (Value.int .i64 x66.2.1), u70], (Ty.sl (Ty.i .i64)).at u148 x127.1, (Ty.sl (Ty.sl (Ty.sl (Ty.i .i64)))).at u150 x127.2.2.1, (Ty.sl (Ty.sl (Ty.i .i64))).at u151 x127.2.2.2] := hS185
                refine WL.grun rfl (bool_of rfl hc174) ?_
                refine WL.val (Value.bool (!x180)) _ (op_not rfl) rfl ?_
                refine WL.val (Value.bool (!x180)) _ (op_pick_f (evb_of rfl hc174) rfl) rfl ?_
                refine WL.nil ?_
                obtain rfl := Option.some.inj hj176
                exact ⟨rfl, e152, e153, e154, e156, e157, rfl, (St.pick hS185 [0, 1, 2, 7, 8, 9] rfl)⟩
            · intro f177 wd178 hq179
              obtain ⟨hf186, hf187, hf188, hf189, hf190, hf191, hS192⟩ := hq179
              refine WL.val (Value.bool x175) _ (op_move hf191) rfl ?_
              refine WL.cut 4 (fun fq wq => fq 1 = (Value.pointer (some ⟨b1, 0, none⟩)) ∧ fq 4 = (Value.pointer (some ⟨b44, 0, none⟩)) ∧ fq 5 = (Value.int .i64 x34.2.2.2) ∧ fq 7 = (Value.pointer (some ⟨b76, 0, none⟩)) ∧ fq 61 = (Value.bool (x175 || (x66.2.2.2 != x34.2.2.2))) ∧ St wd24 wq [(Ty.sl (Ty.i .i64)).at u36 x34.1, (Ty.sl (Ty.i .i64)).at u38 x34.2.2.1, bx b44 [u36, (Value.int .i64 x34.2.1), u38], (Ty.sl (Ty.i .i64)).at u68 x66.1, (Ty.sl (Ty.i .i64)).at u70 x66.2.2.1, bx b76 [u68, (Value.int .i64 x66.2.1), u70]]) ?_ ?_
              · rcases Bool.eq_false_or_eq_true x175 with hc193 | hc193
                · refine WL.gskip rfl (bool_of rfl hc193) rfl ?_
                  refine WL.gskip rfl (bool_of rfl hc193) rfl ?_
                  refine WL.gskip rfl (bool_of rfl hc193) rfl ?_
                  refine WL.val (Value.bool true) _ (op_pick_t (evb_of rfl hc193) rfl) rfl ?_
                  refine WL.nil ?_
                  exact ⟨rfl, hf186, hf187, hf188, hf189, (orT hc193), hS192⟩
                · refine WL.grun rfl (bool_of rfl hc193) ?_
                  refine WL.val (Value.int .i64 x66.2.2.2) _ (op_move hf190) rfl ?_
                  refine WL.grun rfl (bool_of rfl hc193) ?_
                  refine WL.val (Value.int .i64 x34.2.2.2) _ (op_move hf188) rfl ?_
                  refine WL.grun rfl (bool_of rfl hc193) ?_
                  refine WL.val (Value.bool (x66.2.2.2 != x34.2.2.2)) _ (op_neq rfl rfl) rfl ?_
                  refine WL.val (Value.bool (x66.2.2.2 != x34.2.2.2)) _ (op_pick_f (evb_of rfl hc193) rfl) rfl ?_
                  refine WL.nil ?_
                  exact ⟨rfl, hf186, hf187, hf188, hf189, (orF hc193), hS192⟩
              · intro f194 wd195 hq196
                obtain ⟨hf197, hf198, hf199, hf200, hf201, hS202⟩ := hq196
                refine WL.nil ?_
                refine W.cond (x175 || (x66.2.2.2 != x34.2.2.2)) hf201 (fun hc203 => ?_) (fun hc203 => ?_)
                · replace h := ip h hc203
                  refine W.seq (W.region ?_)
                  refine WL.val (Value.bool false) _ (op_assign rfl) rfl ?_
                  refine WL.nil ?_
                  refine W.ret ?_
                  obtain rfl := Option.some.inj h
                  show FinP _ _ _ _ _ _ _
                  exact FinP.ret _ (res1 rfl rfl) ⟨rfl, (Ext.trans hE31 hS202.ext)⟩
                · replace h := inegb h hc203
                  refine W.skip ?_
                  refine W.seq (W.region ?_)
                  refine WL.val (Value.int .i64 (1 : Int)) _ (op_assign rfl) rfl ?_
                  refine WL.nil ?_
                  refine W.seq (W.region ?_)
                  refine WL.val (Value.agg #[u68, (Value.int .i64 x66.2.1), u70]) _ (op_loadBox st_31 hf200 (St.boxAt hS202 5 rfl) rfl rfl) rfl ?_
                  refine WL.val (Value.int .i64 (1 : Int)) _ (op_move rfl) rfl ?_
                  obtain ⟨x205, hx206, h⟩ := bs h
                  have hS207 := St.fold [(Ty.sl (Ty.i .i64)).at u68 x66.1, (Ty.sl (Ty.i .i64)).at u70 x66.2.2.1] [(Ty.sl (Ty.i .i64)).at u36 x34.1, (Ty.sl (Ty.i .i64)).at u38 x34.2.2.1, bx b44 [u36, (Value.int .i64 x34.2.1), u38], bx b76 [u68, (Value.int .i64 x66.2.1), u70]] (St.pick hS202 [3, 4, 0, 1, 2, 5] rfl)
                  refine WL.call _ (op_call fn_13 (args2 rfl rfl)) (c_laws_markMetric hS207 hr69 (inL rfl) hx206) rfl ?_
                  rintro _ wd210 ⟨rfl, hr211, hS208⟩
                  have hS209 := St.pick (St.unfold [(Ty.sl (Ty.i .i64)).at u68 x205.2.1, (Ty.sl (Ty.i .i64)).at u70 x205.2.2] [(Ty.sl (Ty.i .i64)).at u36 x34.1, (Ty.sl (Ty.i .i64)).at u38 x34.2.2.1, bx b44 [u36, (Value.int .i64 x34.2.1), u38], bx b76 [u68, (Value.int .i64 x66.2.1), u70]] hS208) [2, 3, 4, 0, 1, 5] rfl
                  replace hS209 : St wd24 wd210 [(Ty.sl (Ty.i .i64)).at u36 x34.1, (Ty.sl (Ty.i .i64)).at u38 x34.2.2.1, bx b44 [u36, (Value.int .i64 x34.2.1), u38], (Ty.sl (Ty.i .i64)).at u68 x205.2.1, (Ty.sl (Ty.i .i64)).at u70 x205.2.2, bx b76 [u68, (Value.int .i64 x66.2.1), u70]] := hS209
                  refine WL.val (Value.int .i64 x205.1) _ (op_assign rfl) rfl ?_
                  refine WL.nil ?_
                  refine W.seq (W.region ?_)
                  refine WL.val (Value.int .i64 (1 : Int)) _ (op_assign rfl) rfl ?_
                  refine WL.nil ?_
                  refine W.seq (W.region ?_)
                  refine WL.val (Value.agg #[u68, (Value.int .i64 x66.2.1), u70]) _ (op_loadBox st_31 hf200 (St.boxAt hS209 5 rfl) rfl rfl) rfl ?_
                  refine WL.val (Value.int .i64 (1 : Int)) _ (op_move rfl) rfl ?_
                  obtain ⟨x212, hx213, h⟩ := bs h
                  refine WL.call _ (op_call fn_14 (args2 rfl rfl)) (c_laws_heldMetric (St.rep (t := (Ty.sl (Ty.i .i64))) hS209 3 rfl) hr69 (St.rep (t := (Ty.sl (Ty.i .i64))) hS209 4 rfl) (inL rfl) hx213) rfl ?_
                  rintro _ wd215 ⟨rfl, hr214, he216⟩
                  have hS218 := St.extend hS209 he216
                  replace hS218 : St wd24 wd215 [(Ty.sl (Ty.i .i64)).at u36 x34.1, (Ty.sl (Ty.i .i64)).at u38 x34.2.2.1, bx b44 [u36, (Value.int .i64 x34.2.1), u38], (Ty.sl (Ty.i .i64)).at u68 x205.2.1, (Ty.sl (Ty.i .i64)).at u70 x205.2.2, bx b76 [u68, (Value.int .i64 x66.2.1), u70]] := hS218
                  refine WL.val (Value.int .i64 x212) _ (op_assign rfl) rfl ?_
                  refine WL.nil ?_
                  refine W.seq (W.seq (W.region ?_))
                  refine WL.val (Value.int .i64 x212) _ (op_move rfl) rfl ?_
                  refine WL.val (Value.bool (decide (x212 < (0 : Int)))) _ (op_lss rfl rfl) rfl ?_
                  refine WL.nil ?_
                  refine W.cond (decide (x212 < (0 : Int))) rfl (fun hc219 => ?_) (fun hc219 => ?_)
                  · replace h := ip h hc219
                    refine W.seq (W.region ?_)
                    refine WL.val (Value.bool false) _ (op_assign rfl) rfl ?_
                    refine WL.nil ?_
                    refine W.ret ?_
                    obtain rfl := Option.some.inj h
                    show FinP _ _ _ _ _ _ _
                    exact FinP.ret _ (res1 rfl rfl) ⟨rfl, (Ext.trans hE31 hS218.ext)⟩
                  · replace h := inegb h hc219
                    refine W.skip ?_
                    refine W.seq (W.seq (W.region ?_))
                    refine WL.val (Value.int .i64 x212) _ (op_move rfl) rfl ?_
                    refine WL.val (Value.int .i64 x205.1) _ (op_move rfl) rfl ?_
                    refine WL.val (Value.bool (x212 != x205.1)) _ (op_neq rfl rfl) rfl ?_
                    refine WL.nil ?_
                    refine W.cond (x212 != x205.1) rfl (fun hc221 => ?_) (fun hc221 => ?_)
                    · replace h := ip h hc221
                      refine W.seq (W.region ?_)
                      refine WL.val (Value.bool false) _ (op_assign rfl) rfl ?_
                      refine WL.nil ?_
                      refine W.ret ?_
                      obtain rfl := Option.some.inj h
                      show FinP _ _ _ _ _ _ _
                      exact FinP.ret _ (res1 rfl rfl) ⟨rfl, (Ext.trans hE31 hS218.ext)⟩
                    · replace h := inegb h hc221
                      refine W.skip ?_
                      refine W.seq (W.region ?_)
                      refine WL.val (Value.agg #[v_aB_Cocycle_Orders, (Value.int .i64 aB_Cocycle_Modulus), v_aB_Cocycle_Values, v_aB_Values]) _ (op_loadBox st_28 hf197 (BoxAt.lift (Ext.trans hE32 hS218.ext) hx6) rfl rfl) rfl ?_
                      obtain ⟨x223, hx224, h⟩ := bs h
                      refine WL.call _ (op_call fn_8 (args1 rfl)) (c_laws_toBraiding (Ty.lift _ (Ext.trans hE31 hS218.ext) r_aB_Cocycle_Orders) r_aB_Cocycle_Modulus (Ty.lift _ (Ext.trans hE31 hS218.ext) r_aB_Cocycle_Values) (Ty.lift _ (Ext.trans hE31 hS218.ext) r_aB_Values) hx224) rfl ?_
                      rintro _ wd229 ⟨u225, u227, u228, rfl, hr226, he230, hs231⟩
                      have hS232 := St.join hS218 he230 hs231
                      replace hS232 : St wd24 wd229 [(Ty.sl (Ty.i .i64)).at u36 x34.1, (Ty.sl (Ty.i .i64)).at u38 x34.2.2.1, bx b44 [u36, (Value.int .i64 x34.2.1), u38], (Ty.sl (Ty.i .i64)).at u68 x205.2.1, (Ty.sl (Ty.i .i64)).at u70 x205.2.2, bx b76 [u68, (Value.int .i64 x66.2.1), u70], (Ty.sl (Ty.i .i64)).at u225 x223.1, (Ty.sl (Ty.sl (Ty.sl (Ty.i .i64)))).at u227 x223.2.2.1, (Ty.sl (Ty.sl (Ty.i .i64))).at u228 x223.2.2.2] := hS232
                      obtain ⟨x233, hx234, h⟩ := bs h
                      refine WL.call _ (op_call fn_9 (args1 rfl)) (c_impl_FormOfBraiding (St.rep (t := (Ty.sl (Ty.i .i64))) hS232 6 rfl) hr226 (St.rep (t := (Ty.sl (Ty.sl (Ty.sl (Ty.i .i64))))) hS232 7 rfl) (St.rep (t := (Ty.sl (Ty.sl (Ty.i .i64)))) hS232 8 rfl) hx234) rfl ?_
                      rintro _ wd239 ⟨u235, u237, rfl, hr236, hr238, he240, hs241⟩
                      have hS242 := St.join hS232 he240 hs241
                      replace hS242 : St wd24 wd239 [(Ty.sl (Ty.i .i64)).at u36 x34.1, (Ty.sl (Ty.i .i64)).at u38 x34.2.2.1, bx b44 [u36, (Value.int .i64 x34.2.1), u38], (Ty.sl (Ty.i .i64)).at u68 x205.2.1, (Ty.sl (Ty.i .i64)).at u70 x205.2.2, bx b76 [u68, (Value.int .i64 x66.2.1), u70], (Ty.sl (Ty.i .i64)).at u225 x223.1, (Ty.sl (Ty.sl (Ty.sl (Ty.i .i64)))).at u227 x223.2.2.1, (Ty.sl (Ty.sl (Ty.i .i64))).at u228 x223.2.2.2, (Ty.sl (Ty.i .i64)).at u235 x233.1, (Ty.sl (Ty.i .i64)).at u237 x233.2.2.1] := hS242
                      refine WL.val (Value.tuple #[(Value.agg #[u235, (Value.int .i64 x233.2.1), u237]), (Value.int .i64 x233.2.2.2)]) _ (op_move rfl) rfl ?_
                      refine WL.val (Value.agg #[u235, (Value.int .i64 x233.2.1), u237]) _ (op_extract rfl rfl) rfl ?_
                      refine WL.val (Value.int .i64 x233.2.2.2) _ (op_extract rfl rfl) rfl ?_
                      refine WL.alloc hS242 ze_31 (cs := [(Value.slice none 0 0), (Value.int .i64 (0 : Int)), (Value.slice none 0 0)]) rfl rfl ?_
                      intro b243 wd244 hS245 he246
                      replace hS245 : St wd24 wd244 [(Ty.sl (Ty.i .i64)).at u36 x34.1, (Ty.sl (Ty.i .i64)).at u38 x34.2.2.1, bx b44 [u36, (Value.int .i64 x34.2.1), u38], (Ty.sl (Ty.i .i64)).at u68 x205.2.1, (Ty.sl (Ty.i .i64)).at u70 x205.2.2, bx b76 [u68, (Value.int .i64 x66.2.1), u70], (Ty.sl (Ty.i .i64)).at u225 x223.1, (Ty.sl (Ty.sl (Ty.sl (Ty.i .i64)))).at u227 x223.2.2.1, (Ty.sl (Ty.sl (Ty.i .i64))).at u228 x223.2.2.2, (Ty.sl (Ty.i .i64)).at u235 x233.1, (Ty.sl (Ty.i .i64)).at u237 x233.2.2.1, bx b243 [(Value.slice none 0 0), (Value.int .i64 (0 : Int)), (Value.slice none 0 0)]] := hS245
                      refine WL.storeBox [u235, (Value.int .i64 x233.2.1), u237] hS245 (k := 11) rfl rfl rfl (us := [u235, (Value.int .i64 x233.2.1), u237]) rfl sz_31 rfl rfl (all_rep (St.rep (t := (Ty.sl (Ty.i .i64))) hS245 9 rfl) (all_cons rfl (all_rep (St.rep (t := (Ty.sl (Ty.i .i64))) hS245 10 rfl) all_nil))) rfl ?_
                      intro wd247 hS248
                      replace hS248 : St wd24 wd247 [(Ty.sl (Ty.i .i64)).at u36 x34.1, (Ty.sl (Ty.i .i64)).at u38 x34.2.2.1, bx b44 [u36, (Value.int .i64 x34.2.1), u38], (Ty.sl (Ty.i .i64)).at u68 x205.2.1, (Ty.sl (Ty.i .i64)).at u70 x205.2.2, bx b76 [u68, (Value.int .i64 x66.2.1), u70], (Ty.sl (Ty.i .i64)).at u225 x223.1, (Ty.sl (Ty.sl (Ty.sl (Ty.i .i64)))).at u227 x223.2.2.1, (Ty.sl (Ty.sl (Ty.i .i64))).at u228 x223.2.2.2, (Ty.sl (Ty.i .i64)).at u235 x233.1, (Ty.sl (Ty.i .i64)).at u237 x233.2.2.1, bx b243 [u235, (Value.int .i64 x233.2.1), u237]] := hS248
                      refine WL.val (Value.int .i64 x233.2.2.2) _ (op_assign rfl) rfl ?_
                      refine WL.nil ?_
                      refine W.seq (W.seq (W.region ?_))
                      refine WL.val (Value.agg #[u235, (Value.int .i64 x233.2.1), u237]) _ (op_loadBox st_31 rfl (St.boxAt hS248 11 rfl) rfl rfl) rfl ?_
                      refine WL.val (Value.agg #[u36, (Value.int .i64 x34.2.1), u38]) _ (op_loadBox st_31 hf198 (St.boxAt hS248 2 rfl) rfl rfl) rfl ?_
                      obtain ⟨x249, hx250, h⟩ := bs h
                      refine WL.call _ (op_call fn_10 (args2 rfl rfl)) (c_laws_eqMetric (St.rep (t := (Ty.sl (Ty.i .i64))) hS248 9 rfl) hr236 (St.rep (t := (Ty.sl (Ty.i .i64))) hS248 10 rfl) (St.rep (t := (Ty.sl (Ty.i .i64))) hS248 0 rfl) hr37 (St.rep (t := (Ty.sl (Ty.i .i64))) hS248 1 rfl) hx250) rfl ?_
                      rintro _ wd251 ⟨rfl, he252⟩
                      have hS254 := St.extend hS248 he252
                      replace hS254 : St wd24 wd251 [(Ty.sl (Ty.i .i64)).at u36 x34.1, (Ty.sl (Ty.i .i64)).at u38 x34.2.2.1, bx b44 [u36, (Value.int .i64 x34.2.1), u38], (Ty.sl (Ty.i .i64)).at u68 x205.2.1, (Ty.sl (Ty.i .i64)).at u70 x205.2.2, bx b76 [u68, (Value.int .i64 x66.2.1), u70], (Ty.sl (Ty.i .i64)).at u225 x223.1, (Ty.sl (Ty.sl (Ty.sl (Ty.i .i64)))).at u227 x223.2.2.1, (Ty.sl (Ty.sl (Ty.i .i64))).at u228 x223.2.2.2, (Ty.sl (Ty.i .i64)).at u235 x233.1, (Ty.sl (Ty.i .i64)).at u237 x233.2.2.1, bx b243 [u235, (Value.int .i64 x233.2.1), u237]] := hS254
                      refine WL.val (Value.bool (!x249)) _ (op_not rfl) rfl ?_
                      refine WL.val (Value.bool (!x249)) _ (op_move rfl) rfl ?_
                      refine WL.cut 4 (fun fq wq => fq 7 = (Value.pointer (some ⟨b76, 0, none⟩)) ∧ fq 10 = (Value.int .i64 x205.1) ∧ fq 87 = (Value.bool ((!x249) || (x233.2.2.2 != x34.2.2.2))) ∧ St wd24 wq [(Ty.sl (Ty.i .i64)).at u68 x205.2.1, (Ty.sl (Ty.i .i64)).at u70 x205.2.2, bx b76 [u68, (Value.int .i64 x66.2.1), u70]]) ?_ ?_
                      · rcases Bool.eq_false_or_eq_true (!x249) with hc255 | hc255
                        · refine WL.gskip rfl (bool_of rfl hc255) rfl ?_
                          refine WL.gskip rfl (bool_of rfl hc255) rfl ?_
                          refine WL.gskip rfl (bool_of rfl hc255) rfl ?_
                          refine WL.val (Value.bool true) _ (op_pick_t (evb_of rfl hc255) rfl) rfl ?_
                          refine WL.nil ?_
                          exact ⟨rfl, hf200, rfl, (orT hc255), (St.pick hS254 [3, 4, 5] rfl)⟩
                        · refine WL.grun rfl (bool_of rfl hc255) ?_
                          refine WL.val (Value.int .i64 x233.2.2.2) _ (op_move rfl) rfl ?_
                          refine WL.grun rfl (bool_of rfl hc255) ?_
                          refine WL.val (Value.int .i64 x34.2.2.2) _ (op_move hf199) rfl ?_
                          refine WL.grun rfl (bool_of rfl hc255) ?_
                          refine WL.val (Value.bool (x233.2.2.2 != x34.2.2.2)) _ (op_neq rfl rfl) rfl ?_
                          refine WL.val (Value.bool (x233.2.2.2 != x34.2.2.2)) _ (op_pick_f (evb_of rfl hc255) rfl) rfl ?_
                          refine WL.nil ?_
                          exact ⟨rfl, hf200, rfl, (orF hc255), (St.pick hS254 [3, 4, 5] rfl)⟩
                      · intro f256 wd257 hq258
                        obtain ⟨hf259, hf260, hf261, hS262⟩ := hq258
                        refine WL.nil ?_
                        refine W.cond ((!x249) || (x233.2.2.2 != x34.2.2.2)) hf261 (fun hc263 => ?_) (fun hc263 => ?_)
                        · replace h := ip h hc263
                          refine W.seq (W.region ?_)
                          refine WL.val (Value.bool false) _ (op_assign rfl) rfl ?_
                          refine WL.nil ?_
                          refine W.ret ?_
                          obtain rfl := Option.some.inj h
                          show FinP _ _ _ _ _ _ _
                          exact FinP.ret _ (res1 rfl rfl) ⟨rfl, (Ext.trans hE31 hS262.ext)⟩
                        · replace h := inegb h hc263
                          refine W.skip ?_
                          refine W.seq (W.region ?_)
                          refine WL.val (Value.int .i64 (1 : Int)) _ (op_assign rfl) rfl ?_
                          refine WL.nil ?_
                          refine W.seq (W.region ?_)
                          refine WL.val (Value.agg #[u68, (Value.int .i64 x66.2.1), u70]) _ (op_loadBox st_31 hf259 (St.boxAt hS262 2 rfl) rfl rfl) rfl ?_
                          refine WL.val (Value.int .i64 (1 : Int)) _ (op_move rfl) rfl ?_
                          obtain ⟨x265, hx266, h⟩ := bs h
                          refine WL.call _ (op_call fn_14 (args2 rfl rfl)) (c_laws_heldMetric (St.rep (t := (Ty.sl (Ty.i .i64))) hS262 0 rfl) hr69 (St.rep (t := (Ty.sl (Ty.i .i64))) hS262 1 rfl) (inL rfl) hx266) rfl ?_
                          rintro _ wd268 ⟨rfl, hr267, he269⟩
                          have hS271 := St.extend hS262 he269
                          replace hS271 : St wd24 wd268 [(Ty.sl (Ty.i .i64)).at u68 x205.2.1, (Ty.sl (Ty.i .i64)).at u70 x205.2.2, bx b76 [u68, (Value.int .i64 x66.2.1), u70]] := hS271
                          refine WL.val (Value.int .i64 x265) _ (op_assign rfl) rfl ?_
                          refine WL.nil ?_
                          refine W.seq (W.seq (W.region ?_))
                          refine WL.val (Value.int .i64 x265) _ (op_move rfl) rfl ?_
                          refine WL.val (Value.bool (decide (x265 < (0 : Int)))) _ (op_lss rfl rfl) rfl ?_
                          refine WL.nil ?_
                          refine W.cond (decide (x265 < (0 : Int))) rfl (fun hc272 => ?_) (fun hc272 => ?_)
                          · replace h := ip h hc272
                            refine W.seq (W.region ?_)
                            refine WL.val (Value.bool false) _ (op_assign rfl) rfl ?_
                            refine WL.nil ?_
                            refine W.ret ?_
                            obtain rfl := Option.some.inj h
                            show FinP _ _ _ _ _ _ _
                            exact FinP.ret _ (res1 rfl rfl) ⟨rfl, (Ext.trans hE31 hS271.ext)⟩
                          · replace h := inegb h hc272
                            refine W.skip ?_
                            refine W.seq (W.seq (W.region ?_))
                            refine WL.val (Value.int .i64 x265) _ (op_move rfl) rfl ?_
                            refine WL.val (Value.int .i64 x205.1) _ (op_move hf260) rfl ?_
                            refine WL.val (Value.bool (x265 != x205.1)) _ (op_neq rfl rfl) rfl ?_
                            refine WL.nil ?_
                            refine W.cond (x265 != x205.1) rfl (fun hc274 => ?_) (fun hc274 => ?_)
                            · replace h := ip h hc274
                              refine W.seq (W.region ?_)
                              refine WL.val (Value.bool false) _ (op_assign rfl) rfl ?_
                              refine WL.nil ?_
                              refine W.ret ?_
                              obtain rfl := Option.some.inj h
                              show FinP _ _ _ _ _ _ _
                              exact FinP.ret _ (res1 rfl rfl) ⟨rfl, (Ext.trans hE31 hS271.ext)⟩
                            · replace h := inegb h hc274
                              refine W.skip ?_
                              refine W.seq (W.region ?_)
                              refine WL.val (Value.bool true) _ (op_assign rfl) rfl ?_
                              refine WL.nil ?_
                              refine W.ret ?_
                              obtain rfl := Option.some.inj h
                              show FinP _ _ _ _ _ _ _
                              exact FinP.ret _ (res1 rfl rfl) ⟨rfl, (Ext.trans hE31 hS271.ext)⟩

end Go.VG
