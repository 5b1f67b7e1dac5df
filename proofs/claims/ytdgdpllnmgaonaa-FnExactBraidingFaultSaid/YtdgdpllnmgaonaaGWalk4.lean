/- The walks, part 4: each Go function returns what its plain twin returns. No condition beyond what each names. -/
import Derived.Test.YtdgdpllnmgaonaaGWalk3
set_option linter.all false
namespace Go.VG
open Go.Proofs
attribute [local irreducible] W WL Sep FinP

theorem c_laws_markInt64SSS {w : World} {a : (List (List (List Int)))} {v_a : Value} {k1 : Int} {w0 : World} {R : Ent} (hS0 : St w0 w [(Ty.sl (Ty.sl (Ty.sl (Ty.i .i64)))).at v_a a, R]) (r_k1 : InR .i64 k1) {res : Int × (List (List (List Int)))} (h : p_laws_markInt64SSS a k1  = some res) :
    Ret Try.prog 71 #[v_a, (Value.int .i64 k1)] w (fun v w' => v = Value.int .i64 res.1 ∧ InR .i64 res.1 ∧ St w0 w' [(Ty.sl (Ty.sl (Ty.sl (Ty.i .i64)))).at v_a res.2, R]) := by
  unfold p_laws_markInt64SSS at h
  refine Ret.start (fn := Try.f71) Try.func71 rfl 19 rfl rfl ?_
  refine W.seq (W.region ?_)
  refine WL.val (Value.int .i64 (0 : Int)) _ (op_assign rfl) rfl ?_
  refine WL.nil ?_
  show W _ _ _ _ _ _
  refine W.seq (W.seq (W.region ?_))
  refine WL.val (Value.int .i64 (0 : Int)) _ (op_assign rfl) rfl ?_
  refine WL.nil ?_
  show W _ _ _ _ _ _
  obtain ⟨res1, hres2, h⟩ := bs h
  refine W.blockLoop (fun fq wq => ∃ s, res1 = Res.fin s ∧ fq 1 = Value.int .i64 s.2 ∧ InR .i64 s.2 ∧ (s.1).length = (a).length ∧ St w0 wq [(Ty.sl (Ty.sl (Ty.sl (Ty.i .i64)))).at v_a s.1, R]) ?_ ?_
  · refine W.forN (fun k (s : (List (List (List Int))) × Int) fq wq => fq 0 = v_a ∧ fq 1 = Value.int .i64 s.2 ∧ InR .i64 s.2 ∧ fq 5 = Value.int .i64 (k : Int) ∧ InR .i64 (k : Int) ∧ (s.1).length = (a).length ∧ St w0 wq [(Ty.sl (Ty.sl (Ty.sl (Ty.i .i64)))).at v_a s.1, R]) hres2 ⟨rfl, rfl, r_k1, rfl, (inR_i64.2 (show (-9223372036854775808 : Int) ≤ 0 ∧ (0 : Int) ≤ 9223372036854775807 from by decide)), rfl, hS0⟩ ?_ ?_
    · intro k3 s40 ct6 f7 wd8 hk9 hb10 hI11 hbrk12 hret13
      obtain ⟨x4, x5⟩ := s40
      replace hI11 : f7 0 = v_a ∧ f7 1 = Value.int .i64 x5 ∧ InR .i64 x5 ∧ f7 5 = Value.int .i64 (k3 : Int) ∧ InR .i64 (k3 : Int) ∧ (x4).length = (a).length ∧ St w0 wd8 [(Ty.sl (Ty.sl (Ty.sl (Ty.i .i64)))).at v_a x4, R] := hI11
      replace hb10 : p_laws_markInt64SSS_L1  k3 x4 x5 = some ct6 := hb10
      unfold p_laws_markInt64SSS_L1 at hb10
      obtain ⟨hf14, hf15, hr16, hf17, hr18, hL19, hS20⟩ := hI11
      refine W.seq (W.seq (W.region ?_))
      refine WL.val (Value.int .i64 (k3 : Int)) _ (op_move hf17) rfl ?_
      refine WL.val v_a _ (op_move hf14) rfl ?_
      have hr21 := inR_len (St.rep (t := (Ty.sl (Ty.sl (Ty.sl (Ty.i .i64))))) hS20 0 rfl)
      refine WL.val (Value.int .i64 ((x4).length : Int)) _ (op_lenL sl_23 (St.rep (t := (Ty.sl (Ty.sl (Ty.sl (Ty.i .i64))))) hS20 0 rfl) rfl) rfl ?_
      refine WL.val (Value.bool (decide ((k3 : Int) < ((x4).length : Int)))) _ (op_lss rfl rfl) rfl ?_
      have hl22 : (k3 : Int) < ((x4).length : Int) := by omega
      refine WL.nil ?_
      show W _ _ _ _ _ _
      refine W.condT (decide ((k3 : Int) < ((x4).length : Int))) rfl (decide_eq_true hl22) ?_
      refine W.skip ?_
      show W _ _ _ _ _ _
      refine W.seq ?_
      refine W.block ?_
      refine W.region ?_
      refine WL.val v_a _ (op_move hf14) rfl ?_
      refine WL.val (Value.int .i64 (k3 : Int)) _ (op_move hf17) rfl ?_
      obtain ⟨x24, hx27, hb10⟩ := bs hb10
      obtain ⟨ha25, hb26, hx27⟩ := idx_some hx27
      refine WL.val (Value.pointer (some (elA v_a ((k3 : Int)).toNat))) _ (op_idx sl_23 (St.rep (t := (Ty.sl (Ty.sl (Ty.sl (Ty.i .i64))))) hS20 0 rfl) rfl rfl ha25 hb26) rfl ?_
      obtain ⟨u28, hc29, hr30⟩ := repSl.el (St.rep (t := (Ty.sl (Ty.sl (Ty.sl (Ty.i .i64))))) hS20 0 rfl) hx27
      refine WL.val u28 _ (op_load one_26 rfl hc29) rfl ?_
      refine WL.val (Value.int .i64 x5) _ (op_move hf15) rfl ?_
      have hS31 := St.unrow (k := 0) hS20 rfl hx27 hc29
      replace hS31 : St w0 wd8 [holeAt (Ty.sl (Ty.sl (Ty.i .i64))) v_a x4 ((k3 : Int)).toNat u28, R, (Ty.sl (Ty.sl (Ty.i .i64))).at u28 x24] := hS31
      obtain ⟨x32, hx33, hb10⟩ := bs hb10
      have hS34 := St.fold [(Ty.sl (Ty.sl (Ty.i .i64))).at u28 x24] [holeAt (Ty.sl (Ty.sl (Ty.i .i64))) v_a x4 ((k3 : Int)).toNat u28, R] (St.pick hS31 [2, 0, 1] rfl)
      refine WL.call _ (op_call fn_24 (args2 rfl rfl)) (c_laws_markInt64SS hS34 hr16 hx33) rfl ?_
      rintro _ wd37 ⟨rfl, hr38, hS35⟩
      have hS36 := St.pick (St.unfold [(Ty.sl (Ty.sl (Ty.i .i64))).at u28 x32.2] [holeAt (Ty.sl (Ty.sl (Ty.i .i64))) v_a x4 ((k3 : Int)).toNat u28, R] hS35) [1, 2, 0] rfl
      replace hS36 : St w0 wd37 [holeAt (Ty.sl (Ty.sl (Ty.i .i64))) v_a x4 ((k3 : Int)).toNat u28, R, (Ty.sl (Ty.sl (Ty.i .i64))).at u28 x32.2] := hS36
      have hS39 := St.rerow (k := 0) (k2 := 2) hS36 rfl rfl rfl
      replace hS39 : St w0 wd37 [(Ty.sl (Ty.sl (Ty.sl (Ty.i .i64)))).at v_a ((x4).set ((k3 : Int)).toNat x32.2), R, emp] := hS39
      refine WL.val (Value.int .i64 x32.1) _ (op_assign rfl) rfl ?_
      refine WL.nil ?_
      show W _ _ _ _ _ _
      refine W.region ?_
      refine WL.val (Value.int .i64 (k3 : Int)) _ (op_move hf17) rfl ?_
      refine WL.val (Value.int .i64 (w64 ((k3 : Int) + (1 : Int)))) _ (op_add rfl rfl) rfl ?_
      refine WL.val (Value.int .i64 (w64 ((k3 : Int) + (1 : Int)))) _ (op_assign rfl) rfl ?_
      refine WL.nil ?_
      obtain rfl := Option.some.inj hb10
      show ∃ s, _ = Ctl.next s ∧ _
      exact ⟨_, rfl, hf14, rfl, hr38, (ctr_next hl22 hr21), (ctr_rng hl22 hr21), (by first | exact hL19 | (simp only [List.length_set]; exact hL19)), (St.pick hS39 [0, 1] rfl)⟩
    · intro s45 f41 wd42 hs43 hI44
      obtain ⟨x46, x47⟩ := s45
      replace hI44 : f41 0 = v_a ∧ f41 1 = Value.int .i64 x47 ∧ InR .i64 x47 ∧ f41 5 = Value.int .i64 (((a).length : Nat) : Int) ∧ InR .i64 (((a).length : Nat) : Int) ∧ (x46).length = (a).length ∧ St w0 wd42 [(Ty.sl (Ty.sl (Ty.sl (Ty.i .i64)))).at v_a x46, R] := hI44
      obtain ⟨hf48, hf49, hr50, hf51, hr52, hL53, hS54⟩ := hI44
      refine W.seq (W.seq (W.region ?_))
      refine WL.val (Value.int .i64 (((a).length : Nat) : Int)) _ (op_move hf51) rfl ?_
      refine WL.val v_a _ (op_move hf48) rfl ?_
      have hr55 := inR_len (St.rep (t := (Ty.sl (Ty.sl (Ty.sl (Ty.i .i64))))) hS54 0 rfl)
      refine WL.val (Value.int .i64 ((x46).length : Int)) _ (op_lenL sl_23 (St.rep (t := (Ty.sl (Ty.sl (Ty.sl (Ty.i .i64))))) hS54 0 rfl) rfl) rfl ?_
      refine WL.val (Value.bool (decide ((((a).length : Nat) : Int) < ((x46).length : Int)))) _ (op_lss rfl rfl) rfl ?_
      have hl56 : ¬ (((a).length : Nat) : Int) < ((x46).length : Int) := by omega
      refine WL.nil ?_
      show W _ _ _ _ _ _
      refine W.condF (decide ((((a).length : Nat) : Int) < ((x46).length : Int))) rfl (decide_eq_false hl56) ?_
      refine W.exit ?_
      show _ = _ ∧ _
      exact ⟨rfl, _, hs43, hf49, hr50, (by first | exact hL53 | (simp only [List.length_set]; exact hL53)), hS54⟩
  · rintro f57 wd58 ⟨s60, rfl, hq59⟩
    replace h := onRes_fin h
    obtain ⟨x61, x62⟩ := s60
    replace hq59 : f57 1 = Value.int .i64 x62 ∧ InR .i64 x62 ∧ (x61).length = (a).length ∧ St w0 wd58 [(Ty.sl (Ty.sl (Ty.sl (Ty.i .i64)))).at v_a x61, R] := hq59
    replace h : (_ : Option _) = _ := h
    dsimp only at h
    obtain ⟨hf63, hr64, hL65, hS66⟩ := hq59
    show W _ _ _ _ _ _
    refine W.seq (W.region ?_)
    refine WL.val (Value.int .i64 x62) _ (op_move hf63) rfl ?_
    refine WL.val (Value.int .i64 x62) _ (op_assign rfl) rfl ?_
    refine WL.nil ?_
    show W _ _ _ _ _ _
    refine W.ret ?_
    obtain rfl := Option.some.inj h
    show FinP _ _ _ _ _ _ _
    exact FinP.ret _ (res1 rfl rfl) ⟨rfl, hr64, (St.pick hS66 [0, 1] rfl)⟩

theorem c_laws_markCocycle {w : World} {a_Orders : (List Int)} {v_a_Orders : Value} {a_Modulus : Int} {a_Values : (List (List (List Int)))} {v_a_Values : Value} {k1 : Int} {w0 : World} {R : Ent} (hS0 : St w0 w [(Ty.sl (Ty.i .i64)).at v_a_Orders a_Orders, (Ty.sl (Ty.sl (Ty.sl (Ty.i .i64)))).at v_a_Values a_Values, R]) (r_a_Modulus : InR .i64 a_Modulus) (r_k1 : InR .i64 k1) {res : Int × (List Int) × (List (List (List Int)))} (h : p_laws_markCocycle a_Orders a_Modulus a_Values k1  = some res) :
    Ret Try.prog 35 #[(Value.agg #[v_a_Orders, (Value.int .i64 a_Modulus), v_a_Values]), (Value.int .i64 k1)] w (fun v w' => v = Value.int .i64 res.1 ∧ InR .i64 res.1 ∧ St w0 w' [(Ty.sl (Ty.i .i64)).at v_a_Orders res.2.1, (Ty.sl (Ty.sl (Ty.sl (Ty.i .i64)))).at v_a_Values res.2.2, R]) := by
  unfold p_laws_markCocycle at h
  refine Ret.start (fn := Try.f35) Try.func35 rfl 14 rfl rfl ?_
  refine W.seq (W.region ?_)
  refine WL.box hS0 rfl (cs := [v_a_Orders, (Value.int .i64 a_Modulus), v_a_Values]) rfl rfl ?_
  intro b1 wd2 hS3 he4 hx5
  replace hS3 : St w0 wd2 [(Ty.sl (Ty.i .i64)).at v_a_Orders a_Orders, (Ty.sl (Ty.sl (Ty.sl (Ty.i .i64)))).at v_a_Values a_Values, R, bx b1 [v_a_Orders, (Value.int .i64 a_Modulus), v_a_Values]] := hS3
  refine WL.val (Value.int .i64 (0 : Int)) _ (op_assign rfl) rfl ?_
  refine WL.nil ?_
  show W _ _ _ _ _ _
  refine W.seq (W.region ?_)
  refine WL.val (Value.pointer (some ⟨b1, 0, none⟩)) _ (op_fieldAddr fd_32_0 rfl) rfl ?_
  refine WL.val v_a_Orders _ (op_load one_22 rfl (BoxAt.cell (St.boxAt hS3 3 rfl) rfl)) rfl ?_
  refine WL.val (Value.int .i64 k1) _ (op_move rfl) rfl ?_
  obtain ⟨x6, hx7, h⟩ := bs h
  have hS8 := St.fold [(Ty.sl (Ty.i .i64)).at v_a_Orders a_Orders] [(Ty.sl (Ty.sl (Ty.sl (Ty.i .i64)))).at v_a_Values a_Values, R, bx b1 [v_a_Orders, (Value.int .i64 a_Modulus), v_a_Values]] (St.pick hS3 [0, 1, 2, 3] rfl)
  refine WL.call _ (op_call fn_14 (args2 rfl rfl)) (c_laws_markInt64S hS8 r_k1 hx7) rfl ?_
  rintro _ wd11 ⟨rfl, hr12, hS9⟩
  have hS10 := St.pick (St.unfold [(Ty.sl (Ty.i .i64)).at v_a_Orders x6.2] [(Ty.sl (Ty.sl (Ty.sl (Ty.i .i64)))).at v_a_Values a_Values, R, bx b1 [v_a_Orders, (Value.int .i64 a_Modulus), v_a_Values]] hS9) [0, 1, 2, 3] rfl
  replace hS10 : St w0 wd11 [(Ty.sl (Ty.i .i64)).at v_a_Orders x6.2, (Ty.sl (Ty.sl (Ty.sl (Ty.i .i64)))).at v_a_Values a_Values, R, bx b1 [v_a_Orders, (Value.int .i64 a_Modulus), v_a_Values]] := hS10
  refine WL.val (Value.int .i64 x6.1) _ (op_assign rfl) rfl ?_
  refine WL.nil ?_
  show W _ _ _ _ _ _
  refine W.seq (W.region ?_)
  refine WL.val (Value.pointer (some ⟨b1, 2, none⟩)) _ (op_fieldAddr fd_32_2 rfl) rfl ?_
  refine WL.val v_a_Values _ (op_load one_23 rfl (BoxAt.cell (St.boxAt hS10 3 rfl) rfl)) rfl ?_
  refine WL.val (Value.int .i64 x6.1) _ (op_move rfl) rfl ?_
  obtain ⟨x13, hx14, h⟩ := bs h
  have hS15 := St.fold [(Ty.sl (Ty.sl (Ty.sl (Ty.i .i64)))).at v_a_Values a_Values] [(Ty.sl (Ty.i .i64)).at v_a_Orders x6.2, R, bx b1 [v_a_Orders, (Value.int .i64 a_Modulus), v_a_Values]] (St.pick hS10 [1, 0, 2, 3] rfl)
  refine WL.call _ (op_call fn_71 (args2 rfl rfl)) (c_laws_markInt64SSS hS15 hr12 hx14) rfl ?_
  rintro _ wd18 ⟨rfl, hr19, hS16⟩
  have hS17 := St.pick (St.unfold [(Ty.sl (Ty.sl (Ty.sl (Ty.i .i64)))).at v_a_Values x13.2] [(Ty.sl (Ty.i .i64)).at v_a_Orders x6.2, R, bx b1 [v_a_Orders, (Value.int .i64 a_Modulus), v_a_Values]] hS16) [1, 0, 2, 3] rfl
  replace hS17 : St w0 wd18 [(Ty.sl (Ty.i .i64)).at v_a_Orders x6.2, (Ty.sl (Ty.sl (Ty.sl (Ty.i .i64)))).at v_a_Values x13.2, R, bx b1 [v_a_Orders, (Value.int .i64 a_Modulus), v_a_Values]] := hS17
  refine WL.val (Value.int .i64 x13.1) _ (op_assign rfl) rfl ?_
  refine WL.nil ?_
  show W _ _ _ _ _ _
  refine W.seq (W.region ?_)
  refine WL.val (Value.int .i64 x13.1) _ (op_move rfl) rfl ?_
  refine WL.val (Value.int .i64 x13.1) _ (op_assign rfl) rfl ?_
  refine WL.nil ?_
  show W _ _ _ _ _ _
  refine W.ret ?_
  obtain rfl := Option.some.inj h
  show FinP _ _ _ _ _ _ _
  exact FinP.ret _ (res1 rfl rfl) ⟨rfl, hr19, (St.pick hS17 [0, 1, 2] rfl)⟩

theorem c_laws_markBraiding {w : World} {a_Cocycle_Orders : (List Int)} {v_a_Cocycle_Orders : Value} {a_Cocycle_Modulus : Int} {a_Cocycle_Values : (List (List (List Int)))} {v_a_Cocycle_Values : Value} {a_Values : (List (List Int))} {v_a_Values : Value} {k1 : Int} {w0 : World} {R : Ent} (hS0 : St w0 w [(Ty.sl (Ty.i .i64)).at v_a_Cocycle_Orders a_Cocycle_Orders, (Ty.sl (Ty.sl (Ty.sl (Ty.i .i64)))).at v_a_Cocycle_Values a_Cocycle_Values, (Ty.sl (Ty.sl (Ty.i .i64))).at v_a_Values a_Values, R]) (r_a_Cocycle_Modulus : InR .i64 a_Cocycle_Modulus) (r_k1 : InR .i64 k1) {res : Int × (List Int) × (List (List (List Int))) × (List (List Int))} (h : p_laws_markBraiding a_Cocycle_Orders a_Cocycle_Modulus a_Cocycle_Values a_Values k1  = some res) :
    Ret Try.prog 13 #[(Value.agg #[v_a_Cocycle_Orders, (Value.int .i64 a_Cocycle_Modulus), v_a_Cocycle_Values, v_a_Values]), (Value.int .i64 k1)] w (fun v w' => v = Value.int .i64 res.1 ∧ InR .i64 res.1 ∧ St w0 w' [(Ty.sl (Ty.i .i64)).at v_a_Cocycle_Orders res.2.1, (Ty.sl (Ty.sl (Ty.sl (Ty.i .i64)))).at v_a_Cocycle_Values res.2.2.1, (Ty.sl (Ty.sl (Ty.i .i64))).at v_a_Values res.2.2.2, R]) := by
  unfold p_laws_markBraiding at h
  refine Ret.start (fn := Try.f13) Try.func13 rfl 14 rfl rfl ?_
  refine W.seq (W.region ?_)
  refine WL.box hS0 rfl (cs := [v_a_Cocycle_Orders, (Value.int .i64 a_Cocycle_Modulus), v_a_Cocycle_Values, v_a_Values]) rfl rfl ?_
  intro b1 wd2 hS3 he4 hx5
  replace hS3 : St w0 wd2 [(Ty.sl (Ty.i .i64)).at v_a_Cocycle_Orders a_Cocycle_Orders, (Ty.sl (Ty.sl (Ty.sl (Ty.i .i64)))).at v_a_Cocycle_Values a_Cocycle_Values, (Ty.sl (Ty.sl (Ty.i .i64))).at v_a_Values a_Values, R, bx b1 [v_a_Cocycle_Orders, (Value.int .i64 a_Cocycle_Modulus), v_a_Cocycle_Values, v_a_Values]] := hS3
  refine WL.val (Value.int .i64 (0 : Int)) _ (op_assign rfl) rfl ?_
  refine WL.nil ?_
  show W _ _ _ _ _ _
  refine W.seq (W.region ?_)
  refine WL.val (Value.pointer (some ⟨b1, 0, none⟩)) _ (op_fieldAddr fd_34_0 rfl) rfl ?_
  refine WL.val (Value.agg #[v_a_Cocycle_Orders, (Value.int .i64 a_Cocycle_Modulus), v_a_Cocycle_Values]) _ (op_loadBox st_32 rfl (St.boxAt hS3 4 rfl) rfl rfl) rfl ?_
  refine WL.val (Value.int .i64 k1) _ (op_move rfl) rfl ?_
  obtain ⟨x6, hx7, h⟩ := bs h
  have hS8 := St.fold [(Ty.sl (Ty.i .i64)).at v_a_Cocycle_Orders a_Cocycle_Orders, (Ty.sl (Ty.sl (Ty.sl (Ty.i .i64)))).at v_a_Cocycle_Values a_Cocycle_Values] [(Ty.sl (Ty.sl (Ty.i .i64))).at v_a_Values a_Values, R, bx b1 [v_a_Cocycle_Orders, (Value.int .i64 a_Cocycle_Modulus), v_a_Cocycle_Values, v_a_Values]] (St.pick hS3 [0, 1, 2, 3, 4] rfl)
  refine WL.call _ (op_call fn_35 (args2 rfl rfl)) (c_laws_markCocycle hS8 r_a_Cocycle_Modulus r_k1 hx7) rfl ?_
  rintro _ wd11 ⟨rfl, hr12, hS9⟩
  have hS10 := St.pick (St.unfold [(Ty.sl (Ty.i .i64)).at v_a_Cocycle_Orders x6.2.1, (Ty.sl (Ty.sl (Ty.sl (Ty.i .i64)))).at v_a_Cocycle_Values x6.2.2] [(Ty.sl (Ty.sl (Ty.i .i64))).at v_a_Values a_Values, R, bx b1 [v_a_Cocycle_Orders, (Value.int .i64 a_Cocycle_Modulus), v_a_Cocycle_Values, v_a_Values]] hS9) [0, 1, 2, 3, 4] rfl
  replace hS10 : St w0 wd11 [(Ty.sl (Ty.i .i64)).at v_a_Cocycle_Orders x6.2.1, (Ty.sl (Ty.sl (Ty.sl (Ty.i .i64)))).at v_a_Cocycle_Values x6.2.2, (Ty.sl (Ty.sl (Ty.i .i64))).at v_a_Values a_Values, R, bx b1 [v_a_Cocycle_Orders, (Value.int .i64 a_Cocycle_Modulus), v_a_Cocycle_Values, v_a_Values]] := hS10
  refine WL.val (Value.int .i64 x6.1) _ (op_assign rfl) rfl ?_
  refine WL.nil ?_
  show W _ _ _ _ _ _
  refine W.seq (W.region ?_)
  refine WL.val (Value.pointer (some ⟨b1, 3, none⟩)) _ (op_fieldAddr fd_34_1 rfl) rfl ?_
  refine WL.val v_a_Values _ (op_load one_26 rfl (BoxAt.cell (St.boxAt hS10 4 rfl) rfl)) rfl ?_
  refine WL.val (Value.int .i64 x6.1) _ (op_move rfl) rfl ?_
  obtain ⟨x13, hx14, h⟩ := bs h
  have hS15 := St.fold [(Ty.sl (Ty.sl (Ty.i .i64))).at v_a_Values a_Values] [(Ty.sl (Ty.i .i64)).at v_a_Cocycle_Orders x6.2.1, (Ty.sl (Ty.sl (Ty.sl (Ty.i .i64)))).at v_a_Cocycle_Values x6.2.2, R, bx b1 [v_a_Cocycle_Orders, (Value.int .i64 a_Cocycle_Modulus), v_a_Cocycle_Values, v_a_Values]] (St.pick hS10 [2, 0, 1, 3, 4] rfl)
  refine WL.call _ (op_call fn_24 (args2 rfl rfl)) (c_laws_markInt64SS hS15 hr12 hx14) rfl ?_
  rintro _ wd18 ⟨rfl, hr19, hS16⟩
  have hS17 := St.pick (St.unfold [(Ty.sl (Ty.sl (Ty.i .i64))).at v_a_Values x13.2] [(Ty.sl (Ty.i .i64)).at v_a_Cocycle_Orders x6.2.1, (Ty.sl (Ty.sl (Ty.sl (Ty.i .i64)))).at v_a_Cocycle_Values x6.2.2, R, bx b1 [v_a_Cocycle_Orders, (Value.int .i64 a_Cocycle_Modulus), v_a_Cocycle_Values, v_a_Values]] hS16) [1, 2, 0, 3, 4] rfl
  replace hS17 : St w0 wd18 [(Ty.sl (Ty.i .i64)).at v_a_Cocycle_Orders x6.2.1, (Ty.sl (Ty.sl (Ty.sl (Ty.i .i64)))).at v_a_Cocycle_Values x6.2.2, (Ty.sl (Ty.sl (Ty.i .i64))).at v_a_Values x13.2, R, bx b1 [v_a_Cocycle_Orders, (Value.int .i64 a_Cocycle_Modulus), v_a_Cocycle_Values, v_a_Values]] := hS17
  refine WL.val (Value.int .i64 x13.1) _ (op_assign rfl) rfl ?_
  refine WL.nil ?_
  show W _ _ _ _ _ _
  refine W.seq (W.region ?_)
  refine WL.val (Value.int .i64 x13.1) _ (op_move rfl) rfl ?_
  refine WL.val (Value.int .i64 x13.1) _ (op_assign rfl) rfl ?_
  refine WL.nil ?_
  show W _ _ _ _ _ _
  refine W.ret ?_
  obtain rfl := Option.some.inj h
  show FinP _ _ _ _ _ _ _
  exact FinP.ret _ (res1 rfl rfl) ⟨rfl, hr19, (St.pick hS17 [0, 1, 2, 3] rfl)⟩

theorem c_laws_heldInt64S {w : World} {a : (List Int)} {v_a : Value} {k1 : Int} (r_a : (Ty.sl (Ty.i .i64)).rep w v_a a) (r_k1 : InR .i64 k1) {res : Int} (h : p_laws_heldInt64S a k1  = some res) :
    Ret Try.prog 15 #[v_a, (Value.int .i64 k1)] w (fun v w' => v = Value.int .i64 res ∧ InR .i64 res ∧ Ext w w') := by
  unfold p_laws_heldInt64S at h
  have hS0 : St w w [] := St.start w
  refine Ret.start (fn := Try.f15) Try.func15 rfl 21 rfl rfl ?_
  refine W.seq (W.region ?_)
  refine WL.val (Value.int .i64 (0 : Int)) _ (op_assign rfl) rfl ?_
  refine WL.nil ?_
  show W _ _ _ _ _ _
  refine W.seq (W.seq (W.region ?_))
  refine WL.val (Value.int .i64 (0 : Int)) _ (op_assign rfl) rfl ?_
  refine WL.nil ?_
  show W _ _ _ _ _ _
  obtain ⟨res1, hres2, h⟩ := bs h
  refine W.blockLoop (fun fq wq => ∃ s, res1 = Res.fin s ∧ fq 1 = Value.int .i64 s ∧ InR .i64 s ∧ St w wq []) ?_ ?_
  · refine W.forN (fun k (s : Int) fq wq => fq 0 = v_a ∧ fq 1 = Value.int .i64 s ∧ InR .i64 s ∧ fq 5 = Value.int .i64 (k : Int) ∧ InR .i64 (k : Int) ∧ St w wq []) hres2 ⟨rfl, rfl, r_k1, rfl, (inR_i64.2 (show (-9223372036854775808 : Int) ≤ 0 ∧ (0 : Int) ≤ 9223372036854775807 from by decide)), hS0⟩ ?_ ?_
    · intro k3 x4 ct5 f6 wd7 hk8 hb9 hI10 hbrk11 hret12
      replace hI10 : f6 0 = v_a ∧ f6 1 = Value.int .i64 x4 ∧ InR .i64 x4 ∧ f6 5 = Value.int .i64 (k3 : Int) ∧ InR .i64 (k3 : Int) ∧ St w wd7 [] := hI10
      replace hb9 : p_laws_heldInt64S_L1 a k3 x4 = some ct5 := hb9
      unfold p_laws_heldInt64S_L1 at hb9
      obtain ⟨hf13, hf14, hr15, hf16, hr17, hS18⟩ := hI10
      refine W.seq (W.seq (W.region ?_))
      refine WL.val (Value.int .i64 (k3 : Int)) _ (op_move hf16) rfl ?_
      refine WL.val v_a _ (op_move hf13) rfl ?_
      have hr19 := inR_len (Ty.lift _ hS18.ext r_a)
      refine WL.val (Value.int .i64 ((a).length : Int)) _ (op_lenL sl_22 (Ty.lift _ hS18.ext r_a) rfl) rfl ?_
      refine WL.val (Value.bool (decide ((k3 : Int) < ((a).length : Int)))) _ (op_lss rfl rfl) rfl ?_
      have hl20 : (k3 : Int) < ((a).length : Int) := by omega
      refine WL.nil ?_
      show W _ _ _ _ _ _
      refine W.condT (decide ((k3 : Int) < ((a).length : Int))) rfl (decide_eq_true hl20) ?_
      refine W.skip ?_
      show W _ _ _ _ _ _
      refine W.seq ?_
      refine W.block ?_
      refine W.seq (W.seq (W.region ?_))
      refine WL.val v_a _ (op_move hf13) rfl ?_
      refine WL.val (Value.int .i64 (k3 : Int)) _ (op_move hf16) rfl ?_
      obtain ⟨x22, hx25, hb9⟩ := bs hb9
      obtain ⟨ha23, hb24, hx25⟩ := idx_some hx25
      refine WL.val (Value.pointer (some (elA v_a ((k3 : Int)).toNat))) _ (op_idx sl_22 (Ty.lift _ hS18.ext r_a) rfl rfl ha23 hb24) rfl ?_
      obtain ⟨u26, hc27, hr28⟩ := repSl.el r_a hx25
      obtain ⟨rfl, hr28⟩ := hr28
      refine WL.val (Value.int .i64 x22) _ (op_load one_2 rfl (Ext.cell hS18.ext hc27)) rfl ?_
      refine WL.val (Value.int .i64 x4) _ (op_move hf14) rfl ?_
      refine WL.val (Value.bool (x22 != x4)) _ (op_neq rfl rfl) rfl ?_
      refine WL.nil ?_
      show W _ _ _ _ _ _
      refine W.cond (x22 != x4) rfl (fun hc29 => ?_) (fun hc29 => ?_)
      · replace hb9 := ip hb9 hc29
        refine W.seq (W.region ?_)
        refine WL.val (Value.int .i64 (-1 : Int)) _ (op_assign rfl) rfl ?_
        refine WL.nil ?_
        show W _ _ _ _ _ _
        refine W.ret ?_
        obtain rfl := Option.some.inj hb9
        obtain rfl := hret12 _ rfl
        replace h := onRes_ret h
        obtain rfl := Option.some.inj h
        show FinP _ _ _ _ _ _ _
        exact FinP.ret _ (res1 rfl rfl) ⟨rfl, (inR_i64.2 (show (-9223372036854775808 : Int) ≤ -1 ∧ (-1 : Int) ≤ 9223372036854775807 from by decide)), hS18.ext⟩
      · replace hb9 := inegb hb9 hc29
        refine W.skip ?_
        show W _ _ _ _ _ _
        refine W.region ?_
        refine WL.val (Value.int .i64 x4) _ (op_move hf14) rfl ?_
        refine WL.val (Value.int .i64 (w64 (x4 + (1 : Int)))) _ (op_add rfl rfl) rfl ?_
        refine WL.val (Value.int .i64 (w64 (x4 + (1 : Int)))) _ (op_assign rfl) rfl ?_
        refine WL.nil ?_
        show W _ _ _ _ _ _
        refine W.region ?_
        refine WL.val (Value.int .i64 (k3 : Int)) _ (op_move hf16) rfl ?_
        refine WL.val (Value.int .i64 (w64 ((k3 : Int) + (1 : Int)))) _ (op_add rfl rfl) rfl ?_
        refine WL.val (Value.int .i64 (w64 ((k3 : Int) + (1 : Int)))) _ (op_assign rfl) rfl ?_
        refine WL.nil ?_
        obtain rfl := Option.some.inj hb9
        show ∃ s, _ = Ctl.next s ∧ _
        exact ⟨_, rfl, hf13, rfl, (inR_wrap _ _), (ctr_next hl20 hr19), (ctr_rng hl20 hr19), hS18⟩
    · intro x37 f32 wd33 hs34 hI35
      replace hI35 : f32 0 = v_a ∧ f32 1 = Value.int .i64 x37 ∧ InR .i64 x37 ∧ f32 5 = Value.int .i64 (((a).length : Nat) : Int) ∧ InR .i64 (((a).length : Nat) : Int) ∧ St w wd33 [] := hI35
      obtain ⟨hf38, hf39, hr40, hf41, hr42, hS43⟩ := hI35
      refine W.seq (W.seq (W.region ?_))
      refine WL.val (Value.int .i64 (((a).length : Nat) : Int)) _ (op_move hf41) rfl ?_
      refine WL.val v_a _ (op_move hf38) rfl ?_
      have hr44 := inR_len (Ty.lift _ hS43.ext r_a)
      refine WL.val (Value.int .i64 ((a).length : Int)) _ (op_lenL sl_22 (Ty.lift _ hS43.ext r_a) rfl) rfl ?_
      refine WL.val (Value.bool (decide ((((a).length : Nat) : Int) < ((a).length : Int)))) _ (op_lss rfl rfl) rfl ?_
      have hl45 : ¬ (((a).length : Nat) : Int) < ((a).length : Int) := by omega
      refine WL.nil ?_
      show W _ _ _ _ _ _
      refine W.condF (decide ((((a).length : Nat) : Int) < ((a).length : Int))) rfl (decide_eq_false hl45) ?_
      refine W.exit ?_
      show _ = _ ∧ _
      exact ⟨rfl, _, hs34, hf39, hr40, hS43⟩
  · rintro f46 wd47 ⟨x50, rfl, hq48⟩
    replace h := onRes_fin h
    replace hq48 : f46 1 = Value.int .i64 x50 ∧ InR .i64 x50 ∧ St w wd47 [] := hq48
    obtain ⟨hf51, hr52, hS53⟩ := hq48
    show W _ _ _ _ _ _
    refine W.seq (W.region ?_)
    refine WL.val (Value.int .i64 x50) _ (op_move hf51) rfl ?_
    refine WL.val (Value.int .i64 x50) _ (op_assign rfl) rfl ?_
    refine WL.nil ?_
    show W _ _ _ _ _ _
    refine W.ret ?_
    obtain rfl := Option.some.inj h
    show FinP _ _ _ _ _ _ _
    exact FinP.ret _ (res1 rfl rfl) ⟨rfl, hr52, hS53.ext⟩

theorem c_laws_FnExactBraidingFault {w : World} {aB_Cocycle_Orders : (List Int)} {v_aB_Cocycle_Orders : Value} {aB_Cocycle_Modulus : Int} {aB_Cocycle_Values : (List (List (List Int)))} {v_aB_Cocycle_Values : Value} {aB_Values : (List (List Int))} {v_aB_Values : Value} (r_aB_Cocycle_Orders : (Ty.sl (Ty.i .i64)).rep w v_aB_Cocycle_Orders aB_Cocycle_Orders) (r_aB_Cocycle_Modulus : InR .i64 aB_Cocycle_Modulus) (r_aB_Cocycle_Values : (Ty.sl (Ty.sl (Ty.sl (Ty.i .i64)))).rep w v_aB_Cocycle_Values aB_Cocycle_Values) (r_aB_Values : (Ty.sl (Ty.sl (Ty.i .i64))).rep w v_aB_Values aB_Values) {res : Bool} (h : p_laws_FnExactBraidingFault aB_Cocycle_Orders aB_Cocycle_Modulus aB_Cocycle_Values aB_Values  = some res) :
    Ret Try.prog 3 #[(Value.agg #[v_aB_Cocycle_Orders, (Value.int .i64 aB_Cocycle_Modulus), v_aB_Cocycle_Values, v_aB_Values])] w (fun v w' => v = Value.bool res ∧ Ext w w') := by
  unfold p_laws_FnExactBraidingFault at h
  have hS0 : St w w [] := St.start w
  refine Ret.start (fn := Try.f3) Try.func3 rfl 96 rfl rfl ?_
  refine W.seq (W.region ?_)
  refine WL.box hS0 rfl (cs := [v_aB_Cocycle_Orders, (Value.int .i64 aB_Cocycle_Modulus), v_aB_Cocycle_Values, v_aB_Values]) rfl rfl ?_
  intro b1 wd2 hS3 he4 hx5
  replace hS3 : St w wd2 [bx b1 [v_aB_Cocycle_Orders, (Value.int .i64 aB_Cocycle_Modulus), v_aB_Cocycle_Values, v_aB_Values]] := hS3
  have hx6 := St.boxAt hS3 0 rfl
  have hE7 : Ext w wd2 := hS3.ext
  have hS8 : St wd2 wd2 [] := St.start wd2
  refine WL.val (Value.bool false) _ (op_assign rfl) rfl ?_
  refine WL.nil ?_
  show W _ _ _ _ _ _
  refine W.seq (W.region ?_)
  refine WL.val (Value.int .i64 (1048576 : Int)) _ (op_assign rfl) rfl ?_
  refine WL.nil ?_
  show W _ _ _ _ _ _
  refine W.seq (W.region ?_)
  refine WL.val (Value.agg #[v_aB_Cocycle_Orders, (Value.int .i64 aB_Cocycle_Modulus), v_aB_Cocycle_Values, v_aB_Values]) _ (op_loadBox st_28 rfl (BoxAt.lift hS8.ext hx6) rfl rfl) rfl ?_
  refine WL.val (Value.int .i64 (1048576 : Int)) _ (op_move rfl) rfl ?_
  obtain ⟨x9, hx10, h⟩ := bs h
  refine WL.call _ (op_call fn_7 (args2 rfl rfl)) (c_laws_szBraiding (Ty.lift _ (Ext.trans hE7 hS8.ext) r_aB_Cocycle_Orders) r_aB_Cocycle_Modulus (Ty.lift _ (Ext.trans hE7 hS8.ext) r_aB_Cocycle_Values) (Ty.lift _ (Ext.trans hE7 hS8.ext) r_aB_Values) (inR_i64.2 (show (-9223372036854775808 : Int) ≤ 1048576 ∧ (1048576 : Int) ≤ 9223372036854775807 from by decide)) hx10) rfl ?_
  rintro _ wd12 ⟨rfl, hr11, he13⟩
  have hS15 := St.extend hS8 he13
  replace hS15 : St wd2 wd12 [] := hS15
  refine WL.val (Value.int .i64 x9) _ (op_assign rfl) rfl ?_
  refine WL.nil ?_
  show W _ _ _ _ _ _
  refine W.seq (W.seq (W.region ?_))
  refine WL.val (Value.int .i64 x9) _ (op_move rfl) rfl ?_
  refine WL.val (Value.bool (decide (x9 < (0 : Int)))) _ (op_lss rfl rfl) rfl ?_
  refine WL.nil ?_
  show W _ _ _ _ _ _
  refine W.cond (decide (x9 < (0 : Int))) rfl (fun hc16 => ?_) (fun hc16 => ?_)
  · replace h := ip h hc16
    refine W.seq (W.region ?_)
    refine WL.val (Value.bool true) _ (op_assign rfl) rfl ?_
    refine WL.nil ?_
    show W _ _ _ _ _ _
    refine W.ret ?_
    obtain rfl := Option.some.inj h
    show FinP _ _ _ _ _ _ _
    exact FinP.ret _ (res1 rfl rfl) ⟨rfl, (Ext.trans hE7 hS15.ext)⟩
  · replace h := inegb h hc16
    refine W.skip ?_
    show W _ _ _ _ _ _
    refine W.seq (W.region ?_)
    refine WL.val (Value.agg #[v_aB_Cocycle_Orders, (Value.int .i64 aB_Cocycle_Modulus), v_aB_Cocycle_Values, v_aB_Values]) _ (op_loadBox st_28 rfl (BoxAt.lift hS15.ext hx6) rfl rfl) rfl ?_
    obtain ⟨x18, hx19, h⟩ := bs h
    refine WL.call _ (op_call fn_9 (args1 rfl)) (c_laws_toBraiding (Ty.lift _ (Ext.trans hE7 hS15.ext) r_aB_Cocycle_Orders) r_aB_Cocycle_Modulus (Ty.lift _ (Ext.trans hE7 hS15.ext) r_aB_Cocycle_Values) (Ty.lift _ (Ext.trans hE7 hS15.ext) r_aB_Values) hx19) rfl ?_
    rintro _ wd24 ⟨u20, u22, u23, rfl, hr21, he25, hs26⟩
    have hS27 := St.join hS15 he25 hs26
    replace hS27 : St wd2 wd24 [(Ty.sl (Ty.i .i64)).at u20 x18.1, (Ty.sl (Ty.sl (Ty.sl (Ty.i .i64)))).at u22 x18.2.2.1, (Ty.sl (Ty.sl (Ty.i .i64))).at u23 x18.2.2.2] := hS27
    have hb28 := St.rep (t := (Ty.sl (Ty.i .i64))) hS27 0 rfl
    have hb29 := St.rep (t := (Ty.sl (Ty.sl (Ty.sl (Ty.i .i64))))) hS27 1 rfl
    have hb30 := St.rep (t := (Ty.sl (Ty.sl (Ty.i .i64)))) hS27 2 rfl
    have hE31 : Ext w wd24 := (Ext.trans hE7 hS27.ext)
    have hE32 : Ext wd2 wd24 := hS27.ext
    have hS33 : St wd24 wd24 [] := St.start wd24
    obtain ⟨x34, hx35, h⟩ := bs h
    refine WL.call _ (op_call fn_8 (args1 rfl)) (c_spec_BraidingFault (Ty.lift _ hS33.ext hb28) hr21 (Ty.lift _ hS33.ext hb29) (Ty.lift _ hS33.ext hb30) hx35) rfl ?_
    rintro _ wd38 ⟨u36, rfl, hr37, he39, hs40⟩
    have hS41 := St.join hS33 he39 hs40
    replace hS41 : St wd24 wd38 [(Ty.sl (Ty.i .i64)).at u36 x34.1] := hS41
    have hb42 := St.rep (t := (Ty.sl (Ty.i .i64))) hS41 0 rfl
    have hE43 : Ext w wd38 := (Ext.trans hE31 hS41.ext)
    have hE44 : Ext wd2 wd38 := (Ext.trans hE32 hS41.ext)
    have hE45 : Ext wd24 wd38 := hS41.ext
    have hS46 : St wd38 wd38 [] := St.start wd38
    refine WL.val (Value.tuple #[u36, (Value.int .i64 x34.2)]) _ (op_move rfl) rfl ?_
    refine WL.val u36 _ (op_extract rfl rfl) rfl ?_
    refine WL.val (Value.int .i64 x34.2) _ (op_extract rfl rfl) rfl ?_
    refine WL.val u36 _ (op_assign rfl) rfl ?_
    refine WL.val (Value.int .i64 x34.2) _ (op_assign rfl) rfl ?_
    refine WL.nil ?_
    show W _ _ _ _ _ _
    refine W.seq (W.region ?_)
    refine WL.val (Value.agg #[v_aB_Cocycle_Orders, (Value.int .i64 aB_Cocycle_Modulus), v_aB_Cocycle_Values, v_aB_Values]) _ (op_loadBox st_28 rfl (BoxAt.lift (Ext.trans hE44 hS46.ext) hx6) rfl rfl) rfl ?_
    obtain ⟨x47, hx48, h⟩ := bs h
    refine WL.call _ (op_call fn_9 (args1 rfl)) (c_laws_toBraiding (Ty.lift _ (Ext.trans hE43 hS46.ext) r_aB_Cocycle_Orders) r_aB_Cocycle_Modulus (Ty.lift _ (Ext.trans hE43 hS46.ext) r_aB_Cocycle_Values) (Ty.lift _ (Ext.trans hE43 hS46.ext) r_aB_Values) hx48) rfl ?_
    rintro _ wd53 ⟨u49, u51, u52, rfl, hr50, he54, hs55⟩
    have hS56 := St.join hS46 he54 hs55
    replace hS56 : St wd38 wd53 [(Ty.sl (Ty.i .i64)).at u49 x47.1, (Ty.sl (Ty.sl (Ty.sl (Ty.i .i64)))).at u51 x47.2.2.1, (Ty.sl (Ty.sl (Ty.i .i64))).at u52 x47.2.2.2] := hS56
    refine WL.alloc hS56 ze_34 (cs := [(Value.slice none 0 0), (Value.int .i64 (0 : Int)), (Value.slice none 0 0), (Value.slice none 0 0)]) rfl rfl ?_
    intro b57 wd58 hS59 he60
    replace hS59 : St wd38 wd58 [(Ty.sl (Ty.i .i64)).at u49 x47.1, (Ty.sl (Ty.sl (Ty.sl (Ty.i .i64)))).at u51 x47.2.2.1, (Ty.sl (Ty.sl (Ty.i .i64))).at u52 x47.2.2.2, bx b57 [(Value.slice none 0 0), (Value.int .i64 (0 : Int)), (Value.slice none 0 0), (Value.slice none 0 0)]] := hS59
    refine WL.storeBox [u49, (Value.int .i64 x47.2.1), u51, u52] hS59 (k := 3) rfl rfl rfl (us := [u49, (Value.int .i64 x47.2.1), u51, u52]) rfl sz_34 rfl rfl (all_rep (St.rep (t := (Ty.sl (Ty.i .i64))) hS59 0 rfl) (all_cons rfl (all_rep (St.rep (t := (Ty.sl (Ty.sl (Ty.sl (Ty.i .i64))))) hS59 1 rfl) (all_rep (St.rep (t := (Ty.sl (Ty.sl (Ty.i .i64)))) hS59 2 rfl) all_nil)))) rfl ?_
    intro wd61 hS62
    replace hS62 : St wd38 wd61 [(Ty.sl (Ty.i .i64)).at u49 x47.1, (Ty.sl (Ty.sl (Ty.sl (Ty.i .i64)))).at u51 x47.2.2.1, (Ty.sl (Ty.sl (Ty.i .i64))).at u52 x47.2.2.2, bx b57 [u49, (Value.int .i64 x47.2.1), u51, u52]] := hS62
    refine WL.nil ?_
    show W _ _ _ _ _ _
    refine W.seq (W.region ?_)
    refine WL.val (Value.agg #[u49, (Value.int .i64 x47.2.1), u51, u52]) _ (op_loadBox st_34 rfl (St.boxAt hS62 3 rfl) rfl rfl) rfl ?_
    obtain ⟨x63, hx64, h⟩ := bs h
    refine WL.call _ (op_call fn_10 (args1 rfl)) (c_impl_BraidingFault (St.rep (t := (Ty.sl (Ty.i .i64))) hS62 0 rfl) hr50 (St.rep (t := (Ty.sl (Ty.sl (Ty.sl (Ty.i .i64))))) hS62 1 rfl) (St.rep (t := (Ty.sl (Ty.sl (Ty.i .i64)))) hS62 2 rfl) hx64) rfl ?_
    rintro _ wd67 ⟨u65, rfl, hr66, he68, hs69⟩
    have hS70 := St.join hS62 he68 hs69
    replace hS70 : St wd38 wd67 [(Ty.sl (Ty.i .i64)).at u49 x47.1, (Ty.sl (Ty.sl (Ty.sl (Ty.i .i64)))).at u51 x47.2.2.1, (Ty.sl (Ty.sl (Ty.i .i64))).at u52 x47.2.2.2, bx b57 [u49, (Value.int .i64 x47.2.1), u51, u52], (Ty.sl (Ty.i .i64)).at u65 x63.1] := hS70
    refine WL.val (Value.tuple #[u65, (Value.int .i64 x63.2)]) _ (op_move rfl) rfl ?_
    refine WL.val u65 _ (op_extract rfl rfl) rfl ?_
    refine WL.val (Value.int .i64 x63.2) _ (op_extract rfl rfl) rfl ?_
    refine WL.val u65 _ (op_assign rfl) rfl ?_
    refine WL.val (Value.int .i64 x63.2) _ (op_assign rfl) rfl ?_
    refine WL.nil ?_
    show W _ _ _ _ _ _
    refine W.seq (W.seq (W.region ?_))
    refine WL.val u65 _ (op_move rfl) rfl ?_
    refine WL.val u36 _ (op_move rfl) rfl ?_
    obtain ⟨x71, hx72, h⟩ := bs h
    refine WL.call _ (op_call fn_11 (args2 rfl rfl)) (c_laws_eqInt64S (St.rep (t := (Ty.sl (Ty.i .i64))) hS70 4 rfl) (Ty.lift _ hS70.ext hb42) hx72) rfl ?_
    rintro _ wd73 ⟨rfl, he74⟩
    have hS76 := St.extend hS70 he74
    replace hS76 : St wd38 wd73 [(Ty.sl (Ty.i .i64)).at u49 x47.1, (Ty.sl (Ty.sl (Ty.sl (Ty.i .i64)))).at u51 x47.2.2.1, (Ty.sl (Ty.sl (Ty.i .i64))).at u52 x47.2.2.2, bx b57 [u49, (Value.int .i64 x47.2.1), u51, u52], (Ty.sl (Ty.i .i64)).at u65 x63.1] := hS76
    refine WL.val (Value.bool (!x71)) _ (op_not rfl) rfl ?_
    refine WL.val (Value.bool (!x71)) _ (op_move rfl) rfl ?_
    refine WL.cut 4 (fun fq wq => fq 1 = (Value.pointer (some ⟨b1, 0, none⟩)) ∧ fq 4 = u36 ∧ fq 5 = (Value.int .i64 x34.2) ∧ fq 6 = (Value.pointer (some ⟨b57, 0, none⟩)) ∧ fq 7 = u65 ∧ fq 8 = (Value.int .i64 x63.2) ∧ fq 40 = (Value.bool ((!x71) || (x63.2 != x34.2))) ∧ St wd38 wq [(Ty.sl (Ty.i .i64)).at u49 x47.1, (Ty.sl (Ty.sl (Ty.sl (Ty.i .i64)))).at u51 x47.2.2.1, (Ty.sl (Ty.sl (Ty.i .i64))).at u52 x47.2.2.2, bx b57 [u49, (Value.int .i64 x47.2.1), u51, u52], (Ty.sl (Ty.i .i64)).at u65 x63.1]) ?_ ?_
    · rcases Bool.eq_false_or_eq_true (!x71) with hc77 | hc77
      · refine WL.gskip rfl (bool_of rfl hc77) rfl ?_
        refine WL.gskip rfl (bool_of rfl hc77) rfl ?_
        refine WL.gskip rfl (bool_of rfl hc77) rfl ?_
        refine WL.val (Value.bool true) _ (op_pick_t (evb_of rfl hc77) rfl) rfl ?_
        refine WL.nil ?_
        exact ⟨rfl, rfl, rfl, rfl, rfl, rfl, rfl, (orT hc77), hS76⟩
      · refine WL.grun rfl (bool_of rfl hc77) ?_
        refine WL.val (Value.int .i64 x63.2) _ (op_move rfl) rfl ?_
        refine WL.grun rfl (bool_of rfl hc77) ?_
        refine WL.val (Value.int .i64 x34.2) _ (op_move rfl) rfl ?_
        refine WL.grun rfl (bool_of rfl hc77) ?_
        refine WL.val (Value.bool (x63.2 != x34.2)) _ (op_neq rfl rfl) rfl ?_
        refine WL.val (Value.bool (x63.2 != x34.2)) _ (op_pick_f (evb_of rfl hc77) rfl) rfl ?_
        refine WL.nil ?_
        exact ⟨rfl, rfl, rfl, rfl, rfl, rfl, rfl, (orF hc77), hS76⟩
    · intro f78 wd79 hq80
      obtain ⟨hf81, hf82, hf83, hf84, hf85, hf86, hf87, hS88⟩ := hq80
      refine WL.nil ?_
      show W _ _ _ _ _ _
      refine W.cond ((!x71) || (x63.2 != x34.2)) hf87 (fun hc89 => ?_) (fun hc89 => ?_)
      · replace h := ip h hc89
        refine W.seq (W.region ?_)
        refine WL.val (Value.bool false) _ (op_assign rfl) rfl ?_
        refine WL.nil ?_
        show W _ _ _ _ _ _
        refine W.ret ?_
        obtain rfl := Option.some.inj h
        show FinP _ _ _ _ _ _ _
        exact FinP.ret _ (res1 rfl rfl) ⟨rfl, (Ext.trans hE43 hS88.ext)⟩
      · replace h := inegb h hc89
        refine W.skip ?_
        show W _ _ _ _ _ _
        refine W.seq (W.seq ?_)
        obtain ⟨x116, hx117, h⟩ := bs h
        refine W.drawR mixo 3 [] [fun _ v S w' => v = (Value.agg #[u49, (Value.int .i64 x47.2.1), u51, u52]) ∧ InR .i64 x47.2.1, fun _ v S w' => v = (Value.agg #[v_aB_Cocycle_Orders, (Value.int .i64 aB_Cocycle_Modulus), v_aB_Cocycle_Values, v_aB_Values]) ∧ InR .i64 aB_Cocycle_Modulus, fun _ v S w' => ∃ (uu0 : Value) (uu1 : Value) (uu2 : Value), v = (Value.agg #[uu0, (Value.int .i64 x116.2.1), uu1, uu2]) ∧ InR .i64 x116.2.1 ∧ SepS S w' [(Ty.sl (Ty.i .i64)).at uu0 x116.1, (Ty.sl (Ty.sl (Ty.sl (Ty.i .i64)))).at uu1 x116.2.2.1, (Ty.sl (Ty.sl (Ty.i .i64))).at uu2 x116.2.2.2]] (by kernel_rfl) (by kernel_rfl) ⟨⟨fun _ _ _ _ _ he ⟨h0, h1⟩ => ⟨h0, h1⟩, fun _ _ _ _ _ _ h => h⟩, ⟨fun _ _ _ _ _ he ⟨h0, h1⟩ => ⟨h0, h1⟩, fun _ _ _ _ _ _ h => h⟩, ⟨fun _ _ _ _ _ he ⟨uu0, uu1, uu2, h0, h1, r0⟩ => ⟨uu0, uu1, uu2, h0, h1, SepS.extend he r0⟩, fun _ _ _ _ _ _ h => h⟩, trivial⟩ ⟨?_, ?_, ?_, trivial⟩ ?_
        · refine ObX.op rfl ?_
          intro f91 wd92 he93 hout94 hphi95
          have hS96 : St wd38 wd92 [(Ty.sl (Ty.i .i64)).at u49 x47.1, (Ty.sl (Ty.sl (Ty.sl (Ty.i .i64)))).at u51 x47.2.2.1, (Ty.sl (Ty.sl (Ty.i .i64))).at u52 x47.2.2.2, bx b57 [u49, (Value.int .i64 x47.2.1), u51, u52], (Ty.sl (Ty.i .i64)).at u65 x63.1] := St.extend hS88 he93
          have e97 : f91 6 = (Value.pointer (some ⟨b57, 0, none⟩)) := (hout94 6 rfl).trans hf84
          exact OpX.val (Value.agg #[u49, (Value.int .i64 x47.2.1), u51, u52]) wd92 rfl (op_loadBox st_34 e97 (St.boxAt hS96 3 rfl) rfl rfl) (Ext.refl _) ⟨rfl, hr50⟩
        · refine ObX.op rfl ?_
          intro f98 wd99 he100 hout101 hphi102
          have hS103 : St wd38 wd99 [(Ty.sl (Ty.i .i64)).at u49 x47.1, (Ty.sl (Ty.sl (Ty.sl (Ty.i .i64)))).at u51 x47.2.2.1, (Ty.sl (Ty.sl (Ty.i .i64))).at u52 x47.2.2.2, bx b57 [u49, (Value.int .i64 x47.2.1), u51, u52], (Ty.sl (Ty.i .i64)).at u65 x63.1] := St.extend hS88 he100
          have e104 : f98 1 = (Value.pointer (some ⟨b1, 0, none⟩)) := (hout101 1 rfl).trans hf81
          exact OpX.val (Value.agg #[v_aB_Cocycle_Orders, (Value.int .i64 aB_Cocycle_Modulus), v_aB_Cocycle_Values, v_aB_Values]) wd99 rfl (op_loadBox st_28 e104 (BoxAt.lift (Ext.trans hE44 hS103.ext) hx6) rfl rfl) (Ext.refl _) ⟨rfl, r_aB_Cocycle_Modulus⟩
        · refine ObX.op rfl ?_
          intro f105 wd106 he107 hout108 hphi109
          have hS110 : St wd38 wd106 [(Ty.sl (Ty.i .i64)).at u49 x47.1, (Ty.sl (Ty.sl (Ty.sl (Ty.i .i64)))).at u51 x47.2.2.1, (Ty.sl (Ty.sl (Ty.i .i64))).at u52 x47.2.2.2, bx b57 [u49, (Value.int .i64 x47.2.1), u51, u52], (Ty.sl (Ty.i .i64)).at u65 x63.1] := St.extend hS88 he107
          obtain ⟨S111, hS112, hf113⟩ := hphi109 1 42 _ rfl rfl rfl
          obtain ⟨e114, hr115⟩ := hf113
          refine OpX.call rfl (op_call fn_9 (args1 e114)) (Ret.mono (c_laws_toBraiding (Ty.lift _ (Ext.trans hE43 hS110.ext) r_aB_Cocycle_Orders) hr115 (Ty.lift _ (Ext.trans hE43 hS110.ext) r_aB_Cocycle_Values) (Ty.lift _ (Ext.trans hE43 hS110.ext) r_aB_Values) hx117) ?_)
          rintro _ wd122 ⟨u118, u120, u121, rfl, hr119, he123, hs124⟩
          exact ⟨he123, _, newS _ _, ⟨u118, u120, u121, rfl, hr119, (Sep.new hs124)⟩⟩
        · intro f125 wd126 Ss127 he128 hout129 hSn130 hSd131 hphi132
          show WL _ _ _ _ _ _ _
          have hS133 : St wd38 wd126 [(Ty.sl (Ty.i .i64)).at u49 x47.1, (Ty.sl (Ty.sl (Ty.sl (Ty.i .i64)))).at u51 x47.2.2.1, (Ty.sl (Ty.sl (Ty.i .i64))).at u52 x47.2.2.2, bx b57 [u49, (Value.int .i64 x47.2.1), u51, u52], (Ty.sl (Ty.i .i64)).at u65 x63.1] := St.extend hS88 he128
          obtain ⟨e134, hr135⟩ := hphi132 0 41 _ (by decide) rfl rfl
          obtain ⟨u137, u139, u140, e136, hr138, e136s⟩ := hphi132 2 43 _ (by decide) rfl rfl
          have e141 : f125 1 = (Value.pointer (some ⟨b1, 0, none⟩)) := (hout129 1 rfl).trans hf81
          have e142 : f125 4 = u36 := (hout129 4 rfl).trans hf82
          have e143 : f125 5 = (Value.int .i64 x34.2) := (hout129 5 rfl).trans hf83
          have e144 : f125 6 = (Value.pointer (some ⟨b57, 0, none⟩)) := (hout129 6 rfl).trans hf84
          have e145 : f125 7 = u65 := (hout129 7 rfl).trans hf85
          have e146 : f125 8 = (Value.int .i64 x63.2) := (hout129 8 rfl).trans hf86
          have hS147 := St.joinS hS88 he128 hSn130 (SepS.consS hSd131 rfl e136s SepS.nilS)
          replace hS147 : St wd38 wd126 [(Ty.sl (Ty.i .i64)).at u49 x47.1, (Ty.sl (Ty.sl (Ty.sl (Ty.i .i64)))).at u51 x47.2.2.1, (Ty.sl (Ty.sl (Ty.i .i64))).at u52 x47.2.2.2, bx b57 [u49, (Value.int .i64 x47.2.1), u51, u52], (Ty.sl (Ty.i .i64)).at u65 x63.1, (Ty.sl (Ty.i .i64)).at u137 x116.1, (Ty.sl (Ty.sl (Ty.sl (Ty.i .i64)))).at u139 x116.2.2.1, (Ty.sl (Ty.sl (Ty.i .i64))).at u140 x116.2.2.2] := hS147
          obtain ⟨x148, hx149, h⟩ := bs h
          refine WL.call _ (op_call fn_12 (args2 e134 e136)) (c_laws_eqBraiding (St.rep (t := (Ty.sl (Ty.i .i64))) hS147 0 rfl) hr135 (St.rep (t := (Ty.sl (Ty.sl (Ty.sl (Ty.i .i64))))) hS147 1 rfl) (St.rep (t := (Ty.sl (Ty.sl (Ty.i .i64)))) hS147 2 rfl) (St.rep (t := (Ty.sl (Ty.i .i64))) hS147 5 rfl) hr138 (St.rep (t := (Ty.sl (Ty.sl (Ty.sl (Ty.i .i64))))) hS147 6 rfl) (St.rep (t := (Ty.sl (Ty.sl (Ty.i .i64)))) hS147 7 rfl) hx149) rfl ?_
          rintro _ wd150 ⟨rfl, he151⟩
          have hS153 := St.extend hS147 he151
          replace hS153 : St wd38 wd150 [(Ty.sl (Ty.i .i64)).at u49 x47.1, (Ty.sl (Ty.sl (Ty.sl (Ty.i .i64)))).at u51 x47.2.2.1, (Ty.sl (Ty.sl (Ty.i .i64))).at u52 x47.2.2.2, bx b57 [u49, (Value.int .i64 x47.2.1), u51, u52], (Ty.sl (Ty.i .i64)).at u65 x63.1, (Ty.sl (Ty.i .i64)).at u137 x116.1, (Ty.sl (Ty.sl (Ty.sl (Ty.i .i64)))).at u139 x116.2.2.1, (Ty.sl (Ty.sl (Ty.i .i64))).at u140 x116.2.2.2] := hS153
          refine WL.val (Value.bool (!x148)) _ (op_not rfl) rfl ?_
          refine WL.nil ?_
          show W _ _ _ _ _ _
          refine W.cond (!x148) rfl (fun hc154 => ?_) (fun hc154 => ?_)
          · replace h := ip h hc154
            refine W.seq (W.region ?_)
            refine WL.val (Value.bool false) _ (op_assign rfl) rfl ?_
            refine WL.nil ?_
            show W _ _ _ _ _ _
            refine W.ret ?_
            obtain rfl := Option.some.inj h
            show FinP _ _ _ _ _ _ _
            exact FinP.ret _ (res1 rfl rfl) ⟨rfl, (Ext.trans hE43 hS153.ext)⟩
          · replace h := inegb h hc154
            refine W.skip ?_
            show W _ _ _ _ _ _
            refine W.seq (W.region ?_)
            refine WL.val (Value.int .i64 (1 : Int)) _ (op_assign rfl) rfl ?_
            refine WL.nil ?_
            show W _ _ _ _ _ _
            refine W.seq (W.region ?_)
            refine WL.val (Value.agg #[u49, (Value.int .i64 x47.2.1), u51, u52]) _ (op_loadBox st_34 e144 (St.boxAt hS153 3 rfl) rfl rfl) rfl ?_
            refine WL.val (Value.int .i64 (1 : Int)) _ (op_move rfl) rfl ?_
            obtain ⟨x156, hx157, h⟩ := bs h
            have hS158 := St.fold [(Ty.sl (Ty.i .i64)).at u49 x47.1, (Ty.sl (Ty.sl (Ty.sl (Ty.i .i64)))).at u51 x47.2.2.1, (Ty.sl (Ty.sl (Ty.i .i64))).at u52 x47.2.2.2] [bx b57 [u49, (Value.int .i64 x47.2.1), u51, u52], (Ty.sl (Ty.i .i64)).at u65 x63.1, (Ty.sl (Ty.i .i64)).at u137 x116.1, (Ty.sl (Ty.sl (Ty.sl (Ty.i .i64)))).at u139 x116.2.2.1, (Ty.sl (Ty.sl (Ty.i .i64))).at u140 x116.2.2.2] (St.pick hS153 [0, 1, 2, 3, 4, 5, 6, 7] rfl)
            refine WL.call _ (op_call fn_13 (args2 rfl rfl)) (c_laws_markBraiding hS158 hr50 (inR_i64.2 (show (-9223372036854775808 : Int) ≤ 1 ∧ (1 : Int) ≤ 9223372036854775807 from by decide)) hx157) rfl ?_
            rintro _ wd161 ⟨rfl, hr162, hS159⟩
            have hS160 := St.pick (St.unfold [(Ty.sl (Ty.i .i64)).at u49 x156.2.1, (Ty.sl (Ty.sl (Ty.sl (Ty.i .i64)))).at u51 x156.2.2.1, (Ty.sl (Ty.sl (Ty.i .i64))).at u52 x156.2.2.2] [bx b57 [u49, (Value.int .i64 x47.2.1), u51, u52], (Ty.sl (Ty.i .i64)).at u65 x63.1, (Ty.sl (Ty.i .i64)).at u137 x116.1, (Ty.sl (Ty.sl (Ty.sl (Ty.i .i64)))).at u139 x116.2.2.1, (Ty.sl (Ty.sl (Ty.i .i64))).at u140 x116.2.2.2] hS159) [0, 1, 2, 3, 4, 5, 6, 7] rfl
            replace hS160 : St wd38 wd161 [(Ty.sl (Ty.i .i64)).at u49 x156.2.1, (Ty.sl (Ty.sl (Ty.sl (Ty.i .i64)))).at u51 x156.2.2.1, (Ty.sl (Ty.sl (Ty.i .i64))).at u52 x156.2.2.2, bx b57 [u49, (Value.int .i64 x47.2.1), u51, u52], (Ty.sl (Ty.i .i64)).at u65 x63.1, (Ty.sl (Ty.i .i64)).at u137 x116.1, (Ty.sl (Ty.sl (Ty.sl (Ty.i .i64)))).at u139 x116.2.2.1, (Ty.sl (Ty.sl (Ty.i .i64))).at u140 x116.2.2.2] := hS160
            refine WL.val (Value.int .i64 x156.1) _ (op_assign rfl) rfl ?_
            refine WL.nil ?_
            show W _ _ _ _ _ _
            refine W.seq (W.seq (W.region ?_))
            refine WL.val (Value.int .i64 x156.1) _ (op_move rfl) rfl ?_
            refine WL.val (Value.bool (decide (x156.1 < (0 : Int)))) _ (op_lss rfl rfl) rfl ?_
            refine WL.val (Value.bool (decide (x156.1 < (0 : Int)))) _ (op_move rfl) rfl ?_
            obtain ⟨x164, hj165, h⟩ := bs h
            refine WL.cut 5 (fun fq wq => fq 1 = (Value.pointer (some ⟨b1, 0, none⟩)) ∧ fq 4 = u36 ∧ fq 5 = (Value.int .i64 x34.2) ∧ fq 7 = u65 ∧ fq 8 = (Value.int .i64 x63.2) ∧ fq 56 = Value.bool x164 ∧ St wd38 wq [(Ty.sl (Ty.i .i64)).at u65 x63.1]) ?_ ?_
            · rcases Bool.eq_false_or_eq_true (decide (x156.1 < (0 : Int))) with hc163 | hc163
              · replace hj165 := ip hj165 hc163
                refine WL.gskip rfl (bool_of rfl hc163) rfl ?_
                refine WL.gskip rfl (bool_of rfl hc163) rfl ?_
                refine WL.gskip rfl (bool_of rfl hc163) rfl ?_
                refine WL.gskip rfl (bool_of rfl hc163) rfl ?_
                refine WL.val (Value.bool true) _ (op_pick_t (evb_of rfl hc163) rfl) rfl ?_
                refine WL.nil ?_
                obtain rfl := Option.some.inj hj165
                exact ⟨rfl, e141, e142, e143, e145, e146, rfl, (St.pick hS160 [4] rfl)⟩
              · replace hj165 := inegb hj165 hc163
                refine WL.grun rfl (bool_of rfl hc163) ?_
                refine WL.val u65 _ (op_move e145) rfl ?_
                refine WL.grun rfl (bool_of rfl hc163) ?_
                refine WL.val u36 _ (op_move e142) rfl ?_
                refine WL.grun rfl (bool_of rfl hc163) ?_
                obtain ⟨x169, hx170, hj165⟩ := bs hj165
                refine WL.call _ (op_call fn_11 (args2 rfl rfl)) (c_laws_eqInt64S (St.rep (t := (Ty.sl (Ty.i .i64))) hS160 4 rfl) (Ty.lift _ hS160.ext hb42) hx170) rfl ?_
                rintro _ wd171 ⟨rfl, he172⟩
                have hS174 := St.extend hS160 he172
                replace hS174 : St wd38 wd171 [(Ty.sl (Ty.i .i64)).at u49 x156.2.1, (Ty.sl (Ty.sl (Ty.sl (Ty.i .i64)))).at u51 x156.2.2.1, (Ty.sl (Ty.sl (Ty.i .i64))).at u52 x156.2.2.2, bx b57 [u49, (Value.int .i64 x47.2.1), u51, u52], (Ty.sl (Ty.i .i64)).at u65 x63.1, (Ty.sl (Ty.i .i64)).at u137 x116.1, (Ty.sl (Ty.sl (Ty.sl (Ty.i .i64)))).at u139 x116.2.2.1, (Ty.sl (Ty.sl (Ty.i .i64))).at u140 x116.2.2.2] := hS174
                refine WL.grun rfl (bool_of rfl hc163) ?_
                refine WL.val (Value.bool (!x169)) _ (op_not rfl) rfl ?_
                refine WL.val (Value.bool (!x169)) _ (op_pick_f (evb_of rfl hc163) rfl) rfl ?_
                refine WL.nil ?_
                obtain rfl := Option.some.inj hj165
                exact ⟨rfl, e141, e142, e143, e145, e146, rfl, (St.pick hS174 [4] rfl)⟩
            · intro f166 wd167 hq168
              obtain ⟨hf175, hf176, hf177, hf178, hf179, hf180, hS181⟩ := hq168
              refine WL.val (Value.bool x164) _ (op_move hf180) rfl ?_
              refine WL.cut 4 (fun fq wq => fq 1 = (Value.pointer (some ⟨b1, 0, none⟩)) ∧ fq 4 = u36 ∧ fq 5 = (Value.int .i64 x34.2) ∧ fq 7 = u65 ∧ fq 61 = (Value.bool (x164 || (x63.2 != x34.2))) ∧ St wd38 wq [(Ty.sl (Ty.i .i64)).at u65 x63.1]) ?_ ?_
              · rcases Bool.eq_false_or_eq_true x164 with hc182 | hc182
                · refine WL.gskip rfl (bool_of rfl hc182) rfl ?_
                  refine WL.gskip rfl (bool_of rfl hc182) rfl ?_
                  refine WL.gskip rfl (bool_of rfl hc182) rfl ?_
                  refine WL.val (Value.bool true) _ (op_pick_t (evb_of rfl hc182) rfl) rfl ?_
                  refine WL.nil ?_
                  exact ⟨rfl, hf175, hf176, hf177, hf178, (orT hc182), hS181⟩
                · refine WL.grun rfl (bool_of rfl hc182) ?_
                  refine WL.val (Value.int .i64 x63.2) _ (op_move hf179) rfl ?_
                  refine WL.grun rfl (bool_of rfl hc182) ?_
                  refine WL.val (Value.int .i64 x34.2) _ (op_move hf177) rfl ?_
                  refine WL.grun rfl (bool_of rfl hc182) ?_
                  refine WL.val (Value.bool (x63.2 != x34.2)) _ (op_neq rfl rfl) rfl ?_
                  refine WL.val (Value.bool (x63.2 != x34.2)) _ (op_pick_f (evb_of rfl hc182) rfl) rfl ?_
                  refine WL.nil ?_
                  exact ⟨rfl, hf175, hf176, hf177, hf178, (orF hc182), hS181⟩
              · intro f183 wd184 hq185
                obtain ⟨hf186, hf187, hf188, hf189, hf190, hS191⟩ := hq185
                refine WL.nil ?_
                show W _ _ _ _ _ _
                refine W.cond (x164 || (x63.2 != x34.2)) hf190 (fun hc192 => ?_) (fun hc192 => ?_)
                · replace h := ip h hc192
                  refine W.seq (W.region ?_)
                  refine WL.val (Value.bool false) _ (op_assign rfl) rfl ?_
                  refine WL.nil ?_
                  show W _ _ _ _ _ _
                  refine W.ret ?_
                  obtain rfl := Option.some.inj h
                  show FinP _ _ _ _ _ _ _
                  exact FinP.ret _ (res1 rfl rfl) ⟨rfl, (Ext.trans hE43 hS191.ext)⟩
                · replace h := inegb h hc192
                  refine W.skip ?_
                  show W _ _ _ _ _ _
                  refine W.seq (W.region ?_)
                  refine WL.val (Value.int .i64 (1 : Int)) _ (op_assign rfl) rfl ?_
                  refine WL.nil ?_
                  show W _ _ _ _ _ _
                  refine W.seq (W.region ?_)
                  refine WL.val u65 _ (op_move hf189) rfl ?_
                  refine WL.val (Value.int .i64 (1 : Int)) _ (op_move rfl) rfl ?_
                  obtain ⟨x194, hx195, h⟩ := bs h
                  have hS196 := St.fold [(Ty.sl (Ty.i .i64)).at u65 x63.1] [] (St.pick hS191 [0] rfl)
                  refine WL.call _ (op_call fn_14 (args2 rfl rfl)) (c_laws_markInt64S hS196 (inR_i64.2 (show (-9223372036854775808 : Int) ≤ 1 ∧ (1 : Int) ≤ 9223372036854775807 from by decide)) hx195) rfl ?_
                  rintro _ wd199 ⟨rfl, hr200, hS197⟩
                  have hS198 := St.pick (St.unfold [(Ty.sl (Ty.i .i64)).at u65 x194.2] [] hS197) [0] rfl
                  replace hS198 : St wd38 wd199 [(Ty.sl (Ty.i .i64)).at u65 x194.2] := hS198
                  refine WL.val (Value.int .i64 x194.1) _ (op_assign rfl) rfl ?_
                  refine WL.nil ?_
                  show W _ _ _ _ _ _
                  refine W.seq (W.region ?_)
                  refine WL.val (Value.int .i64 (1 : Int)) _ (op_assign rfl) rfl ?_
                  refine WL.nil ?_
                  show W _ _ _ _ _ _
                  refine W.seq (W.region ?_)
                  refine WL.val u65 _ (op_move hf189) rfl ?_
                  refine WL.val (Value.int .i64 (1 : Int)) _ (op_move rfl) rfl ?_
                  obtain ⟨x201, hx202, h⟩ := bs h
                  refine WL.call _ (op_call fn_15 (args2 rfl rfl)) (c_laws_heldInt64S (St.rep (t := (Ty.sl (Ty.i .i64))) hS198 0 rfl) (inR_i64.2 (show (-9223372036854775808 : Int) ≤ 1 ∧ (1 : Int) ≤ 9223372036854775807 from by decide)) hx202) rfl ?_
                  rintro _ wd204 ⟨rfl, hr203, he205⟩
                  have hS207 := St.extend hS198 he205
                  replace hS207 : St wd38 wd204 [(Ty.sl (Ty.i .i64)).at u65 x194.2] := hS207
                  refine WL.val (Value.int .i64 x201) _ (op_assign rfl) rfl ?_
                  refine WL.nil ?_
                  show W _ _ _ _ _ _
                  refine W.seq (W.seq (W.region ?_))
                  refine WL.val (Value.int .i64 x201) _ (op_move rfl) rfl ?_
                  refine WL.val (Value.bool (decide (x201 < (0 : Int)))) _ (op_lss rfl rfl) rfl ?_
                  refine WL.nil ?_
                  show W _ _ _ _ _ _
                  refine W.cond (decide (x201 < (0 : Int))) rfl (fun hc208 => ?_) (fun hc208 => ?_)
                  · replace h := ip h hc208
                    refine W.seq (W.region ?_)
                    refine WL.val (Value.bool false) _ (op_assign rfl) rfl ?_
                    refine WL.nil ?_
                    show W _ _ _ _ _ _
                    refine W.ret ?_
                    obtain rfl := Option.some.inj h
                    show FinP _ _ _ _ _ _ _
                    exact FinP.ret _ (res1 rfl rfl) ⟨rfl, (Ext.trans hE43 hS207.ext)⟩
                  · replace h := inegb h hc208
                    refine W.skip ?_
                    show W _ _ _ _ _ _
                    refine W.seq (W.seq (W.region ?_))
                    refine WL.val (Value.int .i64 x201) _ (op_move rfl) rfl ?_
                    refine WL.val (Value.int .i64 x194.1) _ (op_move rfl) rfl ?_
                    refine WL.val (Value.bool (x201 != x194.1)) _ (op_neq rfl rfl) rfl ?_
                    refine WL.nil ?_
                    show W _ _ _ _ _ _
                    refine W.cond (x201 != x194.1) rfl (fun hc210 => ?_) (fun hc210 => ?_)
                    · replace h := ip h hc210
                      refine W.seq (W.region ?_)
                      refine WL.val (Value.bool false) _ (op_assign rfl) rfl ?_
                      refine WL.nil ?_
                      show W _ _ _ _ _ _
                      refine W.ret ?_
                      obtain rfl := Option.some.inj h
                      show FinP _ _ _ _ _ _ _
                      exact FinP.ret _ (res1 rfl rfl) ⟨rfl, (Ext.trans hE43 hS207.ext)⟩
                    · replace h := inegb h hc210
                      refine W.skip ?_
                      show W _ _ _ _ _ _
                      refine W.seq (W.region ?_)
                      refine WL.val (Value.agg #[v_aB_Cocycle_Orders, (Value.int .i64 aB_Cocycle_Modulus), v_aB_Cocycle_Values, v_aB_Values]) _ (op_loadBox st_28 hf186 (BoxAt.lift (Ext.trans hE44 hS207.ext) hx6) rfl rfl) rfl ?_
                      obtain ⟨x212, hx213, h⟩ := bs h
                      refine WL.call _ (op_call fn_9 (args1 rfl)) (c_laws_toBraiding (Ty.lift _ (Ext.trans hE43 hS207.ext) r_aB_Cocycle_Orders) r_aB_Cocycle_Modulus (Ty.lift _ (Ext.trans hE43 hS207.ext) r_aB_Cocycle_Values) (Ty.lift _ (Ext.trans hE43 hS207.ext) r_aB_Values) hx213) rfl ?_
                      rintro _ wd218 ⟨u214, u216, u217, rfl, hr215, he219, hs220⟩
                      have hS221 := St.join hS207 he219 hs220
                      replace hS221 : St wd38 wd218 [(Ty.sl (Ty.i .i64)).at u65 x194.2, (Ty.sl (Ty.i .i64)).at u214 x212.1, (Ty.sl (Ty.sl (Ty.sl (Ty.i .i64)))).at u216 x212.2.2.1, (Ty.sl (Ty.sl (Ty.i .i64))).at u217 x212.2.2.2] := hS221
                      obtain ⟨x222, hx223, h⟩ := bs h
                      refine WL.call _ (op_call fn_10 (args1 rfl)) (c_impl_BraidingFault (St.rep (t := (Ty.sl (Ty.i .i64))) hS221 1 rfl) hr215 (St.rep (t := (Ty.sl (Ty.sl (Ty.sl (Ty.i .i64))))) hS221 2 rfl) (St.rep (t := (Ty.sl (Ty.sl (Ty.i .i64)))) hS221 3 rfl) hx223) rfl ?_
                      rintro _ wd226 ⟨u224, rfl, hr225, he227, hs228⟩
                      have hS229 := St.join hS221 he227 hs228
                      replace hS229 : St wd38 wd226 [(Ty.sl (Ty.i .i64)).at u65 x194.2, (Ty.sl (Ty.i .i64)).at u214 x212.1, (Ty.sl (Ty.sl (Ty.sl (Ty.i .i64)))).at u216 x212.2.2.1, (Ty.sl (Ty.sl (Ty.i .i64))).at u217 x212.2.2.2, (Ty.sl (Ty.i .i64)).at u224 x222.1] := hS229
                      refine WL.val (Value.tuple #[u224, (Value.int .i64 x222.2)]) _ (op_move rfl) rfl ?_
                      refine WL.val u224 _ (op_extract rfl rfl) rfl ?_
                      refine WL.val (Value.int .i64 x222.2) _ (op_extract rfl rfl) rfl ?_
                      refine WL.val u224 _ (op_assign rfl) rfl ?_
                      refine WL.val (Value.int .i64 x222.2) _ (op_assign rfl) rfl ?_
                      refine WL.nil ?_
                      show W _ _ _ _ _ _
                      refine W.seq (W.seq (W.region ?_))
                      refine WL.val u224 _ (op_move rfl) rfl ?_
                      refine WL.val u36 _ (op_move hf187) rfl ?_
                      obtain ⟨x230, hx231, h⟩ := bs h
                      refine WL.call _ (op_call fn_11 (args2 rfl rfl)) (c_laws_eqInt64S (St.rep (t := (Ty.sl (Ty.i .i64))) hS229 4 rfl) (Ty.lift _ hS229.ext hb42) hx231) rfl ?_
                      rintro _ wd232 ⟨rfl, he233⟩
                      have hS235 := St.extend hS229 he233
                      replace hS235 : St wd38 wd232 [(Ty.sl (Ty.i .i64)).at u65 x194.2, (Ty.sl (Ty.i .i64)).at u214 x212.1, (Ty.sl (Ty.sl (Ty.sl (Ty.i .i64)))).at u216 x212.2.2.1, (Ty.sl (Ty.sl (Ty.i .i64))).at u217 x212.2.2.2, (Ty.sl (Ty.i .i64)).at u224 x222.1] := hS235
                      refine WL.val (Value.bool (!x230)) _ (op_not rfl) rfl ?_
                      refine WL.val (Value.bool (!x230)) _ (op_move rfl) rfl ?_
                      refine WL.cut 4 (fun fq wq => fq 7 = u65 ∧ fq 10 = (Value.int .i64 x194.1) ∧ fq 87 = (Value.bool ((!x230) || (x222.2 != x34.2))) ∧ St wd38 wq [(Ty.sl (Ty.i .i64)).at u65 x194.2]) ?_ ?_
                      · rcases Bool.eq_false_or_eq_true (!x230) with hc236 | hc236
                        · refine WL.gskip rfl (bool_of rfl hc236) rfl ?_
                          refine WL.gskip rfl (bool_of rfl hc236) rfl ?_
                          refine WL.gskip rfl (bool_of rfl hc236) rfl ?_
                          refine WL.val (Value.bool true) _ (op_pick_t (evb_of rfl hc236) rfl) rfl ?_
                          refine WL.nil ?_
                          exact ⟨rfl, hf189, rfl, (orT hc236), (St.pick hS235 [0] rfl)⟩
                        · refine WL.grun rfl (bool_of rfl hc236) ?_
                          refine WL.val (Value.int .i64 x222.2) _ (op_move rfl) rfl ?_
                          refine WL.grun rfl (bool_of rfl hc236) ?_
                          refine WL.val (Value.int .i64 x34.2) _ (op_move hf188) rfl ?_
                          refine WL.grun rfl (bool_of rfl hc236) ?_
                          refine WL.val (Value.bool (x222.2 != x34.2)) _ (op_neq rfl rfl) rfl ?_
                          refine WL.val (Value.bool (x222.2 != x34.2)) _ (op_pick_f (evb_of rfl hc236) rfl) rfl ?_
                          refine WL.nil ?_
                          exact ⟨rfl, hf189, rfl, (orF hc236), (St.pick hS235 [0] rfl)⟩
                      · intro f237 wd238 hq239
                        obtain ⟨hf240, hf241, hf242, hS243⟩ := hq239
                        refine WL.nil ?_
                        show W _ _ _ _ _ _
                        refine W.cond ((!x230) || (x222.2 != x34.2)) hf242 (fun hc244 => ?_) (fun hc244 => ?_)
                        · replace h := ip h hc244
                          refine W.seq (W.region ?_)
                          refine WL.val (Value.bool false) _ (op_assign rfl) rfl ?_
                          refine WL.nil ?_
                          show W _ _ _ _ _ _
                          refine W.ret ?_
                          obtain rfl := Option.some.inj h
                          show FinP _ _ _ _ _ _ _
                          exact FinP.ret _ (res1 rfl rfl) ⟨rfl, (Ext.trans hE43 hS243.ext)⟩
                        · replace h := inegb h hc244
                          refine W.skip ?_
                          show W _ _ _ _ _ _
                          refine W.seq (W.region ?_)
                          refine WL.val (Value.int .i64 (1 : Int)) _ (op_assign rfl) rfl ?_
                          refine WL.nil ?_
                          show W _ _ _ _ _ _
                          refine W.seq (W.region ?_)
                          refine WL.val u65 _ (op_move hf240) rfl ?_
                          refine WL.val (Value.int .i64 (1 : Int)) _ (op_move rfl) rfl ?_
                          obtain ⟨x246, hx247, h⟩ := bs h
                          refine WL.call _ (op_call fn_15 (args2 rfl rfl)) (c_laws_heldInt64S (St.rep (t := (Ty.sl (Ty.i .i64))) hS243 0 rfl) (inR_i64.2 (show (-9223372036854775808 : Int) ≤ 1 ∧ (1 : Int) ≤ 9223372036854775807 from by decide)) hx247) rfl ?_
                          rintro _ wd249 ⟨rfl, hr248, he250⟩
                          have hS252 := St.extend hS243 he250
                          replace hS252 : St wd38 wd249 [(Ty.sl (Ty.i .i64)).at u65 x194.2] := hS252
                          refine WL.val (Value.int .i64 x246) _ (op_assign rfl) rfl ?_
                          refine WL.nil ?_
                          show W _ _ _ _ _ _
                          refine W.seq (W.seq (W.region ?_))
                          refine WL.val (Value.int .i64 x246) _ (op_move rfl) rfl ?_
                          refine WL.val (Value.bool (decide (x246 < (0 : Int)))) _ (op_lss rfl rfl) rfl ?_
                          refine WL.nil ?_
                          show W _ _ _ _ _ _
                          refine W.cond (decide (x246 < (0 : Int))) rfl (fun hc253 => ?_) (fun hc253 => ?_)
                          · replace h := ip h hc253
                            refine W.seq (W.region ?_)
                            refine WL.val (Value.bool false) _ (op_assign rfl) rfl ?_
                            refine WL.nil ?_
                            show W _ _ _ _ _ _
                            refine W.ret ?_
                            obtain rfl := Option.some.inj h
                            show FinP _ _ _ _ _ _ _
                            exact FinP.ret _ (res1 rfl rfl) ⟨rfl, (Ext.trans hE43 hS252.ext)⟩
                          · replace h := inegb h hc253
                            refine W.skip ?_
                            show W _ _ _ _ _ _
                            refine W.seq (W.seq (W.region ?_))
                            refine WL.val (Value.int .i64 x246) _ (op_move rfl) rfl ?_
                            refine WL.val (Value.int .i64 x194.1) _ (op_move hf241) rfl ?_
                            refine WL.val (Value.bool (x246 != x194.1)) _ (op_neq rfl rfl) rfl ?_
                            refine WL.nil ?_
                            show W _ _ _ _ _ _
                            refine W.cond (x246 != x194.1) rfl (fun hc255 => ?_) (fun hc255 => ?_)
                            · replace h := ip h hc255
                              refine W.seq (W.region ?_)
                              refine WL.val (Value.bool false) _ (op_assign rfl) rfl ?_
                              refine WL.nil ?_
                              show W _ _ _ _ _ _
                              refine W.ret ?_
                              obtain rfl := Option.some.inj h
                              show FinP _ _ _ _ _ _ _
                              exact FinP.ret _ (res1 rfl rfl) ⟨rfl, (Ext.trans hE43 hS252.ext)⟩
                            · replace h := inegb h hc255
                              refine W.skip ?_
                              show W _ _ _ _ _ _
                              refine W.seq (W.region ?_)
                              refine WL.val (Value.bool true) _ (op_assign rfl) rfl ?_
                              refine WL.nil ?_
                              show W _ _ _ _ _ _
                              refine W.ret ?_
                              obtain rfl := Option.some.inj h
                              show FinP _ _ _ _ _ _ _
                              exact FinP.ret _ (res1 rfl rfl) ⟨rfl, (Ext.trans hE43 hS252.ext)⟩

end Go.VG
