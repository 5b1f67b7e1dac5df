/- The walks, part 4: each Go function returns what its plain twin returns. No condition beyond what each names. -/
import Derived.Test.YtdgdpllnmgaonaaGWalk3
set_option linter.all false
namespace Go.VG
open Go.Proofs
attribute [local irreducible] W WL Sep FinP

theorem c_laws_markInt64SSS {w : World} {a : (List (List (List Int)))} {v_a : Value} {k1 : Int} {w0 : World} {R : Ent} (hS0 : St w0 w [(Ty.sl (Ty.sl (Ty.sl (Ty.i .i64)))).at v_a a, R]) (r_k1 : InR .i64 k1) {res : Int × (List (List (List Int)))} (h : p_laws_markInt64SSS a k1  = some res) :
    Ret Try.prog 71 #[v_a, (Value.int .i64 k1)] w (fun v w' => v = Value.int .i64 res.1 ∧ InR .i64 res.1 ∧ St w0 w' [(Ty.sl (Ty.sl (Ty.sl (Ty.i .i64)))).at v_a res.2, R]) := by
  unfold p_laws_markInt64SSS at h
  refine Ret.start (fn := Try.f71) Try.func71 rfl 19 rfl rfl ?_
  refine W.seq (W.region ?_)
  refine WL.val (Value.int .i64 (0 : Int)) _ (op_assign rfl) rfl ?_
  refine WL.nil ?_
  show W _ _ _ _ _ _
  refine W.seq (W.seq (W.region ?_))
  refine WL.val (Value.int .i64 (0 : Int)) _ (op_assign rfl) rfl ?_
  refine WL.nil ?_
  show W _ _ _ _ _ _
  obtain ⟨res1, hres2, h⟩ := bs h
  refine W.blockLoop (fun fq wq => ∃ s, res1 = Res.fin s ∧ fq 1 = Value.int .i64 s.2 ∧ InR .i64 s.2 ∧ (s.1).length = (a).length ∧ St w0 wq [(Ty.sl (Ty.sl (Ty.sl (Ty.i .i64)))).at v_a s.1, R]) ?_ ?_
  · refine W.forN (fun k (s : (List (List (List Int))) × Int) fq wq => fq 0 = v_a ∧ fq 1 = Value.int .i64 s.2 ∧ InR .i64 s.2 ∧ fq 5 = Value.int .i64 (k : Int) ∧ InR .i64 (k : Int) ∧ (s.1).length = (a).length ∧ St w0 wq [(Ty.sl (Ty.sl (Ty.sl (Ty.i .i64)))).at v_a s.1, R]) hres2 ⟨rfl, rfl, r_k1, rfl, (inR_i64.2 (show (-9223372036854775808 : Int) ≤ 0 ∧ (0 : Int) ≤ 9223372036854775807 from by decide)), rfl, hS0⟩ ?_ ?_
    · intro k3 s40 ct6 f7 wd8 hk9 hb10 hI11 hbrk12 hret13
      obtain ⟨x4, x5⟩ := s40
      replace hI11 : f7 0 = v_a ∧ f7 1 = Value.int .i64 x5 ∧ InR .i64 x5 ∧ f7 5 = Value.int .i64 (k3 : Int) ∧ InR .i64 (k3 : Int) ∧ (x4).length = (a).length ∧ St w0 wd8 [(Ty.sl (Ty.sl (Ty.sl (Ty.i .i64)))).at v_a x4, R] := hI11
      replace hb10 : p_laws_markInt64SSS_L1  k3 x4 x5 = some ct6 := hb10
      unfold p_laws_markInt64SSS_L1 at hb10
      obtain ⟨hf14, hf15, hr16, hf17, hr18, hL19, hS20⟩ := hI11
      refine W.seq (W.seq (W.region ?_))
      refine WL.val (Value.int .i64 (k3 : Int)) _ (op_move hf17) rfl ?_
      refine WL.val v_a _ (op_move hf14) rfl ?_
      have hr21 := inR_len (St.rep (t := (Ty.sl (Ty.sl (Ty.sl (Ty.i .i64))))) hS20 0 rfl)
      refine WL.val (Value.int .i64 ((x4).length : Int)) _ (op_lenL sl_23 (St.rep (t := (Ty.sl (Ty.sl (Ty.sl (Ty.i .i64))))) hS20 0 rfl) rfl) rfl ?_
      refine WL.val (Value.bool (decide ((k3 : Int) < ((x4).length : Int)))) _ (op_lss rfl rfl) rfl ?_
      have hl22 : (k3 : Int) < ((x4).length : Int) := by omega
      refine WL.nil ?_
      show W _ _ _ _ _ _
      refine W.condT (decide ((k3 : Int) < ((x4).length : Int))) rfl (decide_eq_true hl22) ?_
      refine W.skip ?_
      show W _ _ _ _ _ _
      refine W.seq ?_
      refine W.block ?_
      refine W.region ?_
      refine WL.val v_a _ (op_move hf14) rfl ?_
      refine WL.val (Value.int .i64 (k3 : Int)) _ (op_move hf17) rfl ?_
      obtain ⟨x24, hx27, hb10⟩ := bs hb10
      obtain ⟨ha25, hb26, hx27⟩ := idx_some hx27
      refine WL.val (Value.pointer (some (elA v_a ((k3 : Int)).toNat))) _ (op_idx sl_23 (St.rep (t := (Ty.sl (Ty.sl (Ty.sl (Ty.i .i64))))) hS20 0 rfl) rfl rfl ha25 hb26) rfl ?_
      obtain ⟨u28, hc29, hr30⟩ := repSl.el (St.rep (t := (Ty.sl (Ty.sl (Ty.sl (Ty.i .i64))))) hS20 0 rfl) hx27
      refine WL.val u28 _ (op_load one_26 rfl hc29) rfl ?_
      refine WL.val (Value.int .i64 x5) _ (op_move hf15) rfl ?_
      have hS31 := St.unrow (k := 0) hS20 rfl hx27 hc29
      replace hS31 : St w0 wd8 [holeAt (Ty.sl (Ty.sl (Ty.i .i64))) v_a x4 ((k3 : Int)).toNat u28, R, (Ty.sl (Ty.sl (Ty.i .i64))).at u28 x24] := hS31
      obtain ⟨x32, hx33, hb10⟩ := bs hb10
      have hS34 := St.fold [(Ty.sl (Ty.sl (Ty.i .i64))).at u28 x24] [holeAt (Ty.sl (Ty.sl (Ty.i .i64))) v_a x4 ((k3 : Int)).toNat u28, R] (St.pick hS31 [2, 0, 1] rfl)
      refine WL.call _ (op_call fn_24 (args2 rfl rfl)) (c_laws_markInt64SS hS34 hr16 hx33) rfl ?_
      rintro _ wd37 ⟨rfl, hr38, hS35⟩
      have hS36 := St.pick (St.unfold [(Ty.sl (Ty.sl (Ty.i .i64))).at u28 x32.2] [holeAt (Ty.sl (Ty.sl (Ty.i .i64))) v_a x4 ((k3 : Int)).toNat u28, R] hS35) [1, 2, 0] rfl
      replace hS36 : St w0 wd37 [holeAt (Ty.sl (Ty.sl (Ty.i .i64))) v_a x4 ((k3 : Int)).toNat u28, R, (Ty.sl (Ty.sl (Ty.i .i64))).at u28 x32.2] := hS36
      have hS39 := St.rerow (k := 0) (k2 := 2) hS36 rfl rfl rfl
      replace hS39 : St w0 wd37 [(Ty.sl (Ty.sl (Ty.sl (Ty.i .i64)))).at v_a ((x4).set ((k3 : Int)).toNat x32.2), R, emp] := hS39
      refine WL.val (Value.int .i64 x32.1) _ (op_assign rfl) rfl ?_
      refine WL.nil ?_
      show W _ _ _ _ _ _
      refine W.region ?_
      refine WL.val (Value.int .i64 (k3 : Int)) _ (op_move hf17) rfl ?_
      refine WL.val (Value.int .i64 (w64 ((k3 : Int) + (1 : Int)))) _ (op_add rfl rfl) rfl ?_
      refine WL.val (Value.int .i64 (w64 ((k3 : Int) + (1 : Int)))) _ (op_assign rfl) rfl ?_
      refine WL.nil ?_
      obtain rfl := Option.some.inj hb10
      show ∃ s, _ = Ctl.next s ∧ _
      exact ⟨_, rfl, hf14, rfl, hr38, (ctr_next hl22 hr21), (ctr_rng hl22 hr21), (by first | exact hL19 | (simp only [List.length_set]; exact hL19)), (St.pick hS39 [0, 1] rfl)⟩
    · intro s45 f41 wd42 hs43 hI44
      obtain ⟨x46, x47⟩ := s45
      replace hI44 : f41 0 = v_a ∧ f41 1 = Value.int .i64 x47 ∧ InR .i64 x47 ∧ f41 5 = Value.int .i64 (((a).length : Nat) : Int) ∧ InR .i64 (((a).length : Nat) : Int) ∧ (x46).length = (a).length ∧ St w0 wd42 [(Ty.sl (Ty.sl (Ty.sl (Ty.i .i64)))).at v_a x46, R] := hI44
      obtain ⟨hf48, hf49, hr50, hf51, hr52, hL53, hS54⟩ := hI44
      refine W.seq (W.seq (W.region ?_))
      refine WL.val (Value.int .i64 (((a).length : Nat) : Int)) _ (op_move hf51) rfl ?_
      refine WL.val v_a _ (op_move hf48) rfl ?_
      have hr55 := inR_len (St.rep (t := (Ty.sl (Ty.sl (Ty.sl (Ty.i .i64))))) hS54 0 rfl)
      refine WL.val (Value.int .i64 ((x46).length : Int)) _ (op_lenL sl_23 (St.rep (t := (Ty.sl (Ty.sl (Ty.sl (Ty.i .i64))))) hS54 0 rfl) rfl) rfl ?_
      refine WL.val (Value.bool (decide ((((a).length : Nat) : Int) < ((x46).length : Int)))) _ (op_lss rfl rfl) rfl ?_
      have hl56 : ¬ (((a).length : Nat) : Int) < ((x46).length : Int) := by omega
      refine WL.nil ?_
      show W _ _ _ _ _ _
      refine W.condF (decide ((((a).length : Nat) : Int) < ((x46).length : Int))) rfl (decide_eq_false hl56) ?_
      refine W.exit ?_
      show _ = _ ∧ _
      exact ⟨rfl, _, hs43, hf49, hr50, (by first | exact hL53 | (simp only [List.length_set]; exact hL53)), hS54⟩
  · rintro f57 wd58 ⟨s60, rfl, hq59⟩
    replace h := onRes_fin h
    obtain ⟨x61, x62⟩ := s60
    replace hq59 : f57 1 = Value.int .i64 x62 ∧ InR .i64 x62 ∧ (x61).length = (a).length ∧ St w0 wd58 [(Ty.sl (Ty.sl (Ty.sl (Ty.i .i64)))).at v_a x61, R] := hq59
    replace h : (_ : Option _) = _ := h
    dsimp only at h
    obtain ⟨hf63, hr64, hL65, hS66⟩ := hq59
    show W _ _ _ _ _ _
    refine W.seq (W.region ?_)
    refine WL.val (Value.int .i64 x62) _ (op_move hf63) rfl ?_
    refine WL.val (Value.int .i64 x62) _ (op_assign rfl) rfl ?_
    refine WL.nil ?_
    show W _ _ _ _ _ _
    refine W.ret ?_
    obtain rfl := Option.some.inj h
    show FinP _ _ _ _ _ _ _
    exact FinP.ret _ (res1 rfl rfl) ⟨rfl, hr64, (St.pick hS66 [0, 1] rfl)⟩

theorem c_laws_markCocycle {w : World} {a_Orders : (List Int)} {v_a_Orders : Value} {a_Modulus : Int} {a_Values : (List (List (List Int)))} {v_a_Values : Value} {k1 : Int} {w0 : World} {R : Ent} (hS0 : St w0 w [(Ty.sl (Ty.i .i64)).at v_a_Orders a_Orders, (Ty.sl (Ty.sl (Ty.sl (Ty.i .i64)))).at v_a_Values a_Values, R]) (r_a_Modulus : InR .i64 a_Modulus) (r_k1 : InR .i64 k1) {res : Int × (List Int) × (List (List (List Int)))} (h : p_laws_markCocycle a_Orders a_Modulus a_Values k1  = some res) :
    Ret Try.prog 35 #[(Value.agg #[v_a_Orders, (Value.int .i64 a_Modulus), v_a_Values]), (Value.int .i64 k1)] w (fun v w' => v = Value.int .i64 res.1 ∧ InR .i64 res.1 ∧ St w0 w' [(Ty.sl (Ty.i .i64)).at v_a_Orders res.2.1, (Ty.sl (Ty.sl (Ty.sl (Ty.i .i64)))).at v_a_Values res.2.2, R]) := by
  unfold p_laws_markCocycle at h
  refine Ret.start (fn := Try.f35) Try.func35 rfl 14 rfl rfl ?_
  refine W.seq (W.region ?_)
  refine WL.box hS0 rfl (cs := [v_a_Orders, (Value.int .i64 a_Modulus), v_a_Values]) rfl rfl ?_
  intro b1 wd2 hS3 he4 hx5
  replace hS3 : St w0 wd2 [(Ty.sl (Ty.i .i64)).at v_a_Orders a_Orders, (Ty.sl (Ty.sl (Ty.sl (Ty.i .i64)))).at v_a_Values a_Values, R, bx b1 [v_a_Orders, (Value.int .i64 a_Modulus), v_a_Values]] := hS3
  refine WL.val (Value.int .i64 (0 : Int)) _ (op_assign rfl) rfl ?_
  refine WL.nil ?_
  show W _ _ _ _ _ _
  refine W.seq (W.region ?_)
  refine WL.val (Value.pointer (some ⟨b1, 0, none⟩)) _ (op_fieldAddr fd_32_0 rfl) rfl ?_
  refine WL.val v_a_Orders _ (op_load one_22 rfl (BoxAt.cell (St.boxAt hS3 3 rfl) rfl)) rfl ?_
  refine WL.val (Value.int .i64 k1) _ (op_move rfl) rfl ?_
  obtain ⟨x6, hx7, h⟩ := bs h
  have hS8 := St.fold [(Ty.sl (Ty.i .i64)).at v_a_Orders a_Orders] [(Ty.sl (Ty.sl (Ty.sl (Ty.i .i64)))).at v_a_Values a_Values, R, bx b1 [v_a_Orders, (Value.int .i64 a_Modulus), v_a_Values]] (St.pick hS3 [0, 1, 2, 3] rfl)
  refine WL.call _ (op_call fn_14 (args2 rfl rfl)) (c_laws_markInt64S hS8 r_k1 hx7) rfl ?_
  rintro _ wd11 ⟨rfl, hr12, hS9⟩
  have hS10 := St.pick (St.unfold [(Ty.sl (Ty.i .i64)).at v_a_Orders x6.2] [(Ty.sl (Ty.sl (Ty.sl (Ty.i .i64)))).at v_a_Values a_Values, R, bx b1 [v_a_Orders, (Value.int .i64 a_Modulus), v_a_Values]] hS9) [0, 1, 2, 3] rfl
  replace hS10 : St w0 wd11 [(Ty.sl (Ty.i .i64)).at v_a_Orders x6.2, (Ty.sl (Ty.sl (Ty.sl (Ty.i .i64)))).at v_a_Values a_Values, R, bx b1 [v_a_Orders, (Value.int .i64 a_Modulus), v_a_Values]] := hS10
  refine WL.val (Value.int .i64 x6.1) _ (op_assign rfl) rfl ?_
  refine WL.nil ?_
  show W _ _ _ _ _ _
  refine W.seq (W.region ?_)
  refine WL.val (Value.pointer (some ⟨b1, 2, none⟩)) _ (op_fieldAddr fd_32_2 rfl) rfl ?_
  refine WL.val v_a_Values _ (op_load one_23 rfl (BoxAt.cell (St.boxAt hS10 3 rfl) rfl)) rfl ?_
  refine WL.val (Value.int .i64 x6.1) _ (op_move rfl) rfl ?_
  obtain ⟨x13, hx14, h⟩ := bs h
  have hS15 := St.fold [(Ty.sl (Ty.sl (Ty.sl (Ty.i .i64)))).at v_a_Values a_Values] [(Ty.sl (Ty.i .i64)).at v_a_Orders x6.2, R, bx b1 [v_a_Orders, (Value.int .i64 a_Modulus), v_a_Values]] (St.pick hS10 [1, 0, 2, 3] rfl)
  refine WL.call _ (op_call fn_71 (args2 rfl rfl)) (c_laws_markInt64SSS hS15 hr12 hx14) rfl ?_
  rintro _ wd18 ⟨rfl, hr19, hS16⟩
  have hS17 := St.pick (St.unfold [(Ty.sl (Ty.sl (Ty.sl (Ty.i .i64)))).at v_a_Values x13.2] [(Ty.sl (Ty.i .i64)).at v_a_Orders x6.2, R, bx b1 [v_a_Orders, (Value.int .i64 a_Modulus), v_a_Values]] hS16) [1, 0, 2, 3] rfl
  replace hS17 : St w0 wd18 [(Ty.sl (Ty.i .i64)).at v_a_Orders x6.2, (Ty.sl (Ty.sl (Ty.sl (Ty.i .i64)))).at v_a_Values x13.2, R, bx b1 [v_a_Orders, (Value.int .i64 a_Modulus), v_a_Values]] := hS17
  refine WL.val (Value.int .i64 x13.1) _ (op_assign rfl) rfl ?_
  refine WL.nil ?_
  show W _ _ _ _ _ _
  refine W.seq (W.region ?_)
  refine WL.val (Value.int .i64 x13.1) _ (op_move rfl) rfl ?_
  refine WL.val (Value.int .i64 x13.1) _ (op_assign rfl) rfl ?_
  refine WL.nil ?_
  show W _ _ _ _ _ _
  refine W.ret ?_
  obtain rfl := Option.some.inj h
  show FinP _ _ _ _ _ _ _
  exact FinP.ret _ (res1 rfl rfl) ⟨rfl, hr19, (St.pick hS17 [0, 1, 2] rfl)⟩

theorem c_laws_markBraiding {w : World} {a_Cocycle_Orders : (List Int)} {v_a_Cocycle_Orders : Value} {a_Cocycle_Modulus : Int} {a_Cocycle_Values : (List (List (List Int)))} {v_a_Cocycle_Values : Value} {a_Values : (List (List Int))} {v_a_Values : Value} {k1 : Int} {w0 : World} {R : Ent} (hS0 : St w0 w [(Ty.sl (Ty.i .i64)).at v_a_Cocycle_Orders a_Cocycle_Orders, (Ty.sl (Ty.sl (Ty.sl (Ty.i .i64)))).at v_a_Cocycle_Values a_Cocycle_Values, (Ty.sl (Ty.sl (Ty.i .i64))).at v_a_Values a_Values, R]) (r_a_Cocycle_Modulus : InR .i64 a_Cocycle_Modulus) (r_k1 : InR .i64 k1) {res : Int × (List Int) × (List (List (List Int))) × (List (List Int))} (h : p_laws_markBraiding a_Cocycle_Orders a_Cocycle_Modulus a_Cocycle_Values a_Values k1  = some res) :
    Ret Try.prog 13 #[(Value.agg #[v_a_Cocycle_Orders, (Value.int .i64 a_Cocycle_Modulus), v_a_Cocycle_Values, v_a_Values]), (Value.int .i64 k1)] w (fun v w' => v = Value.int .i64 res.1 ∧ InR .i64 res.1 ∧ St w0 w' [(Ty.sl (Ty.i .i64)).at v_a_Cocycle_Orders res.2.1, (Ty.sl (Ty.sl (Ty.sl (Ty.i .i64)))).at v_a_Cocycle_Values res.2.2.1, (Ty.sl (Ty.sl (Ty.i .i64))).at v_a_Values res.2.2.2, R]) := by
  unfold p_laws_markBraiding at h
  refine Ret.start (fn := Try.f13) Try.func13 rfl 14 rfl rfl ?_
  refine W.seq (W.region ?_)
  refine WL.box hS0 rfl (cs := [v_a_Cocycle_Orders, (Value.int .i64 a_Cocycle_Modulus), v_a_Cocycle_Values, v_a_Values]) rfl rfl ?_
  intro b1 wd2 hS3 he4 hx5
  replace hS3 : St w0 wd2 [(Ty.sl (Ty.i .i64)).at v_a_Cocycle_Orders a_Cocycle_Orders, (Ty.sl (Ty.sl (Ty.sl (Ty.i .i64)))).at v_a_Cocycle_Values a_Cocycle_Values, (Ty.sl (Ty.sl (Ty.i .i64))).at v_a_Values a_Values, R, bx b1 [v_a_Cocycle_Orders, (Value.int .i64 a_Cocycle_Modulus), v_a_Cocycle_Values, v_a_Values]] := hS3
  refine WL.val (Value.int .i64 (0 : Int)) _ (op_assign rfl) rfl ?_
  refine WL.nil ?_
  show W _ _ _ _ _ _
  refine W.seq (W.region ?_)
  refine WL.val (Value.pointer (some ⟨b1, 0, none⟩)) _ (op_fieldAddr fd_34_0 rfl) rfl ?_
  refine WL.val (Value.agg #[v_a_Cocycle_Orders, (Value.int .i64 a_Cocycle_Modulus), v_a_Cocycle_Values]) _ (op_loadBox st_32 rfl (St.boxAt hS3 4 rfl) rfl rfl) rfl ?_
  refine WL.val (Value.int .i64 k1) _ (op_move rfl) rfl ?_
  obtain ⟨x6, hx7, h⟩ := bs h
  have hS8 := St.fold [(Ty.sl (Ty.i .i64)).at v_a_Cocycle_Orders a_Cocycle_Orders, (Ty.sl (Ty.sl (Ty.sl (Ty.i .i64)))).at v_a_Cocycle_Values a_Cocycle_Values] [(Ty.sl (Ty.sl (Ty.i .i64))).at v_a_Values a_Values, R, bx b1 [v_a_Cocycle_Orders, (Value.int .i64 a_Cocycle_Modulus), v_a_Cocycle_Values, v_a_Values]] (St.pick hS3 [0, 1, 2, 3, 4] rfl)
  refine WL.call _ (op_call fn_35 (args2 rfl rfl)) (c_laws_markCocycle hS8 r_a_Cocycle_Modulus r_k1 hx7) rfl ?_
  rintro _ wd11 ⟨rfl, hr12, hS9⟩
  have hS10 := St.pick (St.unfold [(Ty.sl (Ty.i .i64)).at v_a_Cocycle_Orders x6.2.1, (Ty.sl (Ty.sl (Ty.sl (Ty.i .i64)))).at v_a_Cocycle_Values x6.2.2] [(Ty.sl (Ty.sl (Ty.i .i64))).at v_a_Values a_Values, R, bx b1 [v_a_Cocycle_Orders, (Value.int .i64 a_Cocycle_Modulus), v_a_Cocycle_Values, v_a_Values]] hS9) [0, 1, 2, 3, 4] rfl
  replace hS10 : St w0 wd11 [(Ty.sl (Ty.i .i64)).at v_a_Cocycle_Orders x6.2.1, (Ty.sl (Ty.sl (Ty.sl (Ty.i .i64)))).at v_a_Cocycle_Values x6.2.2, (Ty.sl (Ty.sl (Ty.i .i64))).at v_a_Values a_Values, R, bx b1 [v_a_Cocycle_Orders, (Value.int .i64 a_Cocycle_Modulus), v_a_Cocycle_Values, v_a_Values]] := hS10
  refine WL.val (Value.int .i64 x6.1) _ (op_assign rfl) rfl ?_
  refine WL.nil ?_
  show W _ _ _ _ _ _
  refine W.seq (W.region ?_)
  refine WL.val (Value.pointer (some ⟨b1, 3, none⟩)) _ (op_fieldAddr fd_34_1 rfl) rfl ?_
  refine WL.val v_a_Values _ (op_load one_26 rfl (BoxAt.cell (St.boxAt hS10 4 rfl) rfl)) rfl ?_
  refine WL.val (Value.int .i64 x6.1) _ (op_move rfl) rfl ?_
  obtain ⟨x13, hx14, h⟩ := bs h
  have hS15 := St.fold [(Ty.sl (Ty.sl (Ty.i .i64))).at v_a_Values a_Values] [(Ty.sl (Ty.i .i64)).at v_a_Cocycle_Orders x6.2.1, (Ty.sl (Ty.sl (Ty.sl (Ty.i .i64)))).at v_a_Cocycle_Values x6.2.2, R, bx b1 [v_a_Cocycle_Orders, (Value.int .i64 a_Cocycle_Modulus), v_a_Cocycle_Values, v_a_Values]] (St.pick hS10 [2, 0, 1, 3, 4] rfl)
  refine WL.call _ (op_call fn_24 (args2 rfl rfl)) (c_laws_markInt64SS hS15 hr12 hx14) rfl ?_
  rintro _ wd18 ⟨rfl, hr19, hS16⟩
  have hS17 := St.pick (St.unfold [(Ty.sl (Ty.sl (Ty.i .i64))).at v_a_Values x13.2] [(Ty.sl (Ty.i .i64)).at v_a_Cocycle_Orders x6.2.1, (Ty.sl (Ty.sl (Ty.sl (Ty.i .i64)))).at v_a_Cocycle_Values x6.2.2, R, bx b1 [v_a_Cocycle_Orders, (Value.int .i64 a_Cocycle_Modulus), v_a_Cocycle_Values, v_a_Values]] hS16) [1, 2, 0, 3, 4] rfl
  replace hS17 : St w0 wd18 [(Ty.sl (Ty.i .i64)).at v_a_Cocycle_Orders x6.2.1, (Ty.sl (Ty.sl (Ty.sl (Ty.i .i64)))).at v_a_Cocycle_Values x6.2.2, (Ty.sl (Ty.sl (Ty.i .i64))).at v_a_Values x13.2, R, bx b1 [v_a_Cocycle_Orders, (Value.int .i64 a_Cocycle_Modulus), v_a_Cocycle_Values, v_a_Values]] := hS17
  refine WL.val (Value.int .i64 x13.1) _ (op_assign rfl) rfl ?_
  refine WL.nil ?_
  show W _ _ _ _ _ _
  refine W.seq (W.region ?_)
  refine WL.val (Value.int .i64 x13.1) _ (op_move rfl) rfl ?_
  refine WL.val (Value.int .i64 x13.1) _ (op_assign rfl) rfl ?_
  refine WL.nil ?_
  show W _ _ _ _ _ _
  refine W.ret ?_
  obtain rfl := Option.some.inj h
  show FinP _ _ _ _ _ _ _
  exact FinP.ret _ (res1 rfl rfl) ⟨rfl, hr19, (St.pick hS17 [0, 1, 2, 3] rfl)⟩

theorem c_laws_heldInt64S {w : World} {a : (List Int)} {v_a : Value} {k1 : Int} (r_a : (Ty.sl (Ty.i .i64)).rep w v_a a) (r_k1 : InR .i64 k1) {res : Int} (h : p_laws_heldInt64S a k1  = some res) :
    Ret Try.prog 15 #[v_a, (Value.int .i64 k1)] w (fun v w' => v = Value.int .i64 res ∧ InR .i64 res ∧ Ext w w') := by
  unfold p_laws_heldInt64S at h
  have hS0 : St w w [] := St.start w
  refine Ret.start (fn := Try.f15) Try.func15 rfl 21 rfl rfl ?_
  refine W.seq (W.region ?_)
  refine WL.val (Value.int .i64 (0 : Int)) _ (op_assign rfl) rfl ?_
  refine WL.nil ?_
  show W _ _ _ _ _ _
  refine W.seq (W.seq (W.region ?_))
  refine WL.val (Value.int .i64 (0 : Int)) _ (op_assign rfl) rfl ?_
  refine WL.nil ?_
  show W _ _ _ _ _ _
  obtain ⟨res1, hres2, h⟩ := bs h
  refine W.blockLoop (fun fq wq => ∃ s, res1 = Res.fin s ∧ fq 1 = Value.int .i64 s ∧ InR .i64 s ∧ St w wq []) ?_ ?_
  · refine W.forN (fun k (s : Int) fq wq => fq 0 = v_a ∧ fq 1 = Value.int .i64 s ∧ InR .i64 s ∧ fq 5 = Value.int .i64 (k : Int) ∧ InR .i64 (k : Int) ∧ St w wq []) hres2 ⟨rfl, rfl, r_k1, rfl, (inR_i64.2 (show (-9223372036854775808 : Int) ≤ 0 ∧ (0 : Int) ≤ 9223372036854775807 from by decide)), hS0⟩ ?_ ?_
    · intro k3 x4 ct5 f6 wd7 hk8 hb9 hI10 hbrk11 hret12
      replace hI10 : f6 0 = v_a ∧ f6 1 = Value.int .i64 x4 ∧ InR .i64 x4 ∧ f6 5 = Value.int .i64 (k3 : Int) ∧ InR .i64 (k3 : Int) ∧ St w wd7 [] := hI10
      replace hb9 : p_laws_heldInt64S_L1 a k3 x4 = some ct5 := hb9
      unfold p_laws_heldInt64S_L1 at hb9
      obtain ⟨hf13, hf14, hr15, hf16, hr17, hS18⟩ := hI10
      refine W.seq (W.seq (W.region ?_))
      refine WL.val (Value.int .i64 (k3 : Int)) _ (op_move hf16) rfl ?_
      refine WL.val v_a _ (op_move hf13) rfl ?_
      have hr19 := inR_len (Ty.lift _ hS18.ext r_a)
      refine WL.val (Value.int .i64 ((a).length : Int)) _ (op_lenL sl_22 (Ty.lift _ hS18.ext r_a) rfl) rfl ?_
      refine WL.val (Value.bool (decide ((k3 : Int) < ((a).length : Int)))) _ (op_lss rfl rfl) rfl ?_
      have hl20 : (k3 : Int) < ((a).length : Int) := by omega
      refine WL.nil ?_
      show W _ _ _ _ _ _
      refine W.condT (decide ((k3 : Int) < ((a).length : Int))) rfl (decide_eq_true hl20) ?_
      refine W.skip ?_
      show W _ _ _ _ _ _
      refine W.seq ?_
      refine W.block ?_
      refine W.seq (W.seq (W.region ?_))
      refine WL.val v_a _ (op_move hf13) rfl ?_
      refine WL.val (Value.int .i64 (k3 : Int)) _ (op_move hf16) rfl ?_
      obtain ⟨x22, hx25, hb9⟩ := bs hb9
      obtain ⟨ha23, hb24, hx25⟩ := idx_some hx25
      refine WL.val (Value.pointer (some (elA v_a ((k3 : Int)).toNat))) _ (op_idx sl_22 (Ty.lift _ hS18.ext r_a) rfl rfl ha23 hb24) rfl ?_
      obtain ⟨u26, hc27, hr28⟩ := repSl.el r_a hx25
      obtain ⟨rfl, hr28⟩ := hr28
      refine WL.val (Value.int .i64 x22) _ (op_load one_2 rfl (Ext.cell hS18.ext hc27)) rfl ?_
      refine WL.val (Value.int .i64 x4) _ (op_move hf14) rfl ?_
      refine WL.val (Value.bool (x22 != x4)) _ (op_neq rfl rfl) rfl ?_
      refine WL.nil ?_
      show W _ _ _ _ _ _
      refine W.cond (x22 != x4) rfl (fun hc29 => ?_) (fun hc29 => ?_)
      · replace hb9 := ip hb9 hc29
        refine W.seq (W.region ?_)
        refine WL.val (Value.int .i64 (-1 : Int)) _ (op_assign rfl) rfl ?_
        refine WL.nil ?_
        show W _ _ _ _ _ _
        refine W.ret ?_
        obtain rfl := Option.some.inj hb9
        obtain rfl := hret12 _ rfl
        replace h := onRes_ret h
        obtain rfl := Option.some.inj h
        show FinP _ _ _ _ _ _ _
        exact FinP.ret _ (res1 rfl rfl) ⟨rfl, (inR_i64.2 (show (-9223372036854775808 : Int) ≤ -1 ∧ (-1 : Int) ≤ 9223372036854775807 from by decide)), hS18.ext⟩
      · replace hb9 := inegb hb9 hc29
        refine W.skip ?_
        show W _ _ _ _ _ _
        refine W.region ?_
        refine WL.val (Value.int .i64 x4) _ (op_move hf14) rfl ?_
        refine WL.val (Value.int .i64 (w64 (x4 + (1 : Int)))) _ (op_add rfl rfl) rfl ?_
        refine WL.val (Value.int .i64 (w64 (x4 + (1 : Int)))) _ (op_assign rfl) rfl ?_
        refine WL.nil ?_
        show W _ _ _ _ _ _
        refine W.region ?_
        refine WL.val (Value.int .i64 (k3 : Int)) _ (op_move hf16) rfl ?_
        refine WL.val (Value.int .i64 (w64 ((k3 : Int) + (1 : Int)))) _ (op_add rfl rfl) rfl ?_
        refine WL.val (Value.int .i64 (w64 ((k3 : Int) + (1 : Int)))) _ (op_assign rfl) rfl ?_
        refine WL.nil ?_
        obtain rfl := Option.some.inj hb9
        show ∃ s, _ = Ctl.next s ∧ _
        exact ⟨_, rfl, hf13, rfl, (inR_wrap _ _), (ctr_next hl20 hr19), (ctr_rng hl20 hr19), hS18⟩
    · intro x37 f32 wd33 hs34 hI35
      replace hI35 : f32 0 = v_a ∧ f32 1 = Value.int .i64 x37 ∧ InR .i64 x37 ∧ f32 5 = Value.int .i64 (((a).length : Nat) : Int) ∧ InR .i64 (((a).length : Nat) : Int) ∧ St w wd33 [] := hI35
      obtain ⟨hf38, hf39, hr40, hf41, hr42, hS43⟩ := hI35
      refine W.seq (W.seq (W.region ?_))
      refine WL.val (Value.int .i64 (((a).length : Nat) : Int)) _ (op_move hf41) rfl ?_
      refine WL.val v_a _ (op_move hf38) rfl ?_
      have hr44 := inR_len (Ty.lift _ hS43.ext r_a)
      refine WL.val (Value.int .i64 ((a).length : Int)) _ (op_lenL sl_22 (Ty.lift _ hS43.ext r_a) rfl) rfl ?_
      refine WL.val (Value.bool (decide ((((a).length : Nat) : Int) < ((a).length : Int)))) _ (op_lss rfl rfl) rfl ?_
      have hl45 : ¬ (((a).length : Nat) : Int) < ((a).length : Int) := by omega
      refine WL.nil ?_
      show W _ _ _ _ _ _
      refine W.condF (decide ((((a).length : Nat) : Int) < ((a).length : Int))) rfl (decide_eq_false hl45) ?_
      refine W.exit ?_
      show _ = _ ∧ _
      exact ⟨rfl, _, hs34, hf39, hr40, hS43⟩
  · rintro f46 wd47 ⟨x50, rfl, hq48⟩
    replace h := onRes_fin h
    replace hq48 : f46 1 = Value.int .i64 x50 ∧ InR .i64 x50 ∧ St w wd47 [] := hq48
    obtain ⟨hf51, hr52, hS53⟩ := hq48
    show W _ _ _ _ _ _
    refine W.seq (W.region ?_)
    refine WL.val (Value.int .i64 x50) _ (op_move hf51) rfl ?_
    refine WL.val (Value.int .i64 x50) _ (op_assign rfl) rfl ?_
    refine WL.nil ?_
    show W _ _ _ _ _ _
    refine W.ret ?_
    obtain rfl := Option.some.inj h
    show FinP _ _ _ _ _ _ _
    exact FinP.ret _ (res1 rfl rfl) ⟨rfl, hr52, hS53.ext⟩

theorem c_spec_l18Is {w : World} {b_Cocycle_Orders : (List Int)} {v_b_Cocycle_Orders : Value} {b_Cocycle_Modulus : Int} {b_Cocycle_Values : (List (List (List Int)))} {v_b_Cocycle_Values : Value} {b_Values : (List (List Int))} {v_b_Values : Value} (r_b_Cocycle_Orders : (Ty.sl (Ty.i .i64)).rep w v_b_Cocycle_Orders b_Cocycle_Orders) (r_b_Cocycle_Modulus : InR .i64 b_Cocycle_Modulus) (r_b_Cocycle_Values : (Ty.sl (Ty.sl (Ty.sl (Ty.i .i64)))).rep w v_b_Cocycle_Values b_Cocycle_Values) (r_b_Values : (Ty.sl (Ty.sl (Ty.i .i64))).rep w v_b_Values b_Values) {res : Bool} (h : p_spec_l18Is b_Cocycle_Orders b_Cocycle_Modulus b_Cocycle_Values b_Values  = some res) :
    Ret Try.prog 36 #[(Value.agg #[v_b_Cocycle_Orders, (Value.int .i64 b_Cocycle_Modulus), v_b_Cocycle_Values, v_b_Values])] w (fun v w' => v = Value.bool res ∧ Ext w w') := by
  unfold p_spec_l18Is at h
  have hS0 : St w w [] := St.start w
  refine Ret.start (fn := Try.f36) Try.func36 rfl 14 rfl rfl ?_
  refine W.seq (W.region ?_)
  refine WL.box hS0 rfl (cs := [v_b_Cocycle_Orders, (Value.int .i64 b_Cocycle_Modulus), v_b_Cocycle_Values, v_b_Values]) rfl rfl ?_
  intro b1 wd2 hS3 he4 hx5
  replace hS3 : St w wd2 [bx b1 [v_b_Cocycle_Orders, (Value.int .i64 b_Cocycle_Modulus), v_b_Cocycle_Values, v_b_Values]] := hS3
  have hx6 := St.boxAt hS3 0 rfl
  have hE7 : Ext w wd2 := hS3.ext
  have hS8 : St wd2 wd2 [] := St.start wd2
  refine WL.val (Value.bool false) _ (op_assign rfl) rfl ?_
  refine WL.nil ?_
  show W _ _ _ _ _ _
  refine W.seq (W.region ?_)
  refine WL.val (Value.agg #[v_b_Cocycle_Orders, (Value.int .i64 b_Cocycle_Modulus), v_b_Cocycle_Values, v_b_Values]) _ (op_loadBox st_34 rfl (BoxAt.lift hS8.ext hx6) rfl rfl) rfl ?_
  obtain ⟨x9, hx10, h⟩ := bs h
  refine WL.call _ (op_call fn_31 (args1 rfl)) (c_spec_l18Shape (Ty.lift _ (Ext.trans hE7 hS8.ext) r_b_Cocycle_Orders) r_b_Cocycle_Modulus (Ty.lift _ (Ext.trans hE7 hS8.ext) r_b_Cocycle_Values) (Ty.lift _ (Ext.trans hE7 hS8.ext) r_b_Values) hx10) rfl ?_
  rintro _ wd11 ⟨rfl, he12⟩
  have hS14 := St.extend hS8 he12
  replace hS14 : St wd2 wd11 [] := hS14
  refine WL.val (Value.bool x9) _ (op_move rfl) rfl ?_
  obtain ⟨x16, hj17, h⟩ := bs h
  refine WL.cut 8 (fun fq wq => fq 13 = Value.bool x16 ∧ St wd2 wq []) ?_ ?_
  · rcases Bool.eq_false_or_eq_true x9 with hc15 | hc15
    · replace hj17 := ip hj17 hc15
      refine WL.grun rfl (bool_of rfl hc15) ?_
      refine WL.val (Value.pointer (some ⟨b1, 0, none⟩)) _ (op_fieldAddr fd_34_0 rfl) rfl ?_
      refine WL.grun rfl (bool_of rfl hc15) ?_
      refine WL.val (Value.agg #[v_b_Cocycle_Orders, (Value.int .i64 b_Cocycle_Modulus), v_b_Cocycle_Values]) _ (op_loadBox st_32 rfl (BoxAt.lift hS14.ext hx6) rfl rfl) rfl ?_
      refine WL.grun rfl (bool_of rfl hc15) ?_
      refine WL.val (Value.pointer (some ⟨b1, 3, none⟩)) _ (op_fieldAddr fd_34_1 rfl) rfl ?_
      refine WL.grun rfl (bool_of rfl hc15) ?_
      refine WL.val v_b_Values _ (op_load one_26 rfl (BoxAt.cell (BoxAt.lift hS14.ext hx6) rfl)) rfl ?_
      refine WL.grun rfl (bool_of rfl hc15) ?_
      obtain ⟨x21, hx22, hj17⟩ := bs hj17
      refine WL.call _ (op_call fn_32 (args2 rfl rfl)) (c_spec_l18Fault (Ty.lift _ (Ext.trans hE7 hS14.ext) r_b_Cocycle_Orders) r_b_Cocycle_Modulus (Ty.lift _ (Ext.trans hE7 hS14.ext) r_b_Cocycle_Values) (Ty.lift _ (Ext.trans hE7 hS14.ext) r_b_Values) hx22) rfl ?_
      rintro u23 wd24 ⟨_, rfl, he25, hs26⟩
      have hS27 := St.join hS14 he25 hs26
      replace hS27 : St wd2 wd24 [(Ty.sl (Ty.i .i64)).at u23 x21] := hS27
      refine WL.grun rfl (bool_of rfl hc15) ?_
      have hr28 := inR_len (St.rep (t := (Ty.sl (Ty.i .i64))) hS27 0 rfl)
      refine WL.val (Value.int .i64 ((x21).length : Int)) _ (op_lenL sl_22 (St.rep (t := (Ty.sl (Ty.i .i64))) hS27 0 rfl) rfl) rfl ?_
      refine WL.grun rfl (bool_of rfl hc15) ?_
      refine WL.val (Value.bool (((x21).length : Int) == (0 : Int))) _ (op_eql rfl rfl) rfl ?_
      refine WL.val (Value.bool (((x21).length : Int) == (0 : Int))) _ (op_pick_t (evb_of rfl hc15) rfl) rfl ?_
      refine WL.nil ?_
      obtain rfl := Option.some.inj hj17
      exact ⟨rfl, rfl, (St.pick hS27 [] rfl)⟩
    · replace hj17 := inegb hj17 hc15
      refine WL.gskip rfl (bool_of rfl hc15) rfl ?_
      refine WL.gskip rfl (bool_of rfl hc15) rfl ?_
      refine WL.gskip rfl (bool_of rfl hc15) rfl ?_
      refine WL.gskip rfl (bool_of rfl hc15) rfl ?_
      refine WL.gskip rfl (bool_of rfl hc15) rfl ?_
      refine WL.gskip rfl (bool_of rfl hc15) rfl ?_
      refine WL.gskip rfl (bool_of rfl hc15) rfl ?_
      refine WL.val (Value.bool false) _ (op_pick_f (evb_of rfl hc15) rfl) rfl ?_
      refine WL.nil ?_
      obtain rfl := Option.some.inj hj17
      exact ⟨rfl, rfl, hS14⟩
  · intro f18 wd19 hq20
    obtain ⟨hf29, hS30⟩ := hq20
    refine WL.val (Value.bool x16) _ (op_assign hf29) rfl ?_
    refine WL.nil ?_
    show W _ _ _ _ _ _
    refine W.ret ?_
    obtain rfl := Option.some.inj h
    show FinP _ _ _ _ _ _ _
    exact FinP.ret _ (res1 rfl rfl) ⟨rfl, (Ext.trans hE7 hS30.ext)⟩

theorem c_spec_l18Monodromy {w : World} {b_Cocycle_Orders : (List Int)} {v_b_Cocycle_Orders : Value} {b_Cocycle_Modulus : Int} {b_Cocycle_Values : (List (List (List Int)))} {v_b_Cocycle_Values : Value} {b_Values : (List (List Int))} {v_b_Values : Value} {x : Int} {y : Int} (r_b_Cocycle_Orders : (Ty.sl (Ty.i .i64)).rep w v_b_Cocycle_Orders b_Cocycle_Orders) (r_b_Cocycle_Modulus : InR .i64 b_Cocycle_Modulus) (r_b_Cocycle_Values : (Ty.sl (Ty.sl (Ty.sl (Ty.i .i64)))).rep w v_b_Cocycle_Values b_Cocycle_Values) (r_b_Values : (Ty.sl (Ty.sl (Ty.i .i64))).rep w v_b_Values b_Values) (r_x : InR .i64 x) (r_y : InR .i64 y) {res : Int} (h : p_spec_l18Monodromy b_Cocycle_Orders b_Cocycle_Modulus b_Cocycle_Values b_Values x y  = some res) :
    Ret Try.prog 37 #[(Value.agg #[v_b_Cocycle_Orders, (Value.int .i64 b_Cocycle_Modulus), v_b_Cocycle_Values, v_b_Values]), (Value.int .i64 x), (Value.int .i64 y)] w (fun v w' => v = Value.int .i64 res ∧ InR .i64 res ∧ Ext w w') := by
  unfold p_spec_l18Monodromy at h
  have hS0 : St w w [] := St.start w
  refine Ret.start (fn := Try.f37) Try.func37 rfl 28 rfl rfl ?_
  refine W.seq (W.region ?_)
  refine WL.box hS0 rfl (cs := [v_b_Cocycle_Orders, (Value.int .i64 b_Cocycle_Modulus), v_b_Cocycle_Values, v_b_Values]) rfl rfl ?_
  intro b1 wd2 hS3 he4 hx5
  replace hS3 : St w wd2 [bx b1 [v_b_Cocycle_Orders, (Value.int .i64 b_Cocycle_Modulus), v_b_Cocycle_Values, v_b_Values]] := hS3
  have hx6 := St.boxAt hS3 0 rfl
  have hE7 : Ext w wd2 := hS3.ext
  have hS8 : St wd2 wd2 [] := St.start wd2
  refine WL.val (Value.int .i64 (0 : Int)) _ (op_assign rfl) rfl ?_
  refine WL.nil ?_
  show W _ _ _ _ _ _
  refine W.seq ?_
  obtain ⟨x48, hx51, h⟩ := bs h
  obtain ⟨ha49, hb50, hx51⟩ := idx_some hx51
  obtain ⟨u62, hc63, hr64⟩ := repSl.el r_b_Values hx51
  obtain ⟨x87, hx90, h⟩ := bs h
  obtain ⟨ha88, hb89, hx90⟩ := idx_some hx90
  obtain ⟨u101, hc102, hr103⟩ := repSl.el hr64 hx90
  obtain ⟨rfl, hr103⟩ := hr103
  obtain ⟨x143, hx146, h⟩ := bs h
  obtain ⟨ha144, hb145, hx146⟩ := idx_some hx146
  obtain ⟨u157, hc158, hr159⟩ := repSl.el r_b_Values hx146
  obtain ⟨x182, hx185, h⟩ := bs h
  obtain ⟨ha183, hb184, hx185⟩ := idx_some hx185
  obtain ⟨u196, hc197, hr198⟩ := repSl.el hr159 hx185
  obtain ⟨rfl, hr198⟩ := hr198
  refine W.drawR mixo 20 [] [fun _ v _ _ => v = (Value.pointer (some ⟨b1, 3, none⟩)), fun _ v _ _ => v = v_b_Values, fun _ v _ _ => v = (Value.int .i64 x) ∧ InR .i64 x, fun _ v _ _ => v = (Value.pointer (some (elA v_b_Values (x).toNat))), fun _ v _ _ => v = u62, fun _ v _ _ => v = (Value.int .i64 y) ∧ InR .i64 y, fun _ v _ _ => v = (Value.pointer (some (elA u62 (y).toNat))), fun _ v _ _ => v = (Value.int .i64 x87) ∧ InR .i64 x87, fun _ v _ _ => v = (Value.pointer (some ⟨b1, 3, none⟩)), fun _ v _ _ => v = v_b_Values, fun _ v _ _ => v = (Value.int .i64 y) ∧ InR .i64 y, fun _ v _ _ => v = (Value.pointer (some (elA v_b_Values (y).toNat))), fun _ v _ _ => v = u157, fun _ v _ _ => v = (Value.int .i64 x) ∧ InR .i64 x, fun _ v _ _ => v = (Value.pointer (some (elA u157 (x).toNat))), fun _ v _ _ => v = (Value.int .i64 x182) ∧ InR .i64 x182, fun _ v _ _ => v = (Value.int .i64 (w64 (x87 + x182))) ∧ InR .i64 (w64 (x87 + x182)), fun _ v _ _ => v = (Value.pointer (some ⟨b1, 0, none⟩)), fun _ v _ _ => v = (Value.pointer (some ⟨b1, 1, none⟩)), fun _ v _ _ => v = (Value.int .i64 b_Cocycle_Modulus) ∧ InR .i64 b_Cocycle_Modulus] (by kernel_rfl) (by kernel_rfl) ⟨⟨fun _ _ _ _ _ _ h => h, fun _ _ _ _ _ _ h => h⟩, ⟨fun _ _ _ _ _ _ h => h, fun _ _ _ _ _ _ h => h⟩, ⟨fun _ _ _ _ _ _ h => h, fun _ _ _ _ _ _ h => h⟩, ⟨fun _ _ _ _ _ _ h => h, fun _ _ _ _ _ _ h => h⟩, ⟨fun _ _ _ _ _ _ h => h, fun _ _ _ _ _ _ h => h⟩, ⟨fun _ _ _ _ _ _ h => h, fun _ _ _ _ _ _ h => h⟩, ⟨fun _ _ _ _ _ _ h => h, fun _ _ _ _ _ _ h => h⟩, ⟨fun _ _ _ _ _ _ h => h, fun _ _ _ _ _ _ h => h⟩, ⟨fun _ _ _ _ _ _ h => h, fun _ _ _ _ _ _ h => h⟩, ⟨fun _ _ _ _ _ _ h => h, fun _ _ _ _ _ _ h => h⟩, ⟨fun _ _ _ _ _ _ h => h, fun _ _ _ _ _ _ h => h⟩, ⟨fun _ _ _ _ _ _ h => h, fun _ _ _ _ _ _ h => h⟩, ⟨fun _ _ _ _ _ _ h => h, fun _ _ _ _ _ _ h => h⟩, ⟨fun _ _ _ _ _ _ h => h, fun _ _ _ _ _ _ h => h⟩, ⟨fun _ _ _ _ _ _ h => h, fun _ _ _ _ _ _ h => h⟩, ⟨fun _ _ _ _ _ _ h => h, fun _ _ _ _ _ _ h => h⟩, ⟨fun _ _ _ _ _ _ h => h, fun _ _ _ _ _ _ h => h⟩, ⟨fun _ _ _ _ _ _ h => h, fun _ _ _ _ _ _ h => h⟩, ⟨fun _ _ _ _ _ _ h => h, fun _ _ _ _ _ _ h => h⟩, ⟨fun _ _ _ _ _ _ h => h, fun _ _ _ _ _ _ h => h⟩, trivial⟩ ⟨?_, ?_, ?_, ?_, ?_, ?_, ?_, ?_, ?_, ?_, ?_, ?_, ?_, ?_, ?_, ?_, ?_, ?_, ?_, ?_, trivial⟩ ?_
  · refine ObX.op rfl ?_
    intro f9 wd10 he11 hout12 hphi13
    have hS14 : St wd2 wd10 [] := St.extend hS8 he11
    have e15 : f9 3 = (Value.pointer (some ⟨b1, 0, none⟩)) := (hout12 3 rfl).trans rfl
    exact OpX.val (Value.pointer (some ⟨b1, 3, none⟩)) wd10 rfl (op_fieldAddr fd_34_1 e15) (Ext.refl _) rfl
  · refine ObX.op rfl ?_
    intro f16 wd17 he18 hout19 hphi20
    have hS21 : St wd2 wd17 [] := St.extend hS8 he18
    obtain ⟨S22, hS23, hf24⟩ := hphi20 0 7 _ rfl rfl rfl
    have e25 : f16 7 = (Value.pointer (some ⟨b1, 3, none⟩)) := hf24
    exact OpX.val v_b_Values wd17 rfl (op_load one_26 e25 (BoxAt.cell (BoxAt.lift hS21.ext hx6) rfl)) (Ext.refl _) rfl
  · refine ObX.op rfl ?_
    intro f26 wd27 he28 hout29 hphi30
    have hS31 : St wd2 wd27 [] := St.extend hS8 he28
    have e32 : f26 1 = (Value.int .i64 x) := (hout29 1 rfl).trans rfl
    exact OpX.val (Value.int .i64 x) wd27 rfl (op_move e32) (Ext.refl _) ⟨rfl, r_x⟩
  · refine ObX.op rfl ?_
    intro f33 wd34 he35 hout36 hphi37
    have hS38 : St wd2 wd34 [] := St.extend hS8 he35
    obtain ⟨S39, hS40, hf41⟩ := hphi37 1 8 _ rfl rfl rfl
    have e42 : f33 8 = v_b_Values := hf41
    obtain ⟨S43, hS44, hf45⟩ := hphi37 2 9 _ rfl rfl rfl
    obtain ⟨e46, hr47⟩ : f33 9 = (Value.int .i64 x) ∧ InR .i64 x := hf45
    exact OpX.val (Value.pointer (some (elA v_b_Values (x).toNat))) wd34 rfl (op_idx sl_26 (Ty.lift _ (Ext.trans hE7 hS38.ext) r_b_Values) e42 e46 ha49 hb50) (Ext.refl _) rfl
  · refine ObX.op rfl ?_
    intro f52 wd53 he54 hout55 hphi56
    have hS57 : St wd2 wd53 [] := St.extend hS8 he54
    obtain ⟨S58, hS59, hf60⟩ := hphi56 3 10 _ rfl rfl rfl
    have e61 : f52 10 = (Value.pointer (some (elA v_b_Values (x).toNat))) := hf60
    exact OpX.val u62 wd53 rfl (op_load one_22 e61 (Ext.cell (Ext.trans hE7 hS57.ext) hc63)) (Ext.refl _) rfl
  · refine ObX.op rfl ?_
    intro f65 wd66 he67 hout68 hphi69
    have hS70 : St wd2 wd66 [] := St.extend hS8 he67
    have e71 : f65 2 = (Value.int .i64 y) := (hout68 2 rfl).trans rfl
    exact OpX.val (Value.int .i64 y) wd66 rfl (op_move e71) (Ext.refl _) ⟨rfl, r_y⟩
  · refine ObX.op rfl ?_
    intro f72 wd73 he74 hout75 hphi76
    have hS77 : St wd2 wd73 [] := St.extend hS8 he74
    obtain ⟨S78, hS79, hf80⟩ := hphi76 4 11 _ rfl rfl rfl
    have e81 : f72 11 = u62 := hf80
    obtain ⟨S82, hS83, hf84⟩ := hphi76 5 12 _ rfl rfl rfl
    obtain ⟨e85, hr86⟩ : f72 12 = (Value.int .i64 y) ∧ InR .i64 y := hf84
    exact OpX.val (Value.pointer (some (elA u62 (y).toNat))) wd73 rfl (op_idx sl_22 (Ty.lift _ (Ext.trans hE7 hS77.ext) hr64) e81 e85 ha88 hb89) (Ext.refl _) rfl
  · refine ObX.op rfl ?_
    intro f91 wd92 he93 hout94 hphi95
    have hS96 : St wd2 wd92 [] := St.extend hS8 he93
    obtain ⟨S97, hS98, hf99⟩ := hphi95 6 13 _ rfl rfl rfl
    have e100 : f91 13 = (Value.pointer (some (elA u62 (y).toNat))) := hf99
    exact OpX.val (Value.int .i64 x87) wd92 rfl (op_load one_2 e100 (Ext.cell (Ext.trans hE7 hS96.ext) hc102)) (Ext.refl _) ⟨rfl, hr103⟩
  · refine ObX.op rfl ?_
    intro f104 wd105 he106 hout107 hphi108
    have hS109 : St wd2 wd105 [] := St.extend hS8 he106
    have e110 : f104 3 = (Value.pointer (some ⟨b1, 0, none⟩)) := (hout107 3 rfl).trans rfl
    exact OpX.val (Value.pointer (some ⟨b1, 3, none⟩)) wd105 rfl (op_fieldAddr fd_34_1 e110) (Ext.refl _) rfl
  · refine ObX.op rfl ?_
    intro f111 wd112 he113 hout114 hphi115
    have hS116 : St wd2 wd112 [] := St.extend hS8 he113
    obtain ⟨S117, hS118, hf119⟩ := hphi115 8 15 _ rfl rfl rfl
    have e120 : f111 15 = (Value.pointer (some ⟨b1, 3, none⟩)) := hf119
    exact OpX.val v_b_Values wd112 rfl (op_load one_26 e120 (BoxAt.cell (BoxAt.lift hS116.ext hx6) rfl)) (Ext.refl _) rfl
  · refine ObX.op rfl ?_
    intro f121 wd122 he123 hout124 hphi125
    have hS126 : St wd2 wd122 [] := St.extend hS8 he123
    have e127 : f121 2 = (Value.int .i64 y) := (hout124 2 rfl).trans rfl
    exact OpX.val (Value.int .i64 y) wd122 rfl (op_move e127) (Ext.refl _) ⟨rfl, r_y⟩
  · refine ObX.op rfl ?_
    intro f128 wd129 he130 hout131 hphi132
    have hS133 : St wd2 wd129 [] := St.extend hS8 he130
    obtain ⟨S134, hS135, hf136⟩ := hphi132 9 16 _ rfl rfl rfl
    have e137 : f128 16 = v_b_Values := hf136
    obtain ⟨S138, hS139, hf140⟩ := hphi132 10 17 _ rfl rfl rfl
    obtain ⟨e141, hr142⟩ : f128 17 = (Value.int .i64 y) ∧ InR .i64 y := hf140
    exact OpX.val (Value.pointer (some (elA v_b_Values (y).toNat))) wd129 rfl (op_idx sl_26 (Ty.lift _ (Ext.trans hE7 hS133.ext) r_b_Values) e137 e141 ha144 hb145) (Ext.refl _) rfl
  · refine ObX.op rfl ?_
    intro f147 wd148 he149 hout150 hphi151
    have hS152 : St wd2 wd148 [] := St.extend hS8 he149
    obtain ⟨S153, hS154, hf155⟩ := hphi151 11 18 _ rfl rfl rfl
    have e156 : f147 18 = (Value.pointer (some (elA v_b_Values (y).toNat))) := hf155
    exact OpX.val u157 wd148 rfl (op_load one_22 e156 (Ext.cell (Ext.trans hE7 hS152.ext) hc158)) (Ext.refl _) rfl
  · refine ObX.op rfl ?_
    intro f160 wd161 he162 hout163 hphi164
    have hS165 : St wd2 wd161 [] := St.extend hS8 he162
    have e166 : f160 1 = (Value.int .i64 x) := (hout163 1 rfl).trans rfl
    exact OpX.val (Value.int .i64 x) wd161 rfl (op_move e166) (Ext.refl _) ⟨rfl, r_x⟩
  · refine ObX.op rfl ?_
    intro f167 wd168 he169 hout170 hphi171
    have hS172 : St wd2 wd168 [] := St.extend hS8 he169
    obtain ⟨S173, hS174, hf175⟩ := hphi171 12 19 _ rfl rfl rfl
    have e176 : f167 19 = u157 := hf175
    obtain ⟨S177, hS178, hf179⟩ := hphi171 13 20 _ rfl rfl rfl
    obtain ⟨e180, hr181⟩ : f167 20 = (Value.int .i64 x) ∧ InR .i64 x := hf179
    exact OpX.val (Value.pointer (some (elA u157 (x).toNat))) wd168 rfl (op_idx sl_22 (Ty.lift _ (Ext.trans hE7 hS172.ext) hr159) e176 e180 ha183 hb184) (Ext.refl _) rfl
  · refine ObX.op rfl ?_
    intro f186 wd187 he188 hout189 hphi190
    have hS191 : St wd2 wd187 [] := St.extend hS8 he188
    obtain ⟨S192, hS193, hf194⟩ := hphi190 14 21 _ rfl rfl rfl
    have e195 : f186 21 = (Value.pointer (some (elA u157 (x).toNat))) := hf194
    exact OpX.val (Value.int .i64 x182) wd187 rfl (op_load one_2 e195 (Ext.cell (Ext.trans hE7 hS191.ext) hc197)) (Ext.refl _) ⟨rfl, hr198⟩
  · refine ObX.op rfl ?_
    intro f199 wd200 he201 hout202 hphi203
    have hS204 : St wd2 wd200 [] := St.extend hS8 he201
    obtain ⟨S205, hS206, hf207⟩ := hphi203 7 14 _ rfl rfl rfl
    obtain ⟨e208, hr209⟩ : f199 14 = (Value.int .i64 x87) ∧ InR .i64 x87 := hf207
    obtain ⟨S210, hS211, hf212⟩ := hphi203 15 22 _ rfl rfl rfl
    obtain ⟨e213, hr214⟩ : f199 22 = (Value.int .i64 x182) ∧ InR .i64 x182 := hf212
    exact OpX.val (Value.int .i64 (w64 (x87 + x182))) wd200 rfl (op_add e208 e213) (Ext.refl _) ⟨rfl, (inR_wrap _ _)⟩
  · refine ObX.op rfl ?_
    intro f215 wd216 he217 hout218 hphi219
    have hS220 : St wd2 wd216 [] := St.extend hS8 he217
    have e221 : f215 3 = (Value.pointer (some ⟨b1, 0, none⟩)) := (hout218 3 rfl).trans rfl
    exact OpX.val (Value.pointer (some ⟨b1, 0, none⟩)) wd216 rfl (op_fieldAddr fd_34_0 e221) (Ext.refl _) rfl
  · refine ObX.op rfl ?_
    intro f222 wd223 he224 hout225 hphi226
    have hS227 : St wd2 wd223 [] := St.extend hS8 he224
    obtain ⟨S228, hS229, hf230⟩ := hphi226 17 24 _ rfl rfl rfl
    have e231 : f222 24 = (Value.pointer (some ⟨b1, 0, none⟩)) := hf230
    exact OpX.val (Value.pointer (some ⟨b1, 1, none⟩)) wd223 rfl (op_fieldAddr fd_32_1 e231) (Ext.refl _) rfl
  · refine ObX.op rfl ?_
    intro f232 wd233 he234 hout235 hphi236
    have hS237 : St wd2 wd233 [] := St.extend hS8 he234
    obtain ⟨S238, hS239, hf240⟩ := hphi236 18 25 _ rfl rfl rfl
    have e241 : f232 25 = (Value.pointer (some ⟨b1, 1, none⟩)) := hf240
    exact OpX.val (Value.int .i64 b_Cocycle_Modulus) wd233 rfl (op_load one_2 e241 (BoxAt.cell (BoxAt.lift hS237.ext hx6) rfl)) (Ext.refl _) ⟨rfl, r_b_Cocycle_Modulus⟩
  · intro f242 wd243 Ss244 he245 hout246 hSn247 hSd248 hphi249
    show WL _ _ _ _ _ _ _
    have hS250 : St wd2 wd243 [] := St.extend hS8 he245
    obtain ⟨e251, hr252⟩ : f242 23 = (Value.int .i64 (w64 (x87 + x182))) ∧ InR .i64 (w64 (x87 + x182)) := hphi249 16 23 _ (by decide) rfl rfl
    obtain ⟨e253, hr254⟩ : f242 26 = (Value.int .i64 b_Cocycle_Modulus) ∧ InR .i64 b_Cocycle_Modulus := hphi249 19 26 _ (by decide) rfl rfl
    obtain ⟨x255, hz256, h⟩ := bs h
    obtain ⟨h0257, hz256⟩ := remI_some hz256
    have hr258 : InR .i64 x255 := by rw [hz256]; exact inR_tmod hr252
    refine WL.val (Value.int .i64 x255) _ (by rw [hz256]; exact op_rem e251 e253 h0257) rfl ?_
    refine WL.val (Value.int .i64 x255) _ (op_assign rfl) rfl ?_
    refine WL.nil ?_
    show W _ _ _ _ _ _
    refine W.ret ?_
    obtain rfl := Option.some.inj h
    show FinP _ _ _ _ _ _ _
    exact FinP.ret _ (res1 rfl rfl) ⟨rfl, hr258, (Ext.trans hE7 hS250.ext)⟩

theorem c_spec_TransparentElements {w : World} {b_Cocycle_Orders : (List Int)} {v_b_Cocycle_Orders : Value} {b_Cocycle_Modulus : Int} {b_Cocycle_Values : (List (List (List Int)))} {v_b_Cocycle_Values : Value} {b_Values : (List (List Int))} {v_b_Values : Value} (r_b_Cocycle_Orders : (Ty.sl (Ty.i .i64)).rep w v_b_Cocycle_Orders b_Cocycle_Orders) (r_b_Cocycle_Modulus : InR .i64 b_Cocycle_Modulus) (r_b_Cocycle_Values : (Ty.sl (Ty.sl (Ty.sl (Ty.i .i64)))).rep w v_b_Cocycle_Values b_Cocycle_Values) (r_b_Values : (Ty.sl (Ty.sl (Ty.i .i64))).rep w v_b_Values b_Values) {res : (List Int) × Int} (h : p_spec_TransparentElements b_Cocycle_Orders b_Cocycle_Modulus b_Cocycle_Values b_Values  = some res) :
    Ret Try.prog 16 #[(Value.agg #[v_b_Cocycle_Orders, (Value.int .i64 b_Cocycle_Modulus), v_b_Cocycle_Values, v_b_Values])] w (fun v w' => ∃ (u0 : Value), v = (Value.tuple #[u0, Value.int .i64 res.2]) ∧ InR .i64 res.2 ∧ Ext w w' ∧ Sep w.heap.size w' [(Ty.sl (Ty.i .i64)).at u0 res.1]) := by
  unfold p_spec_TransparentElements at h
  have hS0 : St w w [] := St.start w
  refine Ret.start (fn := Try.f16) Try.func16 rfl 40 rfl rfl ?_
  refine W.seq (W.region ?_)
  refine WL.box hS0 rfl (cs := [v_b_Cocycle_Orders, (Value.int .i64 b_Cocycle_Modulus), v_b_Cocycle_Values, v_b_Values]) rfl rfl ?_
  intro b1 wd2 hS3 he4 hx5
  replace hS3 : St w wd2 [bx b1 [v_b_Cocycle_Orders, (Value.int .i64 b_Cocycle_Modulus), v_b_Cocycle_Values, v_b_Values]] := hS3
  have hx6 := St.boxAt hS3 0 rfl
  have hE7 : Ext w wd2 := hS3.ext
  have hS8 : St wd2 wd2 [] := St.start wd2
  refine WL.val (Value.slice none 0 0) _ (op_assign rfl) rfl ?_
  refine WL.val (Value.int .i64 (0 : Int)) _ (op_assign rfl) rfl ?_
  refine WL.nil ?_
  show W _ _ _ _ _ _
  refine W.seq (W.seq (W.region ?_))
  refine WL.val (Value.agg #[v_b_Cocycle_Orders, (Value.int .i64 b_Cocycle_Modulus), v_b_Cocycle_Values, v_b_Values]) _ (op_loadBox st_34 rfl (BoxAt.lift hS8.ext hx6) rfl rfl) rfl ?_
  obtain ⟨x9, hx10, h⟩ := bs h
  refine WL.call _ (op_call fn_36 (args1 rfl)) (c_spec_l18Is (Ty.lift _ (Ext.trans hE7 hS8.ext) r_b_Cocycle_Orders) r_b_Cocycle_Modulus (Ty.lift _ (Ext.trans hE7 hS8.ext) r_b_Cocycle_Values) (Ty.lift _ (Ext.trans hE7 hS8.ext) r_b_Values) hx10) rfl ?_
  rintro _ wd11 ⟨rfl, he12⟩
  have hS14 := St.extend hS8 he12
  replace hS14 : St wd2 wd11 [] := hS14
  refine WL.val (Value.bool (!x9)) _ (op_not rfl) rfl ?_
  refine WL.nil ?_
  show W _ _ _ _ _ _
  refine W.cond (!x9) rfl (fun hc15 => ?_) (fun hc15 => ?_)
  · replace h := ip h hc15
    refine W.seq (W.region ?_)
    refine WL.val (Value.slice none 0 0) _ (op_assign rfl) rfl ?_
    refine WL.val (Value.int .i64 (1 : Int)) _ (op_assign rfl) rfl ?_
    refine WL.nil ?_
    show W _ _ _ _ _ _
    refine W.ret ?_
    obtain rfl := Option.some.inj h
    show FinP _ _ _ _ _ _ _
    exact FinP.ret _ (res2 rfl rfl rfl) ⟨(Value.slice none 0 0), rfl, (inR_i64.2 (show (-9223372036854775808 : Int) ≤ 1 ∧ (1 : Int) ≤ 9223372036854775807 from by decide)), (Ext.trans hE7 hS14.ext), (St.out (St.pick (St.addNil (Ty.i .i64) hS14) [0] rfl) (hE7))⟩
  · replace h := inegb h hc15
    refine W.skip ?_
    show W _ _ _ _ _ _
    refine W.seq ?_
    refine W.drawR mixo 5 [] [fun _ v S w' => SepS S w' [(Ty.sl (Ty.i .i64)).at v ([] : (List Int))], fun _ v _ _ => v = (Value.pointer (some ⟨b1, 3, none⟩)), fun _ v _ _ => v = v_b_Values, fun _ v _ _ => v = (Value.int .i64 ((b_Values).length : Int)) ∧ InR .i64 ((b_Values).length : Int), fun f v _ _ => v = f 12] (by kernel_rfl) (by kernel_rfl) ⟨⟨fun _ _ _ _ _ he h => SepS.extend he h, fun _ _ _ _ _ _ h => h⟩, ⟨fun _ _ _ _ _ _ h => h, fun _ _ _ _ _ _ h => h⟩, ⟨fun _ _ _ _ _ _ h => h, fun _ _ _ _ _ _ h => h⟩, ⟨fun _ _ _ _ _ _ h => h, fun _ _ _ _ _ _ h => h⟩, ⟨fun _ _ _ _ _ _ h => h, fun _ _ _ _ _ hf h => h.trans (hf 0 12 rfl rfl)⟩, trivial⟩ ⟨?_, ?_, ?_, ?_, ?_, trivial⟩ ?_
    · refine ObX.op rfl ?_
      intro f17 wd18 he19 hout20 hphi21
      have hS22 : St wd2 wd18 [] := St.extend hS14 he19
      obtain ⟨v23, wd24, ho25, he26, hs27⟩ := mk_litFlat (P := Try.prog) (f := f17) (w := wd18) (T := 22) (m := 0) (ps := #[]) (us := []) (t := (Ty.i .i64)) (flat_i .i64) ([] : (List Int)) sl_22 rfl (Nat.le_of_ble_eq_true rfl) (fillL rfl trivial) rfl rfl (litL trivial)
      exact OpX.valO v23 wd24 rfl ho25 he26 (Sep.new hs27)
    · refine ObX.op rfl ?_
      intro f28 wd29 he30 hout31 hphi32
      have hS33 : St wd2 wd29 [] := St.extend hS14 he30
      have e34 : f28 1 = (Value.pointer (some ⟨b1, 0, none⟩)) := (hout31 1 rfl).trans rfl
      exact OpX.val (Value.pointer (some ⟨b1, 3, none⟩)) wd29 rfl (op_fieldAddr fd_34_1 e34) (Ext.refl _) rfl
    · refine ObX.op rfl ?_
      intro f35 wd36 he37 hout38 hphi39
      have hS40 : St wd2 wd36 [] := St.extend hS14 he37
      obtain ⟨S41, hS42, hf43⟩ := hphi39 1 13 _ rfl rfl rfl
      have e44 : f35 13 = (Value.pointer (some ⟨b1, 3, none⟩)) := hf43
      exact OpX.val v_b_Values wd36 rfl (op_load one_26 e44 (BoxAt.cell (BoxAt.lift hS40.ext hx6) rfl)) (Ext.refl _) rfl
    · refine ObX.op rfl ?_
      intro f45 wd46 he47 hout48 hphi49
      have hS50 : St wd2 wd46 [] := St.extend hS14 he47
      obtain ⟨S51, hS52, hf53⟩ := hphi49 2 14 _ rfl rfl rfl
      have e54 : f45 14 = v_b_Values := hf53
      have hr55 := inR_len (Ty.lift _ (Ext.trans hE7 hS50.ext) r_b_Values)
      exact OpX.val (Value.int .i64 ((b_Values).length : Int)) wd46 rfl (op_lenL sl_26 (Ty.lift _ (Ext.trans hE7 hS50.ext) r_b_Values) e54) (Ext.refl _) ⟨rfl, hr55⟩
    · refine ObX.op rfl ?_
      intro f56 wd57 he58 hout59 hphi60
      have hS61 : St wd2 wd57 [] := St.extend hS14 he58
      obtain ⟨S62, hS63, hf64⟩ := hphi60 0 12 _ rfl rfl rfl
      have e65 : SepS S62 wd57 [(Ty.sl (Ty.i .i64)).at (f56 12) ([] : (List Int))] := hf64
      exact OpX.val (f56 12) wd57 rfl (op_assign rfl) (Ext.refl _) rfl
    · intro f66 wd67 Ss68 he69 hout70 hSn71 hSd72 hphi73
      show WL _ _ _ _ _ _ _
      have hS74 : St wd2 wd67 [] := St.extend hS14 he69
      have e75 : SepS (Ss68 0) wd67 [(Ty.sl (Ty.i .i64)).at (f66 12) ([] : (List Int))] := hphi73 0 12 _ (by decide) rfl rfl
      obtain ⟨e76, hr77⟩ : f66 15 = (Value.int .i64 ((b_Values).length : Int)) ∧ InR .i64 ((b_Values).length : Int) := hphi73 3 15 _ (by decide) rfl rfl
      have e78 : f66 4 = (f66 12) := (hphi73 4 4 _ (by decide) rfl rfl)
      have e79 : f66 1 = (Value.pointer (some ⟨b1, 0, none⟩)) := (hout70 1 rfl).trans rfl
      have hS80 := St.joinS hS14 he69 hSn71 (SepS.consS hSd72 rfl e75 SepS.nilS)
      replace hS80 : St wd2 wd67 [(Ty.sl (Ty.i .i64)).at (f66 12) ([] : (List Int))] := hS80
      refine WL.val (Value.int .i64 ((b_Values).length : Int)) _ (op_assign e76) rfl ?_
      refine WL.nil ?_
      show W _ _ _ _ _ _
      refine W.seq (W.seq (W.region ?_))
      refine WL.val (Value.int .i64 (0 : Int)) _ (op_assign rfl) rfl ?_
      refine WL.nil ?_
      show W _ _ _ _ _ _
      obtain ⟨res81, hres82, h⟩ := bs h
      refine W.blockLoop (fun fq wq => ∃ s, res81 = Res.fin s ∧ ∃ (uu0 : Value), fq 4 = uu0 ∧ St wd2 wq [(Ty.sl (Ty.i .i64)).at uu0 s]) ?_ ?_
      · refine W.forN (fun k (s : (List Int)) fq wq => ∃ (uu0 : Value), fq 1 = (Value.pointer (some ⟨b1, 0, none⟩)) ∧ fq 4 = uu0 ∧ fq 5 = (Value.int .i64 ((b_Values).length : Int)) ∧ fq 6 = Value.int .i64 (k : Int) ∧ InR .i64 (k : Int) ∧ St wd2 wq [(Ty.sl (Ty.i .i64)).at uu0 s]) hres82 ⟨(f66 12), e79, e78, rfl, rfl, (inR_i64.2 (show (-9223372036854775808 : Int) ≤ 0 ∧ (0 : Int) ≤ 9223372036854775807 from by decide)), hS80⟩ ?_ ?_
        · intro k83 x84 ct85 f86 wd87 hk88 hb89 hI90 hbrk91 hret92
          replace hI90 : ∃ (uu0 : Value), f86 1 = (Value.pointer (some ⟨b1, 0, none⟩)) ∧ f86 4 = uu0 ∧ f86 5 = (Value.int .i64 ((b_Values).length : Int)) ∧ f86 6 = Value.int .i64 (k83 : Int) ∧ InR .i64 (k83 : Int) ∧ St wd2 wd87 [(Ty.sl (Ty.i .i64)).at uu0 x84] := hI90
          replace hb89 : p_spec_TransparentElements_L1 b_Values b_Cocycle_Orders b_Cocycle_Modulus b_Cocycle_Values k83 x84 = some ct85 := hb89
          unfold p_spec_TransparentElements_L1 at hb89
          obtain ⟨u93, hf94, hf95, hf96, hf97, hr98, hS99⟩ := hI90
          refine W.seq (W.seq (W.region ?_))
          refine WL.val (Value.int .i64 (k83 : Int)) _ (op_move hf97) rfl ?_
          refine WL.val (Value.int .i64 ((b_Values).length : Int)) _ (op_move hf96) rfl ?_
          refine WL.val (Value.bool (decide ((k83 : Int) < ((b_Values).length : Int)))) _ (op_lss rfl rfl) rfl ?_
          have hl100 : (k83 : Int) < ((b_Values).length : Int) := by omega
          refine WL.nil ?_
          show W _ _ _ _ _ _
          refine W.condT (decide ((k83 : Int) < ((b_Values).length : Int))) rfl (decide_eq_true hl100) ?_
          refine W.skip ?_
          show W _ _ _ _ _ _
          refine W.seq ?_
          refine W.block ?_
          refine W.seq (W.region ?_)
          refine WL.val (Value.bool true) _ (op_assign rfl) rfl ?_
          refine WL.nil ?_
          show W _ _ _ _ _ _
          refine W.seq (W.seq (W.region ?_))
          refine WL.val (Value.int .i64 (0 : Int)) _ (op_assign rfl) rfl ?_
          refine WL.nil ?_
          show W _ _ _ _ _ _
          obtain ⟨res102, hres103, hb89⟩ := bs hb89
          refine W.blockLoop (fun fq wq => ∃ s, res102 = Res.fin s ∧ fq 1 = (Value.pointer (some ⟨b1, 0, none⟩)) ∧ fq 4 = u93 ∧ fq 5 = (Value.int .i64 ((b_Values).length : Int)) ∧ fq 6 = (Value.int .i64 (k83 : Int)) ∧ fq 7 = Value.bool s.1 ∧ St wd2 wq [(Ty.sl (Ty.i .i64)).at u93 x84]) ?_ ?_
          · refine W.whileC (fun (s : Bool × Int) fq wq => fq 1 = (Value.pointer (some ⟨b1, 0, none⟩)) ∧ fq 4 = u93 ∧ fq 5 = (Value.int .i64 ((b_Values).length : Int)) ∧ fq 6 = (Value.int .i64 (k83 : Int)) ∧ fq 7 = Value.bool s.1 ∧ fq 8 = Value.int .i64 s.2 ∧ InR .i64 s.2 ∧ St wd2 wq [(Ty.sl (Ty.i .i64)).at u93 x84]) hres103 ⟨hf94, hf95, hf96, hf97, rfl, rfl, (inR_i64.2 (show (-9223372036854775808 : Int) ≤ 0 ∧ (0 : Int) ≤ 9223372036854775807 from by decide)), hS99⟩ ?_
            intro s144 ct107 f108 wd109 hb111 hI112 hbrk113 hret114
            obtain ⟨x105, x106⟩ := s144
            replace hI112 : f108 1 = (Value.pointer (some ⟨b1, 0, none⟩)) ∧ f108 4 = u93 ∧ f108 5 = (Value.int .i64 ((b_Values).length : Int)) ∧ f108 6 = (Value.int .i64 (k83 : Int)) ∧ f108 7 = Value.bool x105 ∧ f108 8 = Value.int .i64 x106 ∧ InR .i64 x106 ∧ St wd2 wd109 [(Ty.sl (Ty.i .i64)).at u93 x84] := hI112
            replace hb111 : p_spec_TransparentElements_L2 b_Values b_Cocycle_Orders b_Cocycle_Modulus b_Cocycle_Values k83  x105 x106 = some ct107 := hb111
            unfold p_spec_TransparentElements_L2 at hb111
            obtain ⟨hf115, hf116, hf117, hf118, hf119, hf120, hr121, hS122⟩ := hI112
            refine W.seq (W.seq (W.region ?_))
            refine WL.val (Value.int .i64 x106) _ (op_move hf120) rfl ?_
            refine WL.val (Value.int .i64 ((b_Values).length : Int)) _ (op_move hf117) rfl ?_
            refine WL.val (Value.bool (decide (x106 < ((b_Values).length : Int)))) _ (op_lss rfl rfl) rfl ?_
            refine WL.val (Value.bool (decide (x106 < ((b_Values).length : Int)))) _ (op_move rfl) rfl ?_
            refine WL.cut 2 (fun fq wq => fq 1 = (Value.pointer (some ⟨b1, 0, none⟩)) ∧ fq 4 = u93 ∧ fq 5 = (Value.int .i64 ((b_Values).length : Int)) ∧ fq 6 = (Value.int .i64 (k83 : Int)) ∧ fq 7 = (Value.bool x105) ∧ fq 8 = (Value.int .i64 x106) ∧ fq 26 = (Value.bool ((decide (x106 < ((b_Values).length : Int))) && x105)) ∧ St wd2 wq [(Ty.sl (Ty.i .i64)).at u93 x84]) ?_ ?_
            · rcases Bool.eq_false_or_eq_true (decide (x106 < ((b_Values).length : Int))) with hc123 | hc123
              · refine WL.grun rfl (bool_of rfl hc123) ?_
                refine WL.val (Value.bool x105) _ (op_move hf119) rfl ?_
                refine WL.val (Value.bool x105) _ (op_pick_t (evb_of rfl hc123) rfl) rfl ?_
                refine WL.nil ?_
                exact ⟨rfl, hf115, hf116, hf117, hf118, hf119, hf120, (andT hc123), hS122⟩
              · refine WL.gskip rfl (bool_of rfl hc123) rfl ?_
                refine WL.val (Value.bool false) _ (op_pick_f (evb_of rfl hc123) rfl) rfl ?_
                refine WL.nil ?_
                exact ⟨rfl, hf115, hf116, hf117, hf118, hf119, hf120, (andF hc123), hS122⟩
            · intro f124 wd125 hq126
              obtain ⟨hf127, hf128, hf129, hf130, hf131, hf132, hf133, hS134⟩ := hq126
              refine WL.nil ?_
              show W _ _ _ _ _ _
              refine W.cond ((decide (x106 < ((b_Values).length : Int))) && x105) hf133 (fun hc135 => ?_) (fun hc135 => ?_)
              · replace hb111 := ip hb111 hc135
                refine W.skip ?_
                show W _ _ _ _ _ _
                refine W.seq ?_
                refine W.block ?_
                refine W.region ?_
                refine WL.val (Value.agg #[v_b_Cocycle_Orders, (Value.int .i64 b_Cocycle_Modulus), v_b_Cocycle_Values, v_b_Values]) _ (op_loadBox st_34 hf127 (BoxAt.lift hS134.ext hx6) rfl rfl) rfl ?_
                refine WL.val (Value.int .i64 (k83 : Int)) _ (op_move hf130) rfl ?_
                refine WL.val (Value.int .i64 x106) _ (op_move hf132) rfl ?_
                obtain ⟨x137, hx138, hb111⟩ := bs hb111
                refine WL.call _ (op_call fn_37 (args3 rfl rfl rfl)) (c_spec_l18Monodromy (Ty.lift _ (Ext.trans hE7 hS134.ext) r_b_Cocycle_Orders) r_b_Cocycle_Modulus (Ty.lift _ (Ext.trans hE7 hS134.ext) r_b_Cocycle_Values) (Ty.lift _ (Ext.trans hE7 hS134.ext) r_b_Values) hr98 hr121 hx138) rfl ?_
                rintro _ wd140 ⟨rfl, hr139, he141⟩
                have hS143 := St.extend hS134 he141
                replace hS143 : St wd2 wd140 [(Ty.sl (Ty.i .i64)).at u93 x84] := hS143
                refine WL.val (Value.bool (x137 == (0 : Int))) _ (op_eql rfl rfl) rfl ?_
                refine WL.val (Value.bool (x137 == (0 : Int))) _ (op_assign rfl) rfl ?_
                refine WL.nil ?_
                show W _ _ _ _ _ _
                refine W.region ?_
                refine WL.val (Value.int .i64 x106) _ (op_move hf132) rfl ?_
                refine WL.val (Value.int .i64 (w64 (x106 + (1 : Int)))) _ (op_add rfl rfl) rfl ?_
                refine WL.val (Value.int .i64 (w64 (x106 + (1 : Int)))) _ (op_assign rfl) rfl ?_
                refine WL.nil ?_
                obtain rfl := Option.some.inj hb111
                show ∃ s, _ = Ctl.next s ∧ _
                exact ⟨_, rfl, hf127, hf128, hf129, hf130, rfl, rfl, (inR_wrap _ _), hS143⟩
              · replace hb111 := inegb hb111 hc135
                refine W.exit ?_
                obtain rfl := Option.some.inj hb111
                show _ = _ ∧ _
                exact ⟨rfl, _, hbrk113 _ rfl, hf127, hf128, hf129, hf130, hf131, hS134⟩
          · rintro f145 wd146 ⟨s148, rfl, hq147⟩
            replace hb89 := onRes_fin hb89
            obtain ⟨x149, x150⟩ := s148
            replace hq147 : f145 1 = (Value.pointer (some ⟨b1, 0, none⟩)) ∧ f145 4 = u93 ∧ f145 5 = (Value.int .i64 ((b_Values).length : Int)) ∧ f145 6 = (Value.int .i64 (k83 : Int)) ∧ f145 7 = Value.bool x149 ∧ St wd2 wd146 [(Ty.sl (Ty.i .i64)).at u93 x84] := hq147
            replace hb89 : (_ : Option _) = _ := hb89
            dsimp only at hb89
            obtain ⟨hf151, hf152, hf153, hf154, hf155, hS156⟩ := hq147
            show W _ _ _ _ _ _
            refine W.seq (W.region ?_)
            refine WL.val (Value.bool x149) _ (op_move hf155) rfl ?_
            refine WL.nil ?_
            show W _ _ _ _ _ _
            obtain ⟨x157, hj158, hb89⟩ := bs hb89
            refine W.cutCode (fun fq wq => ∃ (uu0 : Value), fq 1 = (Value.pointer (some ⟨b1, 0, none⟩)) ∧ fq 4 = uu0 ∧ fq 5 = (Value.int .i64 ((b_Values).length : Int)) ∧ fq 6 = (Value.int .i64 (k83 : Int)) ∧ St wd2 wq [(Ty.sl (Ty.i .i64)).at uu0 x157]) ?_ ?_
            · refine W.cond x149 rfl (fun hc159 => ?_) (fun hc159 => ?_)
              · replace hj158 := ip hj158 hc159
                refine W.region ?_
                refine WL.val u93 _ (op_move hf152) rfl ?_
                refine WL.val (Value.int .i64 (k83 : Int)) _ (op_move hf154) rfl ?_
                refine WL.litFlat (t := (Ty.i .i64)) (flat_i .i64) [(Value.int .i64 (k83 : Int))] [(k83 : Int)] hS156 sl_22 rfl rfl (fillL rfl ⟨rfl, rfl, rfl, trivial⟩) rfl rfl (litL ⟨⟨rfl, hr98⟩, trivial⟩) rfl ?_
                intro u160 wd161 hS162 he163
                replace hS162 : St wd2 wd161 [(Ty.sl (Ty.i .i64)).at u93 x84, (Ty.sl (Ty.i .i64)).at u160 ([(k83 : Int)] : (List Int))] := hS162
                obtain ⟨x164, hx165, hj158⟩ := bs hj158
                refine WL.append (flat_i .i64) hS162 (k := 0) rfl sl_22 rfl rfl rfl rfl (St.rep (t := (Ty.sl (Ty.i .i64))) hS162 1 rfl) hx165 rfl ?_
                intro u166 wd167 hS168 hz169
                replace hS168 : St wd2 wd167 [(Ty.sl (Ty.i .i64)).at u166 x164, (Ty.sl (Ty.i .i64)).at u160 ([(k83 : Int)] : (List Int))] := hS168
                refine WL.val u166 _ (op_assign rfl) rfl ?_
                refine WL.nil ?_
                obtain rfl := Option.some.inj hj158
                exact ⟨u166, hf151, rfl, hf153, hf154, (St.pick hS168 [0] rfl)⟩
              · replace hj158 := inegb hj158 hc159
                refine W.skip ?_
                obtain rfl := Option.some.inj hj158
                exact ⟨u93, hf151, hf152, hf153, hf154, hS156⟩
            · intro f170 wd171 hq172
              obtain ⟨u173, hf174, hf175, hf176, hf177, hS178⟩ := hq172
              show W _ _ _ _ _ _
              refine W.region ?_
              refine WL.val (Value.int .i64 (k83 : Int)) _ (op_move hf177) rfl ?_
              refine WL.val (Value.int .i64 (w64 ((k83 : Int) + (1 : Int)))) _ (op_add rfl rfl) rfl ?_
              refine WL.val (Value.int .i64 (w64 ((k83 : Int) + (1 : Int)))) _ (op_assign rfl) rfl ?_
              refine WL.nil ?_
              obtain rfl := Option.some.inj hb89
              show ∃ s, _ = Ctl.next s ∧ _
              exact ⟨_, rfl, u173, hf174, hf175, hf176, (ctr_next hl100 hr77), (ctr_rng hl100 hr77), hS178⟩
        · intro x186 f181 wd182 hs183 hI184
          replace hI184 : ∃ (uu0 : Value), f181 1 = (Value.pointer (some ⟨b1, 0, none⟩)) ∧ f181 4 = uu0 ∧ f181 5 = (Value.int .i64 ((b_Values).length : Int)) ∧ f181 6 = Value.int .i64 (((((b_Values).length : Int)).toNat : Nat) : Int) ∧ InR .i64 (((((b_Values).length : Int)).toNat : Nat) : Int) ∧ St wd2 wd182 [(Ty.sl (Ty.i .i64)).at uu0 x186] := hI184
          obtain ⟨u187, hf188, hf189, hf190, hf191, hr192, hS193⟩ := hI184
          refine W.seq (W.seq (W.region ?_))
          refine WL.val (Value.int .i64 (((((b_Values).length : Int)).toNat : Nat) : Int)) _ (op_move hf191) rfl ?_
          refine WL.val (Value.int .i64 ((b_Values).length : Int)) _ (op_move hf190) rfl ?_
          refine WL.val (Value.bool (decide ((((((b_Values).length : Int)).toNat : Nat) : Int) < ((b_Values).length : Int)))) _ (op_lss rfl rfl) rfl ?_
          have hl194 : ¬ (((((b_Values).length : Int)).toNat : Nat) : Int) < ((b_Values).length : Int) := by omega
          refine WL.nil ?_
          show W _ _ _ _ _ _
          refine W.condF (decide ((((((b_Values).length : Int)).toNat : Nat) : Int) < ((b_Values).length : Int))) rfl (decide_eq_false hl194) ?_
          refine W.exit ?_
          show _ = _ ∧ _
          exact ⟨rfl, _, hs183, u187, hf189, hS193⟩
      · rintro f195 wd196 ⟨x199, rfl, hq197⟩
        replace h := onRes_fin h
        replace hq197 : ∃ (uu0 : Value), f195 4 = uu0 ∧ St wd2 wd196 [(Ty.sl (Ty.i .i64)).at uu0 x199] := hq197
        obtain ⟨u200, hf201, hS202⟩ := hq197
        show W _ _ _ _ _ _
        refine W.seq (W.region ?_)
        refine WL.val u200 _ (op_move hf201) rfl ?_
        refine WL.val u200 _ (op_assign rfl) rfl ?_
        refine WL.val (Value.int .i64 (0 : Int)) _ (op_assign rfl) rfl ?_
        refine WL.nil ?_
        show W _ _ _ _ _ _
        refine W.ret ?_
        obtain rfl := Option.some.inj h
        show FinP _ _ _ _ _ _ _
        exact FinP.ret _ (res2 rfl rfl rfl) ⟨u200, rfl, (inR_i64.2 (show (-9223372036854775808 : Int) ≤ 0 ∧ (0 : Int) ≤ 9223372036854775807 from by decide)), (Ext.trans hE7 hS202.ext), (St.out (St.pick hS202 [0] rfl) (hE7))⟩

theorem c_impl_IsBraiding {w : World} {b_Cocycle_Orders : (List Int)} {v_b_Cocycle_Orders : Value} {b_Cocycle_Modulus : Int} {b_Cocycle_Values : (List (List (List Int)))} {v_b_Cocycle_Values : Value} {b_Values : (List (List Int))} {v_b_Values : Value} (r_b_Cocycle_Orders : (Ty.sl (Ty.i .i64)).rep w v_b_Cocycle_Orders b_Cocycle_Orders) (r_b_Cocycle_Modulus : InR .i64 b_Cocycle_Modulus) (r_b_Cocycle_Values : (Ty.sl (Ty.sl (Ty.sl (Ty.i .i64)))).rep w v_b_Cocycle_Values b_Cocycle_Values) (r_b_Values : (Ty.sl (Ty.sl (Ty.i .i64))).rep w v_b_Values b_Values) {res : Bool} (h : p_impl_IsBraiding b_Cocycle_Orders b_Cocycle_Modulus b_Cocycle_Values b_Values  = some res) :
    Ret Try.prog 38 #[(Value.agg #[v_b_Cocycle_Orders, (Value.int .i64 b_Cocycle_Modulus), v_b_Cocycle_Values, v_b_Values])] w (fun v w' => v = Value.bool res ∧ Ext w w') := by
  unfold p_impl_IsBraiding at h
  have hS0 : St w w [] := St.start w
  refine Ret.start (fn := Try.f38) Try.func38 rfl 10 rfl rfl ?_
  refine W.seq (W.region ?_)
  refine WL.box hS0 rfl (cs := [v_b_Cocycle_Orders, (Value.int .i64 b_Cocycle_Modulus), v_b_Cocycle_Values, v_b_Values]) rfl rfl ?_
  intro b1 wd2 hS3 he4 hx5
  replace hS3 : St w wd2 [bx b1 [v_b_Cocycle_Orders, (Value.int .i64 b_Cocycle_Modulus), v_b_Cocycle_Values, v_b_Values]] := hS3
  have hx6 := St.boxAt hS3 0 rfl
  have hE7 : Ext w wd2 := hS3.ext
  have hS8 : St wd2 wd2 [] := St.start wd2
  refine WL.val (Value.bool false) _ (op_assign rfl) rfl ?_
  refine WL.nil ?_
  show W _ _ _ _ _ _
  refine W.seq (W.region ?_)
  refine WL.val (Value.agg #[v_b_Cocycle_Orders, (Value.int .i64 b_Cocycle_Modulus), v_b_Cocycle_Values, v_b_Values]) _ (op_loadBox st_34 rfl (BoxAt.lift hS8.ext hx6) rfl rfl) rfl ?_
  obtain ⟨x9, hx10, h⟩ := bs h
  refine WL.call _ (op_call fn_33 (args1 rfl)) (c_impl_hasNumbers (Ty.lift _ (Ext.trans hE7 hS8.ext) r_b_Cocycle_Orders) r_b_Cocycle_Modulus (Ty.lift _ (Ext.trans hE7 hS8.ext) r_b_Cocycle_Values) (Ty.lift _ (Ext.trans hE7 hS8.ext) r_b_Values) hx10) rfl ?_
  rintro _ wd11 ⟨rfl, he12⟩
  have hS14 := St.extend hS8 he12
  replace hS14 : St wd2 wd11 [] := hS14
  refine WL.val (Value.bool x9) _ (op_move rfl) rfl ?_
  obtain ⟨x16, hj17, h⟩ := bs h
  refine WL.cut 4 (fun fq wq => fq 9 = Value.bool x16 ∧ St wd2 wq []) ?_ ?_
  · rcases Bool.eq_false_or_eq_true x9 with hc15 | hc15
    · replace hj17 := ip hj17 hc15
      refine WL.grun rfl (bool_of rfl hc15) ?_
      refine WL.val (Value.agg #[v_b_Cocycle_Orders, (Value.int .i64 b_Cocycle_Modulus), v_b_Cocycle_Values, v_b_Values]) _ (op_loadBox st_34 rfl (BoxAt.lift hS14.ext hx6) rfl rfl) rfl ?_
      refine WL.grun rfl (bool_of rfl hc15) ?_
      obtain ⟨x21, hx22, hj17⟩ := bs hj17
      refine WL.call _ (op_call fn_34 (args1 rfl)) (c_impl_Braiding_fault (Ty.lift _ (Ext.trans hE7 hS14.ext) r_b_Cocycle_Orders) r_b_Cocycle_Modulus (Ty.lift _ (Ext.trans hE7 hS14.ext) r_b_Cocycle_Values) (Ty.lift _ (Ext.trans hE7 hS14.ext) r_b_Values) hx22) rfl ?_
      rintro u23 wd25 ⟨_, rfl, hn24, he26, hs27⟩
      have hS28 := St.join hS14 he26 hs27
      replace hS28 : St wd2 wd25 [(Ty.sl (Ty.i .i64)).at u23 x21] := hS28
      refine WL.grun rfl (bool_of rfl hc15) ?_
      refine WL.val (Value.bool (x21).isEmpty) _ (op_eqlNilL sl_22 (St.rep (t := (Ty.sl (Ty.i .i64))) hS28 0 rfl) hn24 rfl rfl) rfl ?_
      refine WL.val (Value.bool (x21).isEmpty) _ (op_pick_t (evb_of rfl hc15) rfl) rfl ?_
      refine WL.nil ?_
      obtain rfl := Option.some.inj hj17
      exact ⟨rfl, rfl, (St.pick hS28 [] rfl)⟩
    · replace hj17 := inegb hj17 hc15
      refine WL.gskip rfl (bool_of rfl hc15) rfl ?_
      refine WL.gskip rfl (bool_of rfl hc15) rfl ?_
      refine WL.gskip rfl (bool_of rfl hc15) rfl ?_
      refine WL.val (Value.bool false) _ (op_pick_f (evb_of rfl hc15) rfl) rfl ?_
      refine WL.nil ?_
      obtain rfl := Option.some.inj hj17
      exact ⟨rfl, rfl, hS14⟩
  · intro f18 wd19 hq20
    obtain ⟨hf29, hS30⟩ := hq20
    refine WL.val (Value.bool x16) _ (op_assign hf29) rfl ?_
    refine WL.nil ?_
    show W _ _ _ _ _ _
    refine W.ret ?_
    obtain rfl := Option.some.inj h
    show FinP _ _ _ _ _ _ _
    exact FinP.ret _ (res1 rfl rfl) ⟨rfl, (Ext.trans hE7 hS30.ext)⟩

theorem c_impl_Braiding_monodromy {w : World} {b_Cocycle_Orders : (List Int)} {v_b_Cocycle_Orders : Value} {b_Cocycle_Modulus : Int} {b_Cocycle_Values : (List (List (List Int)))} {v_b_Cocycle_Values : Value} {b_Values : (List (List Int))} {v_b_Values : Value} {x : Int} {y : Int} (r_b_Cocycle_Orders : (Ty.sl (Ty.i .i64)).rep w v_b_Cocycle_Orders b_Cocycle_Orders) (r_b_Cocycle_Modulus : InR .i64 b_Cocycle_Modulus) (r_b_Cocycle_Values : (Ty.sl (Ty.sl (Ty.sl (Ty.i .i64)))).rep w v_b_Cocycle_Values b_Cocycle_Values) (r_b_Values : (Ty.sl (Ty.sl (Ty.i .i64))).rep w v_b_Values b_Values) (r_x : InR .i64 x) (r_y : InR .i64 y) {res : Int} (h : p_impl_Braiding_monodromy b_Cocycle_Orders b_Cocycle_Modulus b_Cocycle_Values b_Values x y  = some res) :
    Ret Try.prog 39 #[(Value.agg #[v_b_Cocycle_Orders, (Value.int .i64 b_Cocycle_Modulus), v_b_Cocycle_Values, v_b_Values]), (Value.int .i64 x), (Value.int .i64 y)] w (fun v w' => v = Value.int .i64 res ∧ InR .i64 res ∧ Ext w w') := by
  unfold p_impl_Braiding_monodromy at h
  have hS0 : St w w [] := St.start w
  refine Ret.start (fn := Try.f39) Try.func39 rfl 27 rfl rfl ?_
  refine W.seq (W.region ?_)
  refine WL.box hS0 rfl (cs := [v_b_Cocycle_Orders, (Value.int .i64 b_Cocycle_Modulus), v_b_Cocycle_Values, v_b_Values]) rfl rfl ?_
  intro b1 wd2 hS3 he4 hx5
  replace hS3 : St w wd2 [bx b1 [v_b_Cocycle_Orders, (Value.int .i64 b_Cocycle_Modulus), v_b_Cocycle_Values, v_b_Values]] := hS3
  have hx6 := St.boxAt hS3 0 rfl
  have hE7 : Ext w wd2 := hS3.ext
  have hS8 : St wd2 wd2 [] := St.start wd2
  refine WL.val (Value.int .i64 (0 : Int)) _ (op_assign rfl) rfl ?_
  refine WL.nil ?_
  show W _ _ _ _ _ _
  refine W.seq ?_
  obtain ⟨x65, hx68, h⟩ := bs h
  obtain ⟨ha66, hb67, hx68⟩ := idx_some hx68
  obtain ⟨u79, hc80, hr81⟩ := repSl.el r_b_Values hx68
  obtain ⟨x104, hx107, h⟩ := bs h
  obtain ⟨ha105, hb106, hx107⟩ := idx_some hx107
  obtain ⟨u118, hc119, hr120⟩ := repSl.el hr81 hx107
  obtain ⟨rfl, hr120⟩ := hr120
  obtain ⟨x160, hx163, h⟩ := bs h
  obtain ⟨ha161, hb162, hx163⟩ := idx_some hx163
  obtain ⟨u174, hc175, hr176⟩ := repSl.el r_b_Values hx163
  obtain ⟨x199, hx202, h⟩ := bs h
  obtain ⟨ha200, hb201, hx202⟩ := idx_some hx202
  obtain ⟨u213, hc214, hr215⟩ := repSl.el hr176 hx202
  obtain ⟨rfl, hr215⟩ := hr215
  refine W.drawR mixo 19 [] [fun _ v _ _ => v = (Value.pointer (some ⟨b1, 0, none⟩)), fun _ v S w' => v = (Value.agg #[v_b_Cocycle_Orders, (Value.int .i64 b_Cocycle_Modulus), v_b_Cocycle_Values]) ∧ InR .i64 b_Cocycle_Modulus, fun _ v _ _ => v = (Value.pointer (some ⟨b1, 3, none⟩)), fun _ v _ _ => v = v_b_Values, fun _ v _ _ => v = (Value.int .i64 x) ∧ InR .i64 x, fun _ v _ _ => v = (Value.pointer (some (elA v_b_Values (x).toNat))), fun _ v _ _ => v = u79, fun _ v _ _ => v = (Value.int .i64 y) ∧ InR .i64 y, fun _ v _ _ => v = (Value.pointer (some (elA u79 (y).toNat))), fun _ v _ _ => v = (Value.int .i64 x104) ∧ InR .i64 x104, fun _ v _ _ => v = (Value.pointer (some ⟨b1, 3, none⟩)), fun _ v _ _ => v = v_b_Values, fun _ v _ _ => v = (Value.int .i64 y) ∧ InR .i64 y, fun _ v _ _ => v = (Value.pointer (some (elA v_b_Values (y).toNat))), fun _ v _ _ => v = u174, fun _ v _ _ => v = (Value.int .i64 x) ∧ InR .i64 x, fun _ v _ _ => v = (Value.pointer (some (elA u174 (x).toNat))), fun _ v _ _ => v = (Value.int .i64 x199) ∧ InR .i64 x199, fun _ v _ _ => v = (Value.int .i64 (w64 (x104 + x199))) ∧ InR .i64 (w64 (x104 + x199))] (by kernel_rfl) (by kernel_rfl) ⟨⟨fun _ _ _ _ _ _ h => h, fun _ _ _ _ _ _ h => h⟩, ⟨fun _ _ _ _ _ he ⟨h0, h1⟩ => ⟨h0, h1⟩, fun _ _ _ _ _ _ h => h⟩, ⟨fun _ _ _ _ _ _ h => h, fun _ _ _ _ _ _ h => h⟩, ⟨fun _ _ _ _ _ _ h => h, fun _ _ _ _ _ _ h => h⟩, ⟨fun _ _ _ _ _ _ h => h, fun _ _ _ _ _ _ h => h⟩, ⟨fun _ _ _ _ _ _ h => h, fun _ _ _ _ _ _ h => h⟩, ⟨fun _ _ _ _ _ _ h => h, fun _ _ _ _ _ _ h => h⟩, ⟨fun _ _ _ _ _ _ h => h, fun _ _ _ _ _ _ h => h⟩, ⟨fun _ _ _ _ _ _ h => h, fun _ _ _ _ _ _ h => h⟩, ⟨fun _ _ _ _ _ _ h => h, fun _ _ _ _ _ _ h => h⟩, ⟨fun _ _ _ _ _ _ h => h, fun _ _ _ _ _ _ h => h⟩, ⟨fun _ _ _ _ _ _ h => h, fun _ _ _ _ _ _ h => h⟩, ⟨fun _ _ _ _ _ _ h => h, fun _ _ _ _ _ _ h => h⟩, ⟨fun _ _ _ _ _ _ h => h, fun _ _ _ _ _ _ h => h⟩, ⟨fun _ _ _ _ _ _ h => h, fun _ _ _ _ _ _ h => h⟩, ⟨fun _ _ _ _ _ _ h => h, fun _ _ _ _ _ _ h => h⟩, ⟨fun _ _ _ _ _ _ h => h, fun _ _ _ _ _ _ h => h⟩, ⟨fun _ _ _ _ _ _ h => h, fun _ _ _ _ _ _ h => h⟩, ⟨fun _ _ _ _ _ _ h => h, fun _ _ _ _ _ _ h => h⟩, trivial⟩ ⟨?_, ?_, ?_, ?_, ?_, ?_, ?_, ?_, ?_, ?_, ?_, ?_, ?_, ?_, ?_, ?_, ?_, ?_, ?_, trivial⟩ ?_
  · refine ObX.op rfl ?_
    intro f9 wd10 he11 hout12 hphi13
    have hS14 : St wd2 wd10 [] := St.extend hS8 he11
    have e15 : f9 3 = (Value.pointer (some ⟨b1, 0, none⟩)) := (hout12 3 rfl).trans rfl
    exact OpX.val (Value.pointer (some ⟨b1, 0, none⟩)) wd10 rfl (op_fieldAddr fd_34_0 e15) (Ext.refl _) rfl
  · refine ObX.op rfl ?_
    intro f16 wd17 he18 hout19 hphi20
    have hS21 : St wd2 wd17 [] := St.extend hS8 he18
    obtain ⟨S22, hS23, hf24⟩ := hphi20 0 7 _ rfl rfl rfl
    have e25 : f16 7 = (Value.pointer (some ⟨b1, 0, none⟩)) := hf24
    exact OpX.val (Value.agg #[v_b_Cocycle_Orders, (Value.int .i64 b_Cocycle_Modulus), v_b_Cocycle_Values]) wd17 rfl (op_loadBox st_32 e25 (BoxAt.lift hS21.ext hx6) rfl rfl) (Ext.refl _) ⟨rfl, r_b_Cocycle_Modulus⟩
  · refine ObX.op rfl ?_
    intro f26 wd27 he28 hout29 hphi30
    have hS31 : St wd2 wd27 [] := St.extend hS8 he28
    have e32 : f26 3 = (Value.pointer (some ⟨b1, 0, none⟩)) := (hout29 3 rfl).trans rfl
    exact OpX.val (Value.pointer (some ⟨b1, 3, none⟩)) wd27 rfl (op_fieldAddr fd_34_1 e32) (Ext.refl _) rfl
  · refine ObX.op rfl ?_
    intro f33 wd34 he35 hout36 hphi37
    have hS38 : St wd2 wd34 [] := St.extend hS8 he35
    obtain ⟨S39, hS40, hf41⟩ := hphi37 2 9 _ rfl rfl rfl
    have e42 : f33 9 = (Value.pointer (some ⟨b1, 3, none⟩)) := hf41
    exact OpX.val v_b_Values wd34 rfl (op_load one_26 e42 (BoxAt.cell (BoxAt.lift hS38.ext hx6) rfl)) (Ext.refl _) rfl
  · refine ObX.op rfl ?_
    intro f43 wd44 he45 hout46 hphi47
    have hS48 : St wd2 wd44 [] := St.extend hS8 he45
    have e49 : f43 1 = (Value.int .i64 x) := (hout46 1 rfl).trans rfl
    exact OpX.val (Value.int .i64 x) wd44 rfl (op_move e49) (Ext.refl _) ⟨rfl, r_x⟩
  · refine ObX.op rfl ?_
    intro f50 wd51 he52 hout53 hphi54
    have hS55 : St wd2 wd51 [] := St.extend hS8 he52
    obtain ⟨S56, hS57, hf58⟩ := hphi54 3 10 _ rfl rfl rfl
    have e59 : f50 10 = v_b_Values := hf58
    obtain ⟨S60, hS61, hf62⟩ := hphi54 4 11 _ rfl rfl rfl
    obtain ⟨e63, hr64⟩ : f50 11 = (Value.int .i64 x) ∧ InR .i64 x := hf62
    exact OpX.val (Value.pointer (some (elA v_b_Values (x).toNat))) wd51 rfl (op_idx sl_26 (Ty.lift _ (Ext.trans hE7 hS55.ext) r_b_Values) e59 e63 ha66 hb67) (Ext.refl _) rfl
  · refine ObX.op rfl ?_
    intro f69 wd70 he71 hout72 hphi73
    have hS74 : St wd2 wd70 [] := St.extend hS8 he71
    obtain ⟨S75, hS76, hf77⟩ := hphi73 5 12 _ rfl rfl rfl
    have e78 : f69 12 = (Value.pointer (some (elA v_b_Values (x).toNat))) := hf77
    exact OpX.val u79 wd70 rfl (op_load one_22 e78 (Ext.cell (Ext.trans hE7 hS74.ext) hc80)) (Ext.refl _) rfl
  · refine ObX.op rfl ?_
    intro f82 wd83 he84 hout85 hphi86
    have hS87 : St wd2 wd83 [] := St.extend hS8 he84
    have e88 : f82 2 = (Value.int .i64 y) := (hout85 2 rfl).trans rfl
    exact OpX.val (Value.int .i64 y) wd83 rfl (op_move e88) (Ext.refl _) ⟨rfl, r_y⟩
  · refine ObX.op rfl ?_
    intro f89 wd90 he91 hout92 hphi93
    have hS94 : St wd2 wd90 [] := St.extend hS8 he91
    obtain ⟨S95, hS96, hf97⟩ := hphi93 6 13 _ rfl rfl rfl
    have e98 : f89 13 = u79 := hf97
    obtain ⟨S99, hS100, hf101⟩ := hphi93 7 14 _ rfl rfl rfl
    obtain ⟨e102, hr103⟩ : f89 14 = (Value.int .i64 y) ∧ InR .i64 y := hf101
    exact OpX.val (Value.pointer (some (elA u79 (y).toNat))) wd90 rfl (op_idx sl_22 (Ty.lift _ (Ext.trans hE7 hS94.ext) hr81) e98 e102 ha105 hb106) (Ext.refl _) rfl
  · refine ObX.op rfl ?_
    intro f108 wd109 he110 hout111 hphi112
    have hS113 : St wd2 wd109 [] := St.extend hS8 he110
    obtain ⟨S114, hS115, hf116⟩ := hphi112 8 15 _ rfl rfl rfl
    have e117 : f108 15 = (Value.pointer (some (elA u79 (y).toNat))) := hf116
    exact OpX.val (Value.int .i64 x104) wd109 rfl (op_load one_2 e117 (Ext.cell (Ext.trans hE7 hS113.ext) hc119)) (Ext.refl _) ⟨rfl, hr120⟩
  · refine ObX.op rfl ?_
    intro f121 wd122 he123 hout124 hphi125
    have hS126 : St wd2 wd122 [] := St.extend hS8 he123
    have e127 : f121 3 = (Value.pointer (some ⟨b1, 0, none⟩)) := (hout124 3 rfl).trans rfl
    exact OpX.val (Value.pointer (some ⟨b1, 3, none⟩)) wd122 rfl (op_fieldAddr fd_34_1 e127) (Ext.refl _) rfl
  · refine ObX.op rfl ?_
    intro f128 wd129 he130 hout131 hphi132
    have hS133 : St wd2 wd129 [] := St.extend hS8 he130
    obtain ⟨S134, hS135, hf136⟩ := hphi132 10 17 _ rfl rfl rfl
    have e137 : f128 17 = (Value.pointer (some ⟨b1, 3, none⟩)) := hf136
    exact OpX.val v_b_Values wd129 rfl (op_load one_26 e137 (BoxAt.cell (BoxAt.lift hS133.ext hx6) rfl)) (Ext.refl _) rfl
  · refine ObX.op rfl ?_
    intro f138 wd139 he140 hout141 hphi142
    have hS143 : St wd2 wd139 [] := St.extend hS8 he140
    have e144 : f138 2 = (Value.int .i64 y) := (hout141 2 rfl).trans rfl
    exact OpX.val (Value.int .i64 y) wd139 rfl (op_move e144) (Ext.refl _) ⟨rfl, r_y⟩
  · refine ObX.op rfl ?_
    intro f145 wd146 he147 hout148 hphi149
    have hS150 : St wd2 wd146 [] := St.extend hS8 he147
    obtain ⟨S151, hS152, hf153⟩ := hphi149 11 18 _ rfl rfl rfl
    have e154 : f145 18 = v_b_Values := hf153
    obtain ⟨S155, hS156, hf157⟩ := hphi149 12 19 _ rfl rfl rfl
    obtain ⟨e158, hr159⟩ : f145 19 = (Value.int .i64 y) ∧ InR .i64 y := hf157
    exact OpX.val (Value.pointer (some (elA v_b_Values (y).toNat))) wd146 rfl (op_idx sl_26 (Ty.lift _ (Ext.trans hE7 hS150.ext) r_b_Values) e154 e158 ha161 hb162) (Ext.refl _) rfl
  · refine ObX.op rfl ?_
    intro f164 wd165 he166 hout167 hphi168
    have hS169 : St wd2 wd165 [] := St.extend hS8 he166
    obtain ⟨S170, hS171, hf172⟩ := hphi168 13 20 _ rfl rfl rfl
    have e173 : f164 20 = (Value.pointer (some (elA v_b_Values (y).toNat))) := hf172
    exact OpX.val u174 wd165 rfl (op_load one_22 e173 (Ext.cell (Ext.trans hE7 hS169.ext) hc175)) (Ext.refl _) rfl
  · refine ObX.op rfl ?_
    intro f177 wd178 he179 hout180 hphi181
    have hS182 : St wd2 wd178 [] := St.extend hS8 he179
    have e183 : f177 1 = (Value.int .i64 x) := (hout180 1 rfl).trans rfl
    exact OpX.val (Value.int .i64 x) wd178 rfl (op_move e183) (Ext.refl _) ⟨rfl, r_x⟩
  · refine ObX.op rfl ?_
    intro f184 wd185 he186 hout187 hphi188
    have hS189 : St wd2 wd185 [] := St.extend hS8 he186
    obtain ⟨S190, hS191, hf192⟩ := hphi188 14 21 _ rfl rfl rfl
    have e193 : f184 21 = u174 := hf192
    obtain ⟨S194, hS195, hf196⟩ := hphi188 15 22 _ rfl rfl rfl
    obtain ⟨e197, hr198⟩ : f184 22 = (Value.int .i64 x) ∧ InR .i64 x := hf196
    exact OpX.val (Value.pointer (some (elA u174 (x).toNat))) wd185 rfl (op_idx sl_22 (Ty.lift _ (Ext.trans hE7 hS189.ext) hr176) e193 e197 ha200 hb201) (Ext.refl _) rfl
  · refine ObX.op rfl ?_
    intro f203 wd204 he205 hout206 hphi207
    have hS208 : St wd2 wd204 [] := St.extend hS8 he205
    obtain ⟨S209, hS210, hf211⟩ := hphi207 16 23 _ rfl rfl rfl
    have e212 : f203 23 = (Value.pointer (some (elA u174 (x).toNat))) := hf211
    exact OpX.val (Value.int .i64 x199) wd204 rfl (op_load one_2 e212 (Ext.cell (Ext.trans hE7 hS208.ext) hc214)) (Ext.refl _) ⟨rfl, hr215⟩
  · refine ObX.op rfl ?_
    intro f216 wd217 he218 hout219 hphi220
    have hS221 : St wd2 wd217 [] := St.extend hS8 he218
    obtain ⟨S222, hS223, hf224⟩ := hphi220 9 16 _ rfl rfl rfl
    obtain ⟨e225, hr226⟩ : f216 16 = (Value.int .i64 x104) ∧ InR .i64 x104 := hf224
    obtain ⟨S227, hS228, hf229⟩ := hphi220 17 24 _ rfl rfl rfl
    obtain ⟨e230, hr231⟩ : f216 24 = (Value.int .i64 x199) ∧ InR .i64 x199 := hf229
    exact OpX.val (Value.int .i64 (w64 (x104 + x199))) wd217 rfl (op_add e225 e230) (Ext.refl _) ⟨rfl, (inR_wrap _ _)⟩
  · intro f232 wd233 Ss234 he235 hout236 hSn237 hSd238 hphi239
    show WL _ _ _ _ _ _ _
    have hS240 : St wd2 wd233 [] := St.extend hS8 he235
    obtain ⟨e241, hr242⟩ := hphi239 1 8 _ (by decide) rfl rfl
    obtain ⟨e243, hr244⟩ : f232 25 = (Value.int .i64 (w64 (x104 + x199))) ∧ InR .i64 (w64 (x104 + x199)) := hphi239 18 25 _ (by decide) rfl rfl
    obtain ⟨x245, hx246, h⟩ := bs h
    refine WL.call _ (op_call fn_72 (args2 e241 e243)) (c_impl_Cocycle_rest (Ty.lift _ (Ext.trans hE7 hS240.ext) r_b_Cocycle_Orders) hr242 (Ty.lift _ (Ext.trans hE7 hS240.ext) r_b_Cocycle_Values) hr244 hx246) rfl ?_
    rintro _ wd248 ⟨rfl, hr247, he249⟩
    have hS251 := St.extend hS240 he249
    replace hS251 : St wd2 wd248 [] := hS251
    refine WL.val (Value.int .i64 x245) _ (op_assign rfl) rfl ?_
    refine WL.nil ?_
    show W _ _ _ _ _ _
    refine W.ret ?_
    obtain rfl := Option.some.inj h
    show FinP _ _ _ _ _ _ _
    exact FinP.ret _ (res1 rfl rfl) ⟨rfl, hr247, (Ext.trans hE7 hS251.ext)⟩

theorem c_impl_TransparentElements {w : World} {b_Cocycle_Orders : (List Int)} {v_b_Cocycle_Orders : Value} {b_Cocycle_Modulus : Int} {b_Cocycle_Values : (List (List (List Int)))} {v_b_Cocycle_Values : Value} {b_Values : (List (List Int))} {v_b_Values : Value} (r_b_Cocycle_Orders : (Ty.sl (Ty.i .i64)).rep w v_b_Cocycle_Orders b_Cocycle_Orders) (r_b_Cocycle_Modulus : InR .i64 b_Cocycle_Modulus) (r_b_Cocycle_Values : (Ty.sl (Ty.sl (Ty.sl (Ty.i .i64)))).rep w v_b_Cocycle_Values b_Cocycle_Values) (r_b_Values : (Ty.sl (Ty.sl (Ty.i .i64))).rep w v_b_Values b_Values) {res : (List Int) × Int} (h : p_impl_TransparentElements b_Cocycle_Orders b_Cocycle_Modulus b_Cocycle_Values b_Values  = some res) :
    Ret Try.prog 17 #[(Value.agg #[v_b_Cocycle_Orders, (Value.int .i64 b_Cocycle_Modulus), v_b_Cocycle_Values, v_b_Values])] w (fun v w' => ∃ (u0 : Value), v = (Value.tuple #[u0, Value.int .i64 res.2]) ∧ InR .i64 res.2 ∧ Ext w w' ∧ Sep w.heap.size w' [(Ty.sl (Ty.i .i64)).at u0 res.1]) := by
  unfold p_impl_TransparentElements at h
  have hS0 : St w w [] := St.start w
  refine Ret.start (fn := Try.f17) Try.func17 rfl 40 rfl rfl ?_
  refine W.seq (W.region ?_)
  refine WL.box hS0 rfl (cs := [v_b_Cocycle_Orders, (Value.int .i64 b_Cocycle_Modulus), v_b_Cocycle_Values, v_b_Values]) rfl rfl ?_
  intro b1 wd2 hS3 he4 hx5
  replace hS3 : St w wd2 [bx b1 [v_b_Cocycle_Orders, (Value.int .i64 b_Cocycle_Modulus), v_b_Cocycle_Values, v_b_Values]] := hS3
  have hx6 := St.boxAt hS3 0 rfl
  have hE7 : Ext w wd2 := hS3.ext
  have hS8 : St wd2 wd2 [] := St.start wd2
  refine WL.val (Value.slice none 0 0) _ (op_assign rfl) rfl ?_
  refine WL.val (Value.int .i64 (0 : Int)) _ (op_assign rfl) rfl ?_
  refine WL.nil ?_
  show W _ _ _ _ _ _
  refine W.seq (W.seq (W.region ?_))
  refine WL.val (Value.agg #[v_b_Cocycle_Orders, (Value.int .i64 b_Cocycle_Modulus), v_b_Cocycle_Values, v_b_Values]) _ (op_loadBox st_34 rfl (BoxAt.lift hS8.ext hx6) rfl rfl) rfl ?_
  obtain ⟨x9, hx10, h⟩ := bs h
  refine WL.call _ (op_call fn_38 (args1 rfl)) (c_impl_IsBraiding (Ty.lift _ (Ext.trans hE7 hS8.ext) r_b_Cocycle_Orders) r_b_Cocycle_Modulus (Ty.lift _ (Ext.trans hE7 hS8.ext) r_b_Cocycle_Values) (Ty.lift _ (Ext.trans hE7 hS8.ext) r_b_Values) hx10) rfl ?_
  rintro _ wd11 ⟨rfl, he12⟩
  have hS14 := St.extend hS8 he12
  replace hS14 : St wd2 wd11 [] := hS14
  refine WL.val (Value.bool (!x9)) _ (op_not rfl) rfl ?_
  refine WL.nil ?_
  show W _ _ _ _ _ _
  refine W.cond (!x9) rfl (fun hc15 => ?_) (fun hc15 => ?_)
  · replace h := ip h hc15
    refine W.seq (W.region ?_)
    refine WL.val (Value.slice none 0 0) _ (op_assign rfl) rfl ?_
    refine WL.val (Value.int .i64 (1 : Int)) _ (op_assign rfl) rfl ?_
    refine WL.nil ?_
    show W _ _ _ _ _ _
    refine W.ret ?_
    obtain rfl := Option.some.inj h
    show FinP _ _ _ _ _ _ _
    exact FinP.ret _ (res2 rfl rfl rfl) ⟨(Value.slice none 0 0), rfl, (inR_i64.2 (show (-9223372036854775808 : Int) ≤ 1 ∧ (1 : Int) ≤ 9223372036854775807 from by decide)), (Ext.trans hE7 hS14.ext), (St.out (St.pick (St.addNil (Ty.i .i64) hS14) [0] rfl) (hE7))⟩
  · replace h := inegb h hc15
    refine W.skip ?_
    show W _ _ _ _ _ _
    refine W.seq (W.region ?_)
    refine WL.lit0 (t := (Ty.i .i64)) hS14 sl_22 rfl rfl ?_
    intro u17 wd18 hS19 he20
    replace hS19 : St wd2 wd18 [(Ty.sl (Ty.i .i64)).at u17 ([] : (List Int))] := hS19
    refine WL.val u17 _ (op_assign rfl) rfl ?_
    refine WL.nil ?_
    show W _ _ _ _ _ _
    refine W.seq (W.seq (W.region ?_))
    refine WL.val (Value.pointer (some ⟨b1, 3, none⟩)) _ (op_fieldAddr fd_34_1 rfl) rfl ?_
    refine WL.val v_b_Values _ (op_load one_26 rfl (BoxAt.cell (BoxAt.lift hS19.ext hx6) rfl)) rfl ?_
    have hr21 := inR_len (Ty.lift _ (Ext.trans hE7 hS19.ext) r_b_Values)
    refine WL.val (Value.int .i64 ((b_Values).length : Int)) _ (op_lenL sl_26 (Ty.lift _ (Ext.trans hE7 hS19.ext) r_b_Values) rfl) rfl ?_
    refine WL.val (Value.int .i64 (0 : Int)) _ (op_move rfl) rfl ?_
    refine WL.nil ?_
    show W _ _ _ _ _ _
    obtain ⟨res22, hres23, h⟩ := bs h
    refine W.blockLoop (fun fq wq => ∃ s, res22 = Res.fin s ∧ ∃ (uu0 : Value), fq 4 = uu0 ∧ St wd2 wq [(Ty.sl (Ty.i .i64)).at uu0 s]) ?_ ?_
    · refine W.forN (fun k (s : (List Int)) fq wq => ∃ (uu0 : Value), fq 1 = (Value.pointer (some ⟨b1, 0, none⟩)) ∧ fq 4 = uu0 ∧ fq 14 = (Value.int .i64 ((b_Values).length : Int)) ∧ fq 15 = Value.int .i64 (k : Int) ∧ InR .i64 (k : Int) ∧ St wd2 wq [(Ty.sl (Ty.i .i64)).at uu0 s]) hres23 ⟨u17, rfl, rfl, rfl, rfl, (inR_i64.2 (show (-9223372036854775808 : Int) ≤ 0 ∧ (0 : Int) ≤ 9223372036854775807 from by decide)), hS19⟩ ?_ ?_
      · intro k24 x25 ct26 f27 wd28 hk29 hb30 hI31 hbrk32 hret33
        replace hI31 : ∃ (uu0 : Value), f27 1 = (Value.pointer (some ⟨b1, 0, none⟩)) ∧ f27 4 = uu0 ∧ f27 14 = (Value.int .i64 ((b_Values).length : Int)) ∧ f27 15 = Value.int .i64 (k24 : Int) ∧ InR .i64 (k24 : Int) ∧ St wd2 wd28 [(Ty.sl (Ty.i .i64)).at uu0 x25] := hI31
        replace hb30 : p_impl_TransparentElements_L1 b_Cocycle_Orders b_Cocycle_Modulus b_Cocycle_Values b_Values k24 x25 = some ct26 := hb30
        unfold p_impl_TransparentElements_L1 at hb30
        obtain ⟨u34, hf35, hf36, hf37, hf38, hr39, hS40⟩ := hI31
        refine W.seq (W.region ?_)
        refine WL.val (Value.bool (decide ((k24 : Int) < ((b_Values).length : Int)))) _ (op_lss hf38 hf37) rfl ?_
        have hl41 : (k24 : Int) < ((b_Values).length : Int) := by omega
        refine WL.nil ?_
        show W _ _ _ _ _ _
        refine W.seq ?_
        refine W.condT (decide ((k24 : Int) < ((b_Values).length : Int))) rfl (decide_eq_true hl41) ?_
        refine W.skip ?_
        show W _ _ _ _ _ _
        refine W.seq ?_
        refine W.block ?_
        refine W.seq (W.region ?_)
        refine WL.val (Value.int .i64 (k24 : Int)) _ (op_move hf38) rfl ?_
        refine WL.val (Value.int .i64 (k24 : Int)) _ (op_assign rfl) rfl ?_
        refine WL.nil ?_
        show W _ _ _ _ _ _
        refine W.seq (W.region ?_)
        refine WL.val (Value.bool true) _ (op_assign rfl) rfl ?_
        refine WL.nil ?_
        show W _ _ _ _ _ _
        refine W.seq (W.seq (W.region ?_))
        refine WL.val (Value.pointer (some ⟨b1, 3, none⟩)) _ (op_fieldAddr fd_34_1 hf35) rfl ?_
        refine WL.val v_b_Values _ (op_load one_26 rfl (BoxAt.cell (BoxAt.lift hS40.ext hx6) rfl)) rfl ?_
        have hr43 := inR_len (Ty.lift _ (Ext.trans hE7 hS40.ext) r_b_Values)
        refine WL.val (Value.int .i64 ((b_Values).length : Int)) _ (op_lenL sl_26 (Ty.lift _ (Ext.trans hE7 hS40.ext) r_b_Values) rfl) rfl ?_
        refine WL.val (Value.int .i64 (0 : Int)) _ (op_move rfl) rfl ?_
        refine WL.nil ?_
        show W _ _ _ _ _ _
        obtain ⟨res44, hres45, hb30⟩ := bs hb30
        refine W.blockLoop (fun fq wq => ∃ s, res44 = Res.fin s ∧ fq 1 = (Value.pointer (some ⟨b1, 0, none⟩)) ∧ fq 4 = u34 ∧ fq 5 = (Value.int .i64 (k24 : Int)) ∧ fq 6 = Value.bool s ∧ fq 14 = (Value.int .i64 ((b_Values).length : Int)) ∧ fq 15 = (Value.int .i64 (k24 : Int)) ∧ St wd2 wq [(Ty.sl (Ty.i .i64)).at u34 x25]) ?_ ?_
        · refine W.forN (fun k (s : Bool) fq wq => fq 1 = (Value.pointer (some ⟨b1, 0, none⟩)) ∧ fq 4 = u34 ∧ fq 5 = (Value.int .i64 (k24 : Int)) ∧ fq 6 = Value.bool s ∧ fq 14 = (Value.int .i64 ((b_Values).length : Int)) ∧ fq 15 = (Value.int .i64 (k24 : Int)) ∧ fq 20 = (Value.int .i64 ((b_Values).length : Int)) ∧ fq 21 = Value.int .i64 (k : Int) ∧ InR .i64 (k : Int) ∧ St wd2 wq [(Ty.sl (Ty.i .i64)).at u34 x25]) hres45 ⟨hf35, hf36, rfl, rfl, hf37, hf38, rfl, rfl, (inR_i64.2 (show (-9223372036854775808 : Int) ≤ 0 ∧ (0 : Int) ≤ 9223372036854775807 from by decide)), hS40⟩ ?_ ?_
          · intro k46 x47 ct48 f49 wd50 hk51 hb52 hI53 hbrk54 hret55
            replace hI53 : f49 1 = (Value.pointer (some ⟨b1, 0, none⟩)) ∧ f49 4 = u34 ∧ f49 5 = (Value.int .i64 (k24 : Int)) ∧ f49 6 = Value.bool x47 ∧ f49 14 = (Value.int .i64 ((b_Values).length : Int)) ∧ f49 15 = (Value.int .i64 (k24 : Int)) ∧ f49 20 = (Value.int .i64 ((b_Values).length : Int)) ∧ f49 21 = Value.int .i64 (k46 : Int) ∧ InR .i64 (k46 : Int) ∧ St wd2 wd50 [(Ty.sl (Ty.i .i64)).at u34 x25] := hI53
            replace hb52 : p_impl_TransparentElements_L2 b_Cocycle_Orders b_Cocycle_Modulus b_Cocycle_Values b_Values k24 k46 x47 = some ct48 := hb52
            unfold p_impl_TransparentElements_L2 at hb52
            obtain ⟨hf56, hf57, hf58, hf59, hf60, hf61, hf62, hf63, hr64, hS65⟩ := hI53
            refine W.seq (W.region ?_)
            refine WL.val (Value.bool (decide ((k46 : Int) < ((b_Values).length : Int)))) _ (op_lss hf63 hf62) rfl ?_
            have hl66 : (k46 : Int) < ((b_Values).length : Int) := by omega
            refine WL.nil ?_
            show W _ _ _ _ _ _
            refine W.seq ?_
            refine W.condT (decide ((k46 : Int) < ((b_Values).length : Int))) rfl (decide_eq_true hl66) ?_
            refine W.skip ?_
            show W _ _ _ _ _ _
            refine W.seq ?_
            refine W.block ?_
            refine W.seq (W.region ?_)
            refine WL.val (Value.int .i64 (k46 : Int)) _ (op_move hf63) rfl ?_
            refine WL.val (Value.int .i64 (k46 : Int)) _ (op_assign rfl) rfl ?_
            refine WL.nil ?_
            show W _ _ _ _ _ _
            refine W.region ?_
            refine WL.val (Value.bool x47) _ (op_move hf59) rfl ?_
            refine WL.val (Value.bool x47) _ (op_move rfl) rfl ?_
            obtain ⟨x69, hj70, hb52⟩ := bs hb52
            refine WL.cut 6 (fun fq wq => fq 1 = (Value.pointer (some ⟨b1, 0, none⟩)) ∧ fq 4 = u34 ∧ fq 5 = (Value.int .i64 (k24 : Int)) ∧ fq 14 = (Value.int .i64 ((b_Values).length : Int)) ∧ fq 15 = (Value.int .i64 (k24 : Int)) ∧ fq 20 = (Value.int .i64 ((b_Values).length : Int)) ∧ fq 21 = (Value.int .i64 (k46 : Int)) ∧ fq 31 = Value.bool x69 ∧ St wd2 wq [(Ty.sl (Ty.i .i64)).at u34 x25]) ?_ ?_
            · rcases Bool.eq_false_or_eq_true x47 with hc68 | hc68
              · replace hj70 := ip hj70 hc68
                refine WL.grun rfl (bool_of rfl hc68) ?_
                refine WL.val (Value.agg #[v_b_Cocycle_Orders, (Value.int .i64 b_Cocycle_Modulus), v_b_Cocycle_Values, v_b_Values]) _ (op_loadBox st_34 hf56 (BoxAt.lift hS65.ext hx6) rfl rfl) rfl ?_
                refine WL.grun rfl (bool_of rfl hc68) ?_
                refine WL.val (Value.int .i64 (k24 : Int)) _ (op_move hf58) rfl ?_
                refine WL.grun rfl (bool_of rfl hc68) ?_
                refine WL.val (Value.int .i64 (k46 : Int)) _ (op_move rfl) rfl ?_
                refine WL.grun rfl (bool_of rfl hc68) ?_
                obtain ⟨x74, hx75, hj70⟩ := bs hj70
                refine WL.call _ (op_call fn_39 (args3 rfl rfl rfl)) (c_impl_Braiding_monodromy (Ty.lift _ (Ext.trans hE7 hS65.ext) r_b_Cocycle_Orders) r_b_Cocycle_Modulus (Ty.lift _ (Ext.trans hE7 hS65.ext) r_b_Cocycle_Values) (Ty.lift _ (Ext.trans hE7 hS65.ext) r_b_Values) hr39 hr64 hx75) rfl ?_
                rintro _ wd77 ⟨rfl, hr76, he78⟩
                have hS80 := St.extend hS65 he78
                replace hS80 : St wd2 wd77 [(Ty.sl (Ty.i .i64)).at u34 x25] := hS80
                refine WL.grun rfl (bool_of rfl hc68) ?_
                refine WL.val (Value.bool (x74 == (0 : Int))) _ (op_eql rfl rfl) rfl ?_
                refine WL.val (Value.bool (x74 == (0 : Int))) _ (op_pick_t (evb_of rfl hc68) rfl) rfl ?_
                refine WL.nil ?_
                obtain rfl := Option.some.inj hj70
                exact ⟨rfl, hf56, hf57, hf58, hf60, hf61, hf62, hf63, rfl, hS80⟩
              · replace hj70 := inegb hj70 hc68
                refine WL.gskip rfl (bool_of rfl hc68) rfl ?_
                refine WL.gskip rfl (bool_of rfl hc68) rfl ?_
                refine WL.gskip rfl (bool_of rfl hc68) rfl ?_
                refine WL.gskip rfl (bool_of rfl hc68) rfl ?_
                refine WL.gskip rfl (bool_of rfl hc68) rfl ?_
                refine WL.val (Value.bool false) _ (op_pick_f (evb_of rfl hc68) rfl) rfl ?_
                refine WL.nil ?_
                obtain rfl := Option.some.inj hj70
                exact ⟨rfl, hf56, hf57, hf58, hf60, hf61, hf62, hf63, rfl, hS65⟩
            · intro f71 wd72 hq73
              obtain ⟨hf81, hf82, hf83, hf84, hf85, hf86, hf87, hf88, hS89⟩ := hq73
              refine WL.val (Value.bool x69) _ (op_assign hf88) rfl ?_
              refine WL.nil ?_
              show W _ _ _ _ _ _
              refine W.region ?_
              refine WL.val (Value.int .i64 (w64 ((k46 : Int) + (1 : Int)))) _ (op_add hf87 rfl) rfl ?_
              refine WL.val (Value.int .i64 (w64 ((k46 : Int) + (1 : Int)))) _ (op_move rfl) rfl ?_
              refine WL.nil ?_
              obtain rfl := Option.some.inj hb52
              show ∃ s, _ = Ctl.next s ∧ _
              exact ⟨_, rfl, hf81, hf82, hf83, rfl, hf84, hf85, hf86, (ctr_next hl66 hr43), (ctr_rng hl66 hr43), hS89⟩
          · intro x96 f91 wd92 hs93 hI94
            replace hI94 : f91 1 = (Value.pointer (some ⟨b1, 0, none⟩)) ∧ f91 4 = u34 ∧ f91 5 = (Value.int .i64 (k24 : Int)) ∧ f91 6 = Value.bool x96 ∧ f91 14 = (Value.int .i64 ((b_Values).length : Int)) ∧ f91 15 = (Value.int .i64 (k24 : Int)) ∧ f91 20 = (Value.int .i64 ((b_Values).length : Int)) ∧ f91 21 = Value.int .i64 (((b_Values).length : Nat) : Int) ∧ InR .i64 (((b_Values).length : Nat) : Int) ∧ St wd2 wd92 [(Ty.sl (Ty.i .i64)).at u34 x25] := hI94
            obtain ⟨hf97, hf98, hf99, hf100, hf101, hf102, hf103, hf104, hr105, hS106⟩ := hI94
            refine W.seq (W.region ?_)
            refine WL.val (Value.bool (decide ((((b_Values).length : Nat) : Int) < ((b_Values).length : Int)))) _ (op_lss hf104 hf103) rfl ?_
            have hl107 : ¬ (((b_Values).length : Nat) : Int) < ((b_Values).length : Int) := by omega
            refine WL.nil ?_
            show W _ _ _ _ _ _
            refine W.seq ?_
            refine W.condF (decide ((((b_Values).length : Nat) : Int) < ((b_Values).length : Int))) rfl (decide_eq_false hl107) ?_
            refine W.exit ?_
            show _ = _ ∧ _
            exact ⟨rfl, _, hs93, hf97, hf98, hf99, hf100, hf101, hf102, hS106⟩
        · rintro f108 wd109 ⟨x112, rfl, hq110⟩
          replace hb30 := onRes_fin hb30
          replace hq110 : f108 1 = (Value.pointer (some ⟨b1, 0, none⟩)) ∧ f108 4 = u34 ∧ f108 5 = (Value.int .i64 (k24 : Int)) ∧ f108 6 = Value.bool x112 ∧ f108 14 = (Value.int .i64 ((b_Values).length : Int)) ∧ f108 15 = (Value.int .i64 (k24 : Int)) ∧ St wd2 wd109 [(Ty.sl (Ty.i .i64)).at u34 x25] := hq110
          obtain ⟨hf113, hf114, hf115, hf116, hf117, hf118, hS119⟩ := hq110
          show W _ _ _ _ _ _
          refine W.seq (W.region ?_)
          refine WL.val (Value.bool x112) _ (op_move hf116) rfl ?_
          refine WL.nil ?_
          show W _ _ _ _ _ _
          obtain ⟨x120, hj121, hb30⟩ := bs hb30
          refine W.cutCode (fun fq wq => ∃ (uu0 : Value), fq 1 = (Value.pointer (some ⟨b1, 0, none⟩)) ∧ fq 4 = uu0 ∧ fq 14 = (Value.int .i64 ((b_Values).length : Int)) ∧ fq 15 = (Value.int .i64 (k24 : Int)) ∧ St wd2 wq [(Ty.sl (Ty.i .i64)).at uu0 x120]) ?_ ?_
          · refine W.cond x112 rfl (fun hc122 => ?_) (fun hc122 => ?_)
            · replace hj121 := ip hj121 hc122
              refine W.region ?_
              refine WL.val u34 _ (op_move hf114) rfl ?_
              refine WL.val (Value.int .i64 (k24 : Int)) _ (op_move hf115) rfl ?_
              refine WL.litFlat (t := (Ty.i .i64)) (flat_i .i64) [(Value.int .i64 (k24 : Int))] [(k24 : Int)] hS119 sl_22 rfl rfl (fillL rfl ⟨rfl, rfl, rfl, trivial⟩) rfl rfl (litL ⟨⟨rfl, hr39⟩, trivial⟩) rfl ?_
              intro u123 wd124 hS125 he126
              replace hS125 : St wd2 wd124 [(Ty.sl (Ty.i .i64)).at u34 x25, (Ty.sl (Ty.i .i64)).at u123 ([(k24 : Int)] : (List Int))] := hS125
              obtain ⟨x127, hx128, hj121⟩ := bs hj121
              refine WL.append (flat_i .i64) hS125 (k := 0) rfl sl_22 rfl rfl rfl rfl (St.rep (t := (Ty.sl (Ty.i .i64))) hS125 1 rfl) hx128 rfl ?_
              intro u129 wd130 hS131 hz132
              replace hS131 : St wd2 wd130 [(Ty.sl (Ty.i .i64)).at u129 x127, (Ty.sl (Ty.i .i64)).at u123 ([(k24 : Int)] : (List Int))] := hS131
              refine WL.val u129 _ (op_assign rfl) rfl ?_
              refine WL.nil ?_
              obtain rfl := Option.some.inj hj121
              exact ⟨u129, hf113, rfl, hf117, hf118, (St.pick hS131 [0] rfl)⟩
            · replace hj121 := inegb hj121 hc122
              refine W.skip ?_
              obtain rfl := Option.some.inj hj121
              exact ⟨u34, hf113, hf114, hf117, hf118, hS119⟩
          · intro f133 wd134 hq135
            obtain ⟨u136, hf137, hf138, hf139, hf140, hS141⟩ := hq135
            show W _ _ _ _ _ _
            refine W.region ?_
            refine WL.val (Value.int .i64 (w64 ((k24 : Int) + (1 : Int)))) _ (op_add hf140 rfl) rfl ?_
            refine WL.val (Value.int .i64 (w64 ((k24 : Int) + (1 : Int)))) _ (op_move rfl) rfl ?_
            refine WL.nil ?_
            obtain rfl := Option.some.inj hb30
            show ∃ s, _ = Ctl.next s ∧ _
            exact ⟨_, rfl, u136, hf137, hf138, hf139, (ctr_next hl41 hr21), (ctr_rng hl41 hr21), hS141⟩
      · intro x149 f144 wd145 hs146 hI147
        replace hI147 : ∃ (uu0 : Value), f144 1 = (Value.pointer (some ⟨b1, 0, none⟩)) ∧ f144 4 = uu0 ∧ f144 14 = (Value.int .i64 ((b_Values).length : Int)) ∧ f144 15 = Value.int .i64 (((b_Values).length : Nat) : Int) ∧ InR .i64 (((b_Values).length : Nat) : Int) ∧ St wd2 wd145 [(Ty.sl (Ty.i .i64)).at uu0 x149] := hI147
        obtain ⟨u150, hf151, hf152, hf153, hf154, hr155, hS156⟩ := hI147
        refine W.seq (W.region ?_)
        refine WL.val (Value.bool (decide ((((b_Values).length : Nat) : Int) < ((b_Values).length : Int)))) _ (op_lss hf154 hf153) rfl ?_
        have hl157 : ¬ (((b_Values).length : Nat) : Int) < ((b_Values).length : Int) := by omega
        refine WL.nil ?_
        show W _ _ _ _ _ _
        refine W.seq ?_
        refine W.condF (decide ((((b_Values).length : Nat) : Int) < ((b_Values).length : Int))) rfl (decide_eq_false hl157) ?_
        refine W.exit ?_
        show _ = _ ∧ _
        exact ⟨rfl, _, hs146, u150, hf152, hS156⟩
    · rintro f158 wd159 ⟨x162, rfl, hq160⟩
      replace h := onRes_fin h
      replace hq160 : ∃ (uu0 : Value), f158 4 = uu0 ∧ St wd2 wd159 [(Ty.sl (Ty.i .i64)).at uu0 x162] := hq160
      obtain ⟨u163, hf164, hS165⟩ := hq160
      show W _ _ _ _ _ _
      refine W.seq (W.region ?_)
      refine WL.val u163 _ (op_move hf164) rfl ?_
      refine WL.val u163 _ (op_assign rfl) rfl ?_
      refine WL.val (Value.int .i64 (0 : Int)) _ (op_assign rfl) rfl ?_
      refine WL.nil ?_
      show W _ _ _ _ _ _
      refine W.ret ?_
      obtain rfl := Option.some.inj h
      show FinP _ _ _ _ _ _ _
      exact FinP.ret _ (res2 rfl rfl rfl) ⟨u163, rfl, (inR_i64.2 (show (-9223372036854775808 : Int) ≤ 0 ∧ (0 : Int) ≤ 9223372036854775807 from by decide)), (Ext.trans hE7 hS165.ext), (St.out (St.pick hS165 [0] rfl) (hE7))⟩

theorem c_laws_FnExactTransparentElements {w : World} {aB_Cocycle_Orders : (List Int)} {v_aB_Cocycle_Orders : Value} {aB_Cocycle_Modulus : Int} {aB_Cocycle_Values : (List (List (List Int)))} {v_aB_Cocycle_Values : Value} {aB_Values : (List (List Int))} {v_aB_Values : Value} (r_aB_Cocycle_Orders : (Ty.sl (Ty.i .i64)).rep w v_aB_Cocycle_Orders aB_Cocycle_Orders) (r_aB_Cocycle_Modulus : InR .i64 aB_Cocycle_Modulus) (r_aB_Cocycle_Values : (Ty.sl (Ty.sl (Ty.sl (Ty.i .i64)))).rep w v_aB_Cocycle_Values aB_Cocycle_Values) (r_aB_Values : (Ty.sl (Ty.sl (Ty.i .i64))).rep w v_aB_Values aB_Values) {res : Bool} (h : p_laws_FnExactTransparentElements aB_Cocycle_Orders aB_Cocycle_Modulus aB_Cocycle_Values aB_Values  = some res) :
    Ret Try.prog 4 #[(Value.agg #[v_aB_Cocycle_Orders, (Value.int .i64 aB_Cocycle_Modulus), v_aB_Cocycle_Values, v_aB_Values])] w (fun v w' => v = Value.bool res ∧ Ext w w') := by
  unfold p_laws_FnExactTransparentElements at h
  have hS0 : St w w [] := St.start w
  refine Ret.start (fn := Try.f4) Try.func4 rfl 96 rfl rfl ?_
  refine W.seq (W.region ?_)
  refine WL.box hS0 rfl (cs := [v_aB_Cocycle_Orders, (Value.int .i64 aB_Cocycle_Modulus), v_aB_Cocycle_Values, v_aB_Values]) rfl rfl ?_
  intro b1 wd2 hS3 he4 hx5
  replace hS3 : St w wd2 [bx b1 [v_aB_Cocycle_Orders, (Value.int .i64 aB_Cocycle_Modulus), v_aB_Cocycle_Values, v_aB_Values]] := hS3
  have hx6 := St.boxAt hS3 0 rfl
  have hE7 : Ext w wd2 := hS3.ext
  have hS8 : St wd2 wd2 [] := St.start wd2
  refine WL.val (Value.bool false) _ (op_assign rfl) rfl ?_
  refine WL.nil ?_
  show W _ _ _ _ _ _
  refine W.seq (W.region ?_)
  refine WL.val (Value.int .i64 (1048576 : Int)) _ (op_assign rfl) rfl ?_
  refine WL.nil ?_
  show W _ _ _ _ _ _
  refine W.seq (W.region ?_)
  refine WL.val (Value.agg #[v_aB_Cocycle_Orders, (Value.int .i64 aB_Cocycle_Modulus), v_aB_Cocycle_Values, v_aB_Values]) _ (op_loadBox st_28 rfl (BoxAt.lift hS8.ext hx6) rfl rfl) rfl ?_
  refine WL.val (Value.int .i64 (1048576 : Int)) _ (op_move rfl) rfl ?_
  obtain ⟨x9, hx10, h⟩ := bs h
  refine WL.call _ (op_call fn_7 (args2 rfl rfl)) (c_laws_szBraiding (Ty.lift _ (Ext.trans hE7 hS8.ext) r_aB_Cocycle_Orders) r_aB_Cocycle_Modulus (Ty.lift _ (Ext.trans hE7 hS8.ext) r_aB_Cocycle_Values) (Ty.lift _ (Ext.trans hE7 hS8.ext) r_aB_Values) (inR_i64.2 (show (-9223372036854775808 : Int) ≤ 1048576 ∧ (1048576 : Int) ≤ 9223372036854775807 from by decide)) hx10) rfl ?_
  rintro _ wd12 ⟨rfl, hr11, he13⟩
  have hS15 := St.extend hS8 he13
  replace hS15 : St wd2 wd12 [] := hS15
  refine WL.val (Value.int .i64 x9) _ (op_assign rfl) rfl ?_
  refine WL.nil ?_
  show W _ _ _ _ _ _
  refine W.seq (W.seq (W.region ?_))
  refine WL.val (Value.int .i64 x9) _ (op_move rfl) rfl ?_
  refine WL.val (Value.bool (decide (x9 < (0 : Int)))) _ (op_lss rfl rfl) rfl ?_
  refine WL.nil ?_
  show W _ _ _ _ _ _
  refine W.cond (decide (x9 < (0 : Int))) rfl (fun hc16 => ?_) (fun hc16 => ?_)
  · replace h := ip h hc16
    refine W.seq (W.region ?_)
    refine WL.val (Value.bool true) _ (op_assign rfl) rfl ?_
    refine WL.nil ?_
    show W _ _ _ _ _ _
    refine W.ret ?_
    obtain rfl := Option.some.inj h
    show FinP _ _ _ _ _ _ _
    exact FinP.ret _ (res1 rfl rfl) ⟨rfl, (Ext.trans hE7 hS15.ext)⟩
  · replace h := inegb h hc16
    refine W.skip ?_
    show W _ _ _ _ _ _
    refine W.seq (W.region ?_)
    refine WL.val (Value.agg #[v_aB_Cocycle_Orders, (Value.int .i64 aB_Cocycle_Modulus), v_aB_Cocycle_Values, v_aB_Values]) _ (op_loadBox st_28 rfl (BoxAt.lift hS15.ext hx6) rfl rfl) rfl ?_
    obtain ⟨x18, hx19, h⟩ := bs h
    refine WL.call _ (op_call fn_9 (args1 rfl)) (c_laws_toBraiding (Ty.lift _ (Ext.trans hE7 hS15.ext) r_aB_Cocycle_Orders) r_aB_Cocycle_Modulus (Ty.lift _ (Ext.trans hE7 hS15.ext) r_aB_Cocycle_Values) (Ty.lift _ (Ext.trans hE7 hS15.ext) r_aB_Values) hx19) rfl ?_
    rintro _ wd24 ⟨u20, u22, u23, rfl, hr21, he25, hs26⟩
    have hS27 := St.join hS15 he25 hs26
    replace hS27 : St wd2 wd24 [(Ty.sl (Ty.i .i64)).at u20 x18.1, (Ty.sl (Ty.sl (Ty.sl (Ty.i .i64)))).at u22 x18.2.2.1, (Ty.sl (Ty.sl (Ty.i .i64))).at u23 x18.2.2.2] := hS27
    have hb28 := St.rep (t := (Ty.sl (Ty.i .i64))) hS27 0 rfl
    have hb29 := St.rep (t := (Ty.sl (Ty.sl (Ty.sl (Ty.i .i64))))) hS27 1 rfl
    have hb30 := St.rep (t := (Ty.sl (Ty.sl (Ty.i .i64)))) hS27 2 rfl
    have hE31 : Ext w wd24 := (Ext.trans hE7 hS27.ext)
    have hE32 : Ext wd2 wd24 := hS27.ext
    have hS33 : St wd24 wd24 [] := St.start wd24
    obtain ⟨x34, hx35, h⟩ := bs h
    refine WL.call _ (op_call fn_16 (args1 rfl)) (c_spec_TransparentElements (Ty.lift _ hS33.ext hb28) hr21 (Ty.lift _ hS33.ext hb29) (Ty.lift _ hS33.ext hb30) hx35) rfl ?_
    rintro _ wd38 ⟨u36, rfl, hr37, he39, hs40⟩
    have hS41 := St.join hS33 he39 hs40
    replace hS41 : St wd24 wd38 [(Ty.sl (Ty.i .i64)).at u36 x34.1] := hS41
    have hb42 := St.rep (t := (Ty.sl (Ty.i .i64))) hS41 0 rfl
    have hE43 : Ext w wd38 := (Ext.trans hE31 hS41.ext)
    have hE44 : Ext wd2 wd38 := (Ext.trans hE32 hS41.ext)
    have hE45 : Ext wd24 wd38 := hS41.ext
    have hS46 : St wd38 wd38 [] := St.start wd38
    refine WL.val (Value.tuple #[u36, (Value.int .i64 x34.2)]) _ (op_move rfl) rfl ?_
    refine WL.val u36 _ (op_extract rfl rfl) rfl ?_
    refine WL.val (Value.int .i64 x34.2) _ (op_extract rfl rfl) rfl ?_
    refine WL.val u36 _ (op_assign rfl) rfl ?_
    refine WL.val (Value.int .i64 x34.2) _ (op_assign rfl) rfl ?_
    refine WL.nil ?_
    show W _ _ _ _ _ _
    refine W.seq (W.region ?_)
    refine WL.val (Value.agg #[v_aB_Cocycle_Orders, (Value.int .i64 aB_Cocycle_Modulus), v_aB_Cocycle_Values, v_aB_Values]) _ (op_loadBox st_28 rfl (BoxAt.lift (Ext.trans hE44 hS46.ext) hx6) rfl rfl) rfl ?_
    obtain ⟨x47, hx48, h⟩ := bs h
    refine WL.call _ (op_call fn_9 (args1 rfl)) (c_laws_toBraiding (Ty.lift _ (Ext.trans hE43 hS46.ext) r_aB_Cocycle_Orders) r_aB_Cocycle_Modulus (Ty.lift _ (Ext.trans hE43 hS46.ext) r_aB_Cocycle_Values) (Ty.lift _ (Ext.trans hE43 hS46.ext) r_aB_Values) hx48) rfl ?_
    rintro _ wd53 ⟨u49, u51, u52, rfl, hr50, he54, hs55⟩
    have hS56 := St.join hS46 he54 hs55
    replace hS56 : St wd38 wd53 [(Ty.sl (Ty.i .i64)).at u49 x47.1, (Ty.sl (Ty.sl (Ty.sl (Ty.i .i64)))).at u51 x47.2.2.1, (Ty.sl (Ty.sl (Ty.i .i64))).at u52 x47.2.2.2] := hS56
    refine WL.alloc hS56 ze_34 (cs := [(Value.slice none 0 0), (Value.int .i64 (0 : Int)), (Value.slice none 0 0), (Value.slice none 0 0)]) rfl rfl ?_
    intro b57 wd58 hS59 he60
    replace hS59 : St wd38 wd58 [(Ty.sl (Ty.i .i64)).at u49 x47.1, (Ty.sl (Ty.sl (Ty.sl (Ty.i .i64)))).at u51 x47.2.2.1, (Ty.sl (Ty.sl (Ty.i .i64))).at u52 x47.2.2.2, bx b57 [(Value.slice none 0 0), (Value.int .i64 (0 : Int)), (Value.slice none 0 0), (Value.slice none 0 0)]] := hS59
    refine WL.storeBox [u49, (Value.int .i64 x47.2.1), u51, u52] hS59 (k := 3) rfl rfl rfl (us := [u49, (Value.int .i64 x47.2.1), u51, u52]) rfl sz_34 rfl rfl (all_rep (St.rep (t := (Ty.sl (Ty.i .i64))) hS59 0 rfl) (all_cons rfl (all_rep (St.rep (t := (Ty.sl (Ty.sl (Ty.sl (Ty.i .i64))))) hS59 1 rfl) (all_rep (St.rep (t := (Ty.sl (Ty.sl (Ty.i .i64)))) hS59 2 rfl) all_nil)))) rfl ?_
    intro wd61 hS62
    replace hS62 : St wd38 wd61 [(Ty.sl (Ty.i .i64)).at u49 x47.1, (Ty.sl (Ty.sl (Ty.sl (Ty.i .i64)))).at u51 x47.2.2.1, (Ty.sl (Ty.sl (Ty.i .i64))).at u52 x47.2.2.2, bx b57 [u49, (Value.int .i64 x47.2.1), u51, u52]] := hS62
    refine WL.nil ?_
    show W _ _ _ _ _ _
    refine W.seq (W.region ?_)
    refine WL.val (Value.agg #[u49, (Value.int .i64 x47.2.1), u51, u52]) _ (op_loadBox st_34 rfl (St.boxAt hS62 3 rfl) rfl rfl) rfl ?_
    obtain ⟨x63, hx64, h⟩ := bs h
    refine WL.call _ (op_call fn_17 (args1 rfl)) (c_impl_TransparentElements (St.rep (t := (Ty.sl (Ty.i .i64))) hS62 0 rfl) hr50 (St.rep (t := (Ty.sl (Ty.sl (Ty.sl (Ty.i .i64))))) hS62 1 rfl) (St.rep (t := (Ty.sl (Ty.sl (Ty.i .i64)))) hS62 2 rfl) hx64) rfl ?_
    rintro _ wd67 ⟨u65, rfl, hr66, he68, hs69⟩
    have hS70 := St.join hS62 he68 hs69
    replace hS70 : St wd38 wd67 [(Ty.sl (Ty.i .i64)).at u49 x47.1, (Ty.sl (Ty.sl (Ty.sl (Ty.i .i64)))).at u51 x47.2.2.1, (Ty.sl (Ty.sl (Ty.i .i64))).at u52 x47.2.2.2, bx b57 [u49, (Value.int .i64 x47.2.1), u51, u52], (Ty.sl (Ty.i .i64)).at u65 x63.1] := hS70
    refine WL.val (Value.tuple #[u65, (Value.int .i64 x63.2)]) _ (op_move rfl) rfl ?_
    refine WL.val u65 _ (op_extract rfl rfl) rfl ?_
    refine WL.val (Value.int .i64 x63.2) _ (op_extract rfl rfl) rfl ?_
    refine WL.val u65 _ (op_assign rfl) rfl ?_
    refine WL.val (Value.int .i64 x63.2) _ (op_assign rfl) rfl ?_
    refine WL.nil ?_
    show W _ _ _ _ _ _
    refine W.seq (W.seq (W.region ?_))
    refine WL.val u65 _ (op_move rfl) rfl ?_
    refine WL.val u36 _ (op_move rfl) rfl ?_
    obtain ⟨x71, hx72, h⟩ := bs h
    refine WL.call _ (op_call fn_11 (args2 rfl rfl)) (c_laws_eqInt64S (St.rep (t := (Ty.sl (Ty.i .i64))) hS70 4 rfl) (Ty.lift _ hS70.ext hb42) hx72) rfl ?_
    rintro _ wd73 ⟨rfl, he74⟩
    have hS76 := St.extend hS70 he74
    replace hS76 : St wd38 wd73 [(Ty.sl (Ty.i .i64)).at u49 x47.1, (Ty.sl (Ty.sl (Ty.sl (Ty.i .i64)))).at u51 x47.2.2.1, (Ty.sl (Ty.sl (Ty.i .i64))).at u52 x47.2.2.2, bx b57 [u49, (Value.int .i64 x47.2.1), u51, u52], (Ty.sl (Ty.i .i64)).at u65 x63.1] := hS76
    refine WL.val (Value.bool (!x71)) _ (op_not rfl) rfl ?_
    refine WL.val (Value.bool (!x71)) _ (op_move rfl) rfl ?_
    refine WL.cut 4 (fun fq wq => fq 1 = (Value.pointer (some ⟨b1, 0, none⟩)) ∧ fq 4 = u36 ∧ fq 5 = (Value.int .i64 x34.2) ∧ fq 6 = (Value.pointer (some ⟨b57, 0, none⟩)) ∧ fq 7 = u65 ∧ fq 8 = (Value.int .i64 x63.2) ∧ fq 40 = (Value.bool ((!x71) || (x63.2 != x34.2))) ∧ St wd38 wq [(Ty.sl (Ty.i .i64)).at u49 x47.1, (Ty.sl (Ty.sl (Ty.sl (Ty.i .i64)))).at u51 x47.2.2.1, (Ty.sl (Ty.sl (Ty.i .i64))).at u52 x47.2.2.2, bx b57 [u49, (Value.int .i64 x47.2.1), u51, u52], (Ty.sl (Ty.i .i64)).at u65 x63.1]) ?_ ?_
    · rcases Bool.eq_false_or_eq_true (!x71) with hc77 | hc77
      · refine WL.gskip rfl (bool_of rfl hc77) rfl ?_
        refine WL.gskip rfl (bool_of rfl hc77) rfl ?_
        refine WL.gskip rfl (bool_of rfl hc77) rfl ?_
        refine WL.val (Value.bool true) _ (op_pick_t (evb_of rfl hc77) rfl) rfl ?_
        refine WL.nil ?_
        exact ⟨rfl, rfl, rfl, rfl, rfl, rfl, rfl, (orT hc77), hS76⟩
      · refine WL.grun rfl (bool_of rfl hc77) ?_
        refine WL.val (Value.int .i64 x63.2) _ (op_move rfl) rfl ?_
        refine WL.grun rfl (bool_of rfl hc77) ?_
        refine WL.val (Value.int .i64 x34.2) _ (op_move rfl) rfl ?_
        refine WL.grun rfl (bool_of rfl hc77) ?_
        refine WL.val (Value.bool (x63.2 != x34.2)) _ (op_neq rfl rfl) rfl ?_
        refine WL.val (Value.bool (x63.2 != x34.2)) _ (op_pick_f (evb_of rfl hc77) rfl) rfl ?_
        refine WL.nil ?_
        exact ⟨rfl, rfl, rfl, rfl, rfl, rfl, rfl, (orF hc77), hS76⟩
    · intro f78 wd79 hq80
      obtain ⟨hf81, hf82, hf83, hf84, hf85, hf86, hf87, hS88⟩ := hq80
      refine WL.nil ?_
      show W _ _ _ _ _ _
      refine W.cond ((!x71) || (x63.2 != x34.2)) hf87 (fun hc89 => ?_) (fun hc89 => ?_)
      · replace h := ip h hc89
        refine W.seq (W.region ?_)
        refine WL.val (Value.bool false) _ (op_assign rfl) rfl ?_
        refine WL.nil ?_
        show W _ _ _ _ _ _
        refine W.ret ?_
        obtain rfl := Option.some.inj h
        show FinP _ _ _ _ _ _ _
        exact FinP.ret _ (res1 rfl rfl) ⟨rfl, (Ext.trans hE43 hS88.ext)⟩
      · replace h := inegb h hc89
        refine W.skip ?_
        show W _ _ _ _ _ _
        refine W.seq (W.seq ?_)
        obtain ⟨x116, hx117, h⟩ := bs h
        refine W.drawR mixo 3 [] [fun _ v S w' => v = (Value.agg #[u49, (Value.int .i64 x47.2.1), u51, u52]) ∧ InR .i64 x47.2.1, fun _ v S w' => v = (Value.agg #[v_aB_Cocycle_Orders, (Value.int .i64 aB_Cocycle_Modulus), v_aB_Cocycle_Values, v_aB_Values]) ∧ InR .i64 aB_Cocycle_Modulus, fun _ v S w' => ∃ (uu0 : Value) (uu1 : Value) (uu2 : Value), v = (Value.agg #[uu0, (Value.int .i64 x116.2.1), uu1, uu2]) ∧ InR .i64 x116.2.1 ∧ SepS S w' [(Ty.sl (Ty.i .i64)).at uu0 x116.1, (Ty.sl (Ty.sl (Ty.sl (Ty.i .i64)))).at uu1 x116.2.2.1, (Ty.sl (Ty.sl (Ty.i .i64))).at uu2 x116.2.2.2]] (by kernel_rfl) (by kernel_rfl) ⟨⟨fun _ _ _ _ _ he ⟨h0, h1⟩ => ⟨h0, h1⟩, fun _ _ _ _ _ _ h => h⟩, ⟨fun _ _ _ _ _ he ⟨h0, h1⟩ => ⟨h0, h1⟩, fun _ _ _ _ _ _ h => h⟩, ⟨fun _ _ _ _ _ he ⟨uu0, uu1, uu2, h0, h1, r0⟩ => ⟨uu0, uu1, uu2, h0, h1, SepS.extend he r0⟩, fun _ _ _ _ _ _ h => h⟩, trivial⟩ ⟨?_, ?_, ?_, trivial⟩ ?_
        · refine ObX.op rfl ?_
          intro f91 wd92 he93 hout94 hphi95
          have hS96 : St wd38 wd92 [(Ty.sl (Ty.i .i64)).at u49 x47.1, (Ty.sl (Ty.sl (Ty.sl (Ty.i .i64)))).at u51 x47.2.2.1, (Ty.sl (Ty.sl (Ty.i .i64))).at u52 x47.2.2.2, bx b57 [u49, (Value.int .i64 x47.2.1), u51, u52], (Ty.sl (Ty.i .i64)).at u65 x63.1] := St.extend hS88 he93
          have e97 : f91 6 = (Value.pointer (some ⟨b57, 0, none⟩)) := (hout94 6 rfl).trans hf84
          exact OpX.val (Value.agg #[u49, (Value.int .i64 x47.2.1), u51, u52]) wd92 rfl (op_loadBox st_34 e97 (St.boxAt hS96 3 rfl) rfl rfl) (Ext.refl _) ⟨rfl, hr50⟩
        · refine ObX.op rfl ?_
          intro f98 wd99 he100 hout101 hphi102
          have hS103 : St wd38 wd99 [(Ty.sl (Ty.i .i64)).at u49 x47.1, (Ty.sl (Ty.sl (Ty.sl (Ty.i .i64)))).at u51 x47.2.2.1, (Ty.sl (Ty.sl (Ty.i .i64))).at u52 x47.2.2.2, bx b57 [u49, (Value.int .i64 x47.2.1), u51, u52], (Ty.sl (Ty.i .i64)).at u65 x63.1] := St.extend hS88 he100
          have e104 : f98 1 = (Value.pointer (some ⟨b1, 0, none⟩)) := (hout101 1 rfl).trans hf81
          exact OpX.val (Value.agg #[v_aB_Cocycle_Orders, (Value.int .i64 aB_Cocycle_Modulus), v_aB_Cocycle_Values, v_aB_Values]) wd99 rfl (op_loadBox st_28 e104 (BoxAt.lift (Ext.trans hE44 hS103.ext) hx6) rfl rfl) (Ext.refl _) ⟨rfl, r_aB_Cocycle_Modulus⟩
        · refine ObX.op rfl ?_
          intro f105 wd106 he107 hout108 hphi109
          have hS110 : St wd38 wd106 [(Ty.sl (Ty.i .i64)).at u49 x47.1, (Ty.sl (Ty.sl (Ty.sl (Ty.i .i64)))).at u51 x47.2.2.1, (Ty.sl (Ty.sl (Ty.i .i64))).at u52 x47.2.2.2, bx b57 [u49, (Value.int .i64 x47.2.1), u51, u52], (Ty.sl (Ty.i .i64)).at u65 x63.1] := St.extend hS88 he107
          obtain ⟨S111, hS112, hf113⟩ := hphi109 1 42 _ rfl rfl rfl
          obtain ⟨e114, hr115⟩ := hf113
          refine OpX.call rfl (op_call fn_9 (args1 e114)) (Ret.mono (c_laws_toBraiding (Ty.lift _ (Ext.trans hE43 hS110.ext) r_aB_Cocycle_Orders) hr115 (Ty.lift _ (Ext.trans hE43 hS110.ext) r_aB_Cocycle_Values) (Ty.lift _ (Ext.trans hE43 hS110.ext) r_aB_Values) hx117) ?_)
          rintro _ wd122 ⟨u118, u120, u121, rfl, hr119, he123, hs124⟩
          exact ⟨he123, _, newS _ _, ⟨u118, u120, u121, rfl, hr119, (Sep.new hs124)⟩⟩
        · intro f125 wd126 Ss127 he128 hout129 hSn130 hSd131 hphi132
          show WL _ _ _ _ _ _ _
          have hS133 : St wd38 wd126 [(Ty.sl (Ty.i .i64)).at u49 x47.1, (Ty.sl (Ty.sl (Ty.sl (Ty.i .i64)))).at u51 x47.2.2.1, (Ty.sl (Ty.sl (Ty.i .i64))).at u52 x47.2.2.2, bx b57 [u49, (Value.int .i64 x47.2.1), u51, u52], (Ty.sl (Ty.i .i64)).at u65 x63.1] := St.extend hS88 he128
          obtain ⟨e134, hr135⟩ := hphi132 0 41 _ (by decide) rfl rfl
          obtain ⟨u137, u139, u140, e136, hr138, e136s⟩ := hphi132 2 43 _ (by decide) rfl rfl
          have e141 : f125 1 = (Value.pointer (some ⟨b1, 0, none⟩)) := (hout129 1 rfl).trans hf81
          have e142 : f125 4 = u36 := (hout129 4 rfl).trans hf82
          have e143 : f125 5 = (Value.int .i64 x34.2) := (hout129 5 rfl).trans hf83
          have e144 : f125 6 = (Value.pointer (some ⟨b57, 0, none⟩)) := (hout129 6 rfl).trans hf84
          have e145 : f125 7 = u65 := (hout129 7 rfl).trans hf85
          have e146 : f125 8 = (Value.int .i64 x63.2) := (hout129 8 rfl).trans hf86
          have hS147 := St.joinS hS88 he128 hSn130 (SepS.consS hSd131 rfl e136s SepS.nilS)
          replace hS147 : St wd38 wd126 [(Ty.sl (Ty.i .i64)).at u49 x47.1, (Ty.sl (Ty.sl (Ty.sl (Ty.i .i64)))).at u51 x47.2.2.1, (Ty.sl (Ty.sl (Ty.i .i64))).at u52 x47.2.2.2, bx b57 [u49, (Value.int .i64 x47.2.1), u51, u52], (Ty.sl (Ty.i .i64)).at u65 x63.1, (Ty.sl (Ty.i .i64)).at u137 x116.1, (Ty.sl (Ty.sl (Ty.sl (Ty.i .i64)))).at u139 x116.2.2.1, (Ty.sl (Ty.sl (Ty.i .i64))).at u140 x116.2.2.2] := hS147
          obtain ⟨x148, hx149, h⟩ := bs h
          refine WL.call _ (op_call fn_12 (args2 e134 e136)) (c_laws_eqBraiding (St.rep (t := (Ty.sl (Ty.i .i64))) hS147 0 rfl) hr135 (St.rep (t := (Ty.sl (Ty.sl (Ty.sl (Ty.i .i64))))) hS147 1 rfl) (St.rep (t := (Ty.sl (Ty.sl (Ty.i .i64)))) hS147 2 rfl) (St.rep (t := (Ty.sl (Ty.i .i64))) hS147 5 rfl) hr138 (St.rep (t := (Ty.sl (Ty.sl (Ty.sl (Ty.i .i64))))) hS147 6 rfl) (St.rep (t := (Ty.sl (Ty.sl (Ty.i .i64)))) hS147 7 rfl) hx149) rfl ?_
          rintro _ wd150 ⟨rfl, he151⟩
          have hS153 := St.extend hS147 he151
          replace hS153 : St wd38 wd150 [(Ty.sl (Ty.i .i64)).at u49 x47.1, (Ty.sl (Ty.sl (Ty.sl (Ty.i .i64)))).at u51 x47.2.2.1, (Ty.sl (Ty.sl (Ty.i .i64))).at u52 x47.2.2.2, bx b57 [u49, (Value.int .i64 x47.2.1), u51, u52], (Ty.sl (Ty.i .i64)).at u65 x63.1, (Ty.sl (Ty.i .i64)).at u137 x116.1, (Ty.sl (Ty.sl (Ty.sl (Ty.i .i64)))).at u139 x116.2.2.1, (Ty.sl (Ty.sl (Ty.i .i64))).at u140 x116.2.2.2] := hS153
          refine WL.val (Value.bool (!x148)) _ (op_not rfl) rfl ?_
          refine WL.nil ?_
          show W _ _ _ _ _ _
          refine W.cond (!x148) rfl (fun hc154 => ?_) (fun hc154 => ?_)
          · replace h := ip h hc154
            refine W.seq (W.region ?_)
            refine WL.val (Value.bool false) _ (op_assign rfl) rfl ?_
            refine WL.nil ?_
            show W _ _ _ _ _ _
            refine W.ret ?_
            obtain rfl := Option.some.inj h
            show FinP _ _ _ _ _ _ _
            exact FinP.ret _ (res1 rfl rfl) ⟨rfl, (Ext.trans hE43 hS153.ext)⟩
          · replace h := inegb h hc154
            refine W.skip ?_
            show W _ _ _ _ _ _
            refine W.seq (W.region ?_)
            refine WL.val (Value.int .i64 (1 : Int)) _ (op_assign rfl) rfl ?_
            refine WL.nil ?_
            show W _ _ _ _ _ _
            refine W.seq (W.region ?_)
            refine WL.val (Value.agg #[u49, (Value.int .i64 x47.2.1), u51, u52]) _ (op_loadBox st_34 e144 (St.boxAt hS153 3 rfl) rfl rfl) rfl ?_
            refine WL.val (Value.int .i64 (1 : Int)) _ (op_move rfl) rfl ?_
            obtain ⟨x156, hx157, h⟩ := bs h
            have hS158 := St.fold [(Ty.sl (Ty.i .i64)).at u49 x47.1, (Ty.sl (Ty.sl (Ty.sl (Ty.i .i64)))).at u51 x47.2.2.1, (Ty.sl (Ty.sl (Ty.i .i64))).at u52 x47.2.2.2] [bx b57 [u49, (Value.int .i64 x47.2.1), u51, u52], (Ty.sl (Ty.i .i64)).at u65 x63.1, (Ty.sl (Ty.i .i64)).at u137 x116.1, (Ty.sl (Ty.sl (Ty.sl (Ty.i .i64)))).at u139 x116.2.2.1, (Ty.sl (Ty.sl (Ty.i .i64))).at u140 x116.2.2.2] (St.pick hS153 [0, 1, 2, 3, 4, 5, 6, 7] rfl)
            refine WL.call _ (op_call fn_13 (args2 rfl rfl)) (c_laws_markBraiding hS158 hr50 (inR_i64.2 (show (-9223372036854775808 : Int) ≤ 1 ∧ (1 : Int) ≤ 9223372036854775807 from by decide)) hx157) rfl ?_
            rintro _ wd161 ⟨rfl, hr162, hS159⟩
            have hS160 := St.pick (St.unfold [(Ty.sl (Ty.i .i64)).at u49 x156.2.1, (Ty.sl (Ty.sl (Ty.sl (Ty.i .i64)))).at u51 x156.2.2.1, (Ty.sl (Ty.sl (Ty.i .i64))).at u52 x156.2.2.2] [bx b57 [u49, (Value.int .i64 x47.2.1), u51, u52], (Ty.sl (Ty.i .i64)).at u65 x63.1, (Ty.sl (Ty.i .i64)).at u137 x116.1, (Ty.sl (Ty.sl (Ty.sl (Ty.i .i64)))).at u139 x116.2.2.1, (Ty.sl (Ty.sl (Ty.i .i64))).at u140 x116.2.2.2] hS159) [0, 1, 2, 3, 4, 5, 6, 7] rfl
            replace hS160 : St wd38 wd161 [(Ty.sl (Ty.i .i64)).at u49 x156.2.1, (Ty.sl (Ty.sl (Ty.sl (Ty.i .i64)))).at u51 x156.2.2.1, (Ty.sl (Ty.sl (Ty.i .i64))).at u52 x156.2.2.2, bx b57 [u49, (Value.int .i64 x47.2.1), u51, u52], (Ty.sl (Ty.i .i64)).at u65 x63.1, (Ty.sl (Ty.i .i64)).at u137 x116.1, (Ty.sl (Ty.sl (Ty.sl (Ty.i .i64)))).at u139 x116.2.2.1, (Ty.sl (Ty.sl (Ty.i .i64))).at u140 x116.2.2.2] := hS160
            refine WL.val (Value.int .i64 x156.1) _ (op_assign rfl) rfl ?_
            refine WL.nil ?_
            show W _ _ _ _ _ _
            refine W.seq (W.seq (W.region ?_))
            refine WL.val (Value.int .i64 x156.1) _ (op_move rfl) rfl ?_
            refine WL.val (Value.bool (decide (x156.1 < (0 : Int)))) _ (op_lss rfl rfl) rfl ?_
            refine WL.val (Value.bool (decide (x156.1 < (0 : Int)))) _ (op_move rfl) rfl ?_
            obtain ⟨x164, hj165, h⟩ := bs h
            refine WL.cut 5 (fun fq wq => fq 1 = (Value.pointer (some ⟨b1, 0, none⟩)) ∧ fq 4 = u36 ∧ fq 5 = (Value.int .i64 x34.2) ∧ fq 7 = u65 ∧ fq 8 = (Value.int .i64 x63.2) ∧ fq 56 = Value.bool x164 ∧ St wd38 wq [(Ty.sl (Ty.i .i64)).at u65 x63.1]) ?_ ?_
            · rcases Bool.eq_false_or_eq_true (decide (x156.1 < (0 : Int))) with hc163 | hc163
              · replace hj165 := ip hj165 hc163
                refine WL.gskip rfl (bool_of rfl hc163) rfl ?_
                refine WL.gskip rfl (bool_of rfl hc163) rfl ?_
                refine WL.gskip rfl (bool_of rfl hc163) rfl ?_
                refine WL.gskip rfl (bool_of rfl hc163) rfl ?_
                refine WL.val (Value.bool true) _ (op_pick_t (evb_of rfl hc163) rfl) rfl ?_
                refine WL.nil ?_
                obtain rfl := Option.some.inj hj165
                exact ⟨rfl, e141, e142, e143, e145, e146, rfl, (St.pick hS160 [4] rfl)⟩
              · replace hj165 := inegb hj165 hc163
                refine WL.grun rfl (bool_of rfl hc163) ?_
                refine WL.val u65 _ (op_move e145) rfl ?_
                refine WL.grun rfl (bool_of rfl hc163) ?_
                refine WL.val u36 _ (op_move e142) rfl ?_
                refine WL.grun rfl (bool_of rfl hc163) ?_
                obtain ⟨x169, hx170, hj165⟩ := bs hj165
                refine WL.call _ (op_call fn_11 (args2 rfl rfl)) (c_laws_eqInt64S (St.rep (t := (Ty.sl (Ty.i .i64))) hS160 4 rfl) (Ty.lift _ hS160.ext hb42) hx170) rfl ?_
                rintro _ wd171 ⟨rfl, he172⟩
                have hS174 := St.extend hS160 he172
                replace hS174 : St wd38 wd171 [(Ty.sl (Ty.i .i64)).at u49 x156.2.1, (Ty.sl (Ty.sl (Ty.sl (Ty.i .i64)))).at u51 x156.2.2.1, (Ty.sl (Ty.sl (Ty.i .i64))).at u52 x156.2.2.2, bx b57 [u49, (Value.int .i64 x47.2.1), u51, u52], (Ty.sl (Ty.i .i64)).at u65 x63.1, (Ty.sl (Ty.i .i64)).at u137 x116.1, (Ty.sl (Ty.sl (Ty.sl (Ty.i .i64)))).at u139 x116.2.2.1, (Ty.sl (Ty.sl (Ty.i .i64))).at u140 x116.2.2.2] := hS174
                refine WL.grun rfl (bool_of rfl hc163) ?_
                refine WL.val (Value.bool (!x169)) _ (op_not rfl) rfl ?_
                refine WL.val (Value.bool (!x169)) _ (op_pick_f (evb_of rfl hc163) rfl) rfl ?_
                refine WL.nil ?_
                obtain rfl := Option.some.inj hj165
                exact ⟨rfl, e141, e142, e143, e145, e146, rfl, (St.pick hS174 [4] rfl)⟩
            · intro f166 wd167 hq168
              obtain ⟨hf175, hf176, hf177, hf178, hf179, hf180, hS181⟩ := hq168
              refine WL.val (Value.bool x164) _ (op_move hf180) rfl ?_
              refine WL.cut 4 (fun fq wq => fq 1 = (Value.pointer (some ⟨b1, 0, none⟩)) ∧ fq 4 = u36 ∧ fq 5 = (Value.int .i64 x34.2) ∧ fq 7 = u65 ∧ fq 61 = (Value.bool (x164 || (x63.2 != x34.2))) ∧ St wd38 wq [(Ty.sl (Ty.i .i64)).at u65 x63.1]) ?_ ?_
              · rcases Bool.eq_false_or_eq_true x164 with hc182 | hc182
                · refine WL.gskip rfl (bool_of rfl hc182) rfl ?_
                  refine WL.gskip rfl (bool_of rfl hc182) rfl ?_
                  refine WL.gskip rfl (bool_of rfl hc182) rfl ?_
                  refine WL.val (Value.bool true) _ (op_pick_t (evb_of rfl hc182) rfl) rfl ?_
                  refine WL.nil ?_
                  exact ⟨rfl, hf175, hf176, hf177, hf178, (orT hc182), hS181⟩
                · refine WL.grun rfl (bool_of rfl hc182) ?_
                  refine WL.val (Value.int .i64 x63.2) _ (op_move hf179) rfl ?_
                  refine WL.grun rfl (bool_of rfl hc182) ?_
                  refine WL.val (Value.int .i64 x34.2) _ (op_move hf177) rfl ?_
                  refine WL.grun rfl (bool_of rfl hc182) ?_
                  refine WL.val (Value.bool (x63.2 != x34.2)) _ (op_neq rfl rfl) rfl ?_
                  refine WL.val (Value.bool (x63.2 != x34.2)) _ (op_pick_f (evb_of rfl hc182) rfl) rfl ?_
                  refine WL.nil ?_
                  exact ⟨rfl, hf175, hf176, hf177, hf178, (orF hc182), hS181⟩
              · intro f183 wd184 hq185
                obtain ⟨hf186, hf187, hf188, hf189, hf190, hS191⟩ := hq185
                refine WL.nil ?_
                show W _ _ _ _ _ _
                refine W.cond (x164 || (x63.2 != x34.2)) hf190 (fun hc192 => ?_) (fun hc192 => ?_)
                · replace h := ip h hc192
                  refine W.seq (W.region ?_)
                  refine WL.val (Value.bool false) _ (op_assign rfl) rfl ?_
                  refine WL.nil ?_
                  show W _ _ _ _ _ _
                  refine W.ret ?_
                  obtain rfl := Option.some.inj h
                  show FinP _ _ _ _ _ _ _
                  exact FinP.ret _ (res1 rfl rfl) ⟨rfl, (Ext.trans hE43 hS191.ext)⟩
                · replace h := inegb h hc192
                  refine W.skip ?_
                  show W _ _ _ _ _ _
                  refine W.seq (W.region ?_)
                  refine WL.val (Value.int .i64 (1 : Int)) _ (op_assign rfl) rfl ?_
                  refine WL.nil ?_
                  show W _ _ _ _ _ _
                  refine W.seq (W.region ?_)
                  refine WL.val u65 _ (op_move hf189) rfl ?_
                  refine WL.val (Value.int .i64 (1 : Int)) _ (op_move rfl) rfl ?_
                  obtain ⟨x194, hx195, h⟩ := bs h
                  have hS196 := St.fold [(Ty.sl (Ty.i .i64)).at u65 x63.1] [] (St.pick hS191 [0] rfl)
                  refine WL.call _ (op_call fn_14 (args2 rfl rfl)) (c_laws_markInt64S hS196 (inR_i64.2 (show (-9223372036854775808 : Int) ≤ 1 ∧ (1 : Int) ≤ 9223372036854775807 from by decide)) hx195) rfl ?_
                  rintro _ wd199 ⟨rfl, hr200, hS197⟩
                  have hS198 := St.pick (St.unfold [(Ty.sl (Ty.i .i64)).at u65 x194.2] [] hS197) [0] rfl
                  replace hS198 : St wd38 wd199 [(Ty.sl (Ty.i .i64)).at u65 x194.2] := hS198
                  refine WL.val (Value.int .i64 x194.1) _ (op_assign rfl) rfl ?_
                  refine WL.nil ?_
                  show W _ _ _ _ _ _
                  refine W.seq (W.region ?_)
                  refine WL.val (Value.int .i64 (1 : Int)) _ (op_assign rfl) rfl ?_
                  refine WL.nil ?_
                  show W _ _ _ _ _ _
                  refine W.seq (W.region ?_)
                  refine WL.val u65 _ (op_move hf189) rfl ?_
                  refine WL.val (Value.int .i64 (1 : Int)) _ (op_move rfl) rfl ?_
                  obtain ⟨x201, hx202, h⟩ := bs h
                  refine WL.call _ (op_call fn_15 (args2 rfl rfl)) (c_laws_heldInt64S (St.rep (t := (Ty.sl (Ty.i .i64))) hS198 0 rfl) (inR_i64.2 (show (-9223372036854775808 : Int) ≤ 1 ∧ (1 : Int) ≤ 9223372036854775807 from by decide)) hx202) rfl ?_
                  rintro _ wd204 ⟨rfl, hr203, he205⟩
                  have hS207 := St.extend hS198 he205
                  replace hS207 : St wd38 wd204 [(Ty.sl (Ty.i .i64)).at u65 x194.2] := hS207
                  refine WL.val (Value.int .i64 x201) _ (op_assign rfl) rfl ?_
                  refine WL.nil ?_
                  show W _ _ _ _ _ _
                  refine W.seq (W.seq (W.region ?_))
                  refine WL.val (Value.int .i64 x201) _ (op_move rfl) rfl ?_
                  refine WL.val (Value.bool (decide (x201 < (0 : Int)))) _ (op_lss rfl rfl) rfl ?_
                  refine WL.nil ?_
                  show W _ _ _ _ _ _
                  refine W.cond (decide (x201 < (0 : Int))) rfl (fun hc208 => ?_) (fun hc208 => ?_)
                  · replace h := ip h hc208
                    refine W.seq (W.region ?_)
                    refine WL.val (Value.bool false) _ (op_assign rfl) rfl ?_
                    refine WL.nil ?_
                    show W _ _ _ _ _ _
                    refine W.ret ?_
                    obtain rfl := Option.some.inj h
                    show FinP _ _ _ _ _ _ _
                    exact FinP.ret _ (res1 rfl rfl) ⟨rfl, (Ext.trans hE43 hS207.ext)⟩
                  · replace h := inegb h hc208
                    refine W.skip ?_
                    show W _ _ _ _ _ _
                    refine W.seq (W.seq (W.region ?_))
                    refine WL.val (Value.int .i64 x201) _ (op_move rfl) rfl ?_
                    refine WL.val (Value.int .i64 x194.1) _ (op_move rfl) rfl ?_
                    refine WL.val (Value.bool (x201 != x194.1)) _ (op_neq rfl rfl) rfl ?_
                    refine WL.nil ?_
                    show W _ _ _ _ _ _
                    refine W.cond (x201 != x194.1) rfl (fun hc210 => ?_) (fun hc210 => ?_)
                    · replace h := ip h hc210
                      refine W.seq (W.region ?_)
                      refine WL.val (Value.bool false) _ (op_assign rfl) rfl ?_
                      refine WL.nil ?_
                      show W _ _ _ _ _ _
                      refine W.ret ?_
                      obtain rfl := Option.some.inj h
                      show FinP _ _ _ _ _ _ _
                      exact FinP.ret _ (res1 rfl rfl) ⟨rfl, (Ext.trans hE43 hS207.ext)⟩
                    · replace h := inegb h hc210
                      refine W.skip ?_
                      show W _ _ _ _ _ _
                      refine W.seq (W.region ?_)
                      refine WL.val (Value.agg #[v_aB_Cocycle_Orders, (Value.int .i64 aB_Cocycle_Modulus), v_aB_Cocycle_Values, v_aB_Values]) _ (op_loadBox st_28 hf186 (BoxAt.lift (Ext.trans hE44 hS207.ext) hx6) rfl rfl) rfl ?_
                      obtain ⟨x212, hx213, h⟩ := bs h
                      refine WL.call _ (op_call fn_9 (args1 rfl)) (c_laws_toBraiding (Ty.lift _ (Ext.trans hE43 hS207.ext) r_aB_Cocycle_Orders) r_aB_Cocycle_Modulus (Ty.lift _ (Ext.trans hE43 hS207.ext) r_aB_Cocycle_Values) (Ty.lift _ (Ext.trans hE43 hS207.ext) r_aB_Values) hx213) rfl ?_
                      rintro _ wd218 ⟨u214, u216, u217, rfl, hr215, he219, hs220⟩
                      have hS221 := St.join hS207 he219 hs220
                      replace hS221 : St wd38 wd218 [(Ty.sl (Ty.i .i64)).at u65 x194.2, (Ty.sl (Ty.i .i64)).at u214 x212.1, (Ty.sl (Ty.sl (Ty.sl (Ty.i .i64)))).at u216 x212.2.2.1, (Ty.sl (Ty.sl (Ty.i .i64))).at u217 x212.2.2.2] := hS221
                      obtain ⟨x222, hx223, h⟩ := bs h
                      refine WL.call _ (op_call fn_17 (args1 rfl)) (c_impl_TransparentElements (St.rep (t := (Ty.sl (Ty.i .i64))) hS221 1 rfl) hr215 (St.rep (t := (Ty.sl (Ty.sl (Ty.sl (Ty.i .i64))))) hS221 2 rfl) (St.rep (t := (Ty.sl (Ty.sl (Ty.i .i64)))) hS221 3 rfl) hx223) rfl ?_
                      rintro _ wd226 ⟨u224, rfl, hr225, he227, hs228⟩
                      have hS229 := St.join hS221 he227 hs228
                      replace hS229 : St wd38 wd226 [(Ty.sl (Ty.i .i64)).at u65 x194.2, (Ty.sl (Ty.i .i64)).at u214 x212.1, (Ty.sl (Ty.sl (Ty.sl (Ty.i .i64)))).at u216 x212.2.2.1, (Ty.sl (Ty.sl (Ty.i .i64))).at u217 x212.2.2.2, (Ty.sl (Ty.i .i64)).at u224 x222.1] := hS229
                      refine WL.val (Value.tuple #[u224, (Value.int .i64 x222.2)]) _ (op_move rfl) rfl ?_
                      refine WL.val u224 _ (op_extract rfl rfl) rfl ?_
                      refine WL.val (Value.int .i64 x222.2) _ (op_extract rfl rfl) rfl ?_
                      refine WL.val u224 _ (op_assign rfl) rfl ?_
                      refine WL.val (Value.int .i64 x222.2) _ (op_assign rfl) rfl ?_
                      refine WL.nil ?_
                      show W _ _ _ _ _ _
                      refine W.seq (W.seq (W.region ?_))
                      refine WL.val u224 _ (op_move rfl) rfl ?_
                      refine WL.val u36 _ (op_move hf187) rfl ?_
                      obtain ⟨x230, hx231, h⟩ := bs h
                      refine WL.call _ (op_call fn_11 (args2 rfl rfl)) (c_laws_eqInt64S (St.rep (t := (Ty.sl (Ty.i .i64))) hS229 4 rfl) (Ty.lift _ hS229.ext hb42) hx231) rfl ?_
                      rintro _ wd232 ⟨rfl, he233⟩
                      have hS235 := St.extend hS229 he233
                      replace hS235 : St wd38 wd232 [(Ty.sl (Ty.i .i64)).at u65 x194.2, (Ty.sl (Ty.i .i64)).at u214 x212.1, (Ty.sl (Ty.sl (Ty.sl (Ty.i .i64)))).at u216 x212.2.2.1, (Ty.sl (Ty.sl (Ty.i .i64))).at u217 x212.2.2.2, (Ty.sl (Ty.i .i64)).at u224 x222.1] := hS235
                      refine WL.val (Value.bool (!x230)) _ (op_not rfl) rfl ?_
                      refine WL.val (Value.bool (!x230)) _ (op_move rfl) rfl ?_
                      refine WL.cut 4 (fun fq wq => fq 7 = u65 ∧ fq 10 = (Value.int .i64 x194.1) ∧ fq 87 = (Value.bool ((!x230) || (x222.2 != x34.2))) ∧ St wd38 wq [(Ty.sl (Ty.i .i64)).at u65 x194.2]) ?_ ?_
                      · rcases Bool.eq_false_or_eq_true (!x230) with hc236 | hc236
                        · refine WL.gskip rfl (bool_of rfl hc236) rfl ?_
                          refine WL.gskip rfl (bool_of rfl hc236) rfl ?_
                          refine WL.gskip rfl (bool_of rfl hc236) rfl ?_
                          refine WL.val (Value.bool true) _ (op_pick_t (evb_of rfl hc236) rfl) rfl ?_
                          refine WL.nil ?_
                          exact ⟨rfl, hf189, rfl, (orT hc236), (St.pick hS235 [0] rfl)⟩
                        · refine WL.grun rfl (bool_of rfl hc236) ?_
                          refine WL.val (Value.int .i64 x222.2) _ (op_move rfl) rfl ?_
                          refine WL.grun rfl (bool_of rfl hc236) ?_
                          refine WL.val (Value.int .i64 x34.2) _ (op_move hf188) rfl ?_
                          refine WL.grun rfl (bool_of rfl hc236) ?_
                          refine WL.val (Value.bool (x222.2 != x34.2)) _ (op_neq rfl rfl) rfl ?_
                          refine WL.val (Value.bool (x222.2 != x34.2)) _ (op_pick_f (evb_of rfl hc236) rfl) rfl ?_
                          refine WL.nil ?_
                          exact ⟨rfl, hf189, rfl, (orF hc236), (St.pick hS235 [0] rfl)⟩
                      · intro f237 wd238 hq239
                        obtain ⟨hf240, hf241, hf242, hS243⟩ := hq239
                        refine WL.nil ?_
                        show W _ _ _ _ _ _
                        refine W.cond ((!x230) || (x222.2 != x34.2)) hf242 (fun hc244 => ?_) (fun hc244 => ?_)
                        · replace h := ip h hc244
                          refine W.seq (W.region ?_)
                          refine WL.val (Value.bool false) _ (op_assign rfl) rfl ?_
                          refine WL.nil ?_
                          show W _ _ _ _ _ _
                          refine W.ret ?_
                          obtain rfl := Option.some.inj h
                          show FinP _ _ _ _ _ _ _
                          exact FinP.ret _ (res1 rfl rfl) ⟨rfl, (Ext.trans hE43 hS243.ext)⟩
                        · replace h := inegb h hc244
                          refine W.skip ?_
                          show W _ _ _ _ _ _
                          refine W.seq (W.region ?_)
                          refine WL.val (Value.int .i64 (1 : Int)) _ (op_assign rfl) rfl ?_
                          refine WL.nil ?_
                          show W _ _ _ _ _ _
                          refine W.seq (W.region ?_)
                          refine WL.val u65 _ (op_move hf240) rfl ?_
                          refine WL.val (Value.int .i64 (1 : Int)) _ (op_move rfl) rfl ?_
                          obtain ⟨x246, hx247, h⟩ := bs h
                          refine WL.call _ (op_call fn_15 (args2 rfl rfl)) (c_laws_heldInt64S (St.rep (t := (Ty.sl (Ty.i .i64))) hS243 0 rfl) (inR_i64.2 (show (-9223372036854775808 : Int) ≤ 1 ∧ (1 : Int) ≤ 9223372036854775807 from by decide)) hx247) rfl ?_
                          rintro _ wd249 ⟨rfl, hr248, he250⟩
                          have hS252 := St.extend hS243 he250
                          replace hS252 : St wd38 wd249 [(Ty.sl (Ty.i .i64)).at u65 x194.2] := hS252
                          refine WL.val (Value.int .i64 x246) _ (op_assign rfl) rfl ?_
                          refine WL.nil ?_
                          show W _ _ _ _ _ _
                          refine W.seq (W.seq (W.region ?_))
                          refine WL.val (Value.int .i64 x246) _ (op_move rfl) rfl ?_
                          refine WL.val (Value.bool (decide (x246 < (0 : Int)))) _ (op_lss rfl rfl) rfl ?_
                          refine WL.nil ?_
                          show W _ _ _ _ _ _
                          refine W.cond (decide (x246 < (0 : Int))) rfl (fun hc253 => ?_) (fun hc253 => ?_)
                          · replace h := ip h hc253
                            refine W.seq (W.region ?_)
                            refine WL.val (Value.bool false) _ (op_assign rfl) rfl ?_
                            refine WL.nil ?_
                            show W _ _ _ _ _ _
                            refine W.ret ?_
                            obtain rfl := Option.some.inj h
                            show FinP _ _ _ _ _ _ _
                            exact FinP.ret _ (res1 rfl rfl) ⟨rfl, (Ext.trans hE43 hS252.ext)⟩
                          · replace h := inegb h hc253
                            refine W.skip ?_
                            show W _ _ _ _ _ _
                            refine W.seq (W.seq (W.region ?_))
                            refine WL.val (Value.int .i64 x246) _ (op_move rfl) rfl ?_
                            refine WL.val (Value.int .i64 x194.1) _ (op_move hf241) rfl ?_
                            refine WL.val (Value.bool (x246 != x194.1)) _ (op_neq rfl rfl) rfl ?_
                            refine WL.nil ?_
                            show W _ _ _ _ _ _
                            refine W.cond (x246 != x194.1) rfl (fun hc255 => ?_) (fun hc255 => ?_)
                            · replace h := ip h hc255
                              refine W.seq (W.region ?_)
                              refine WL.val (Value.bool false) _ (op_assign rfl) rfl ?_
                              refine WL.nil ?_
                              show W _ _ _ _ _ _
                              refine W.ret ?_
                              obtain rfl := Option.some.inj h
                              show FinP _ _ _ _ _ _ _
                              exact FinP.ret _ (res1 rfl rfl) ⟨rfl, (Ext.trans hE43 hS252.ext)⟩
                            · replace h := inegb h hc255
                              refine W.skip ?_
                              show W _ _ _ _ _ _
                              refine W.seq (W.region ?_)
                              refine WL.val (Value.bool true) _ (op_assign rfl) rfl ?_
                              refine WL.nil ?_
                              show W _ _ _ _ _ _
                              refine W.ret ?_
                              obtain rfl := Option.some.inj h
                              show FinP _ _ _ _ _ _ _
                              exact FinP.ret _ (res1 rfl rfl) ⟨rfl, (Ext.trans hE43 hS252.ext)⟩

end Go.VG
