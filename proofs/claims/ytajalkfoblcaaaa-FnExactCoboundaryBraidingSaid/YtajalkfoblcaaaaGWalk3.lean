/- The walks, part 3: each Go function returns what its plain twin returns. No condition beyond what each names. -/
import Derived.Test.YtajalkfoblcaaaaGWalk2
set_option linter.all false
namespace Go.VG
open Go.Proofs
attribute [local irreducible] W WL Sep FinP

theorem c_laws_markBraiding {w : World} {a_Cocycle_Orders : (List Int)} {v_a_Cocycle_Orders : Value} {a_Cocycle_Modulus : Int} {a_Cocycle_Values : (List (List (List Int)))} {v_a_Cocycle_Values : Value} {a_Values : (List (List Int))} {v_a_Values : Value} {k1 : Int} {w0 : World} {R : Ent} (hS0 : St w0 w [(Ty.sl (Ty.i .i64)).at v_a_Cocycle_Orders a_Cocycle_Orders, (Ty.sl (Ty.sl (Ty.sl (Ty.i .i64)))).at v_a_Cocycle_Values a_Cocycle_Values, (Ty.sl (Ty.sl (Ty.i .i64))).at v_a_Values a_Values, R]) (r_a_Cocycle_Modulus : InR .i64 a_Cocycle_Modulus) (r_k1 : InR .i64 k1) {res : Int × (List Int) × (List (List (List Int))) × (List (List Int))} (h : p_laws_markBraiding a_Cocycle_Orders a_Cocycle_Modulus a_Cocycle_Values a_Values k1  = some res) :
    Ret Try.prog 29 #[(Value.agg #[v_a_Cocycle_Orders, (Value.int .i64 a_Cocycle_Modulus), v_a_Cocycle_Values, v_a_Values]), (Value.int .i64 k1)] w (fun v w' => v = Value.int .i64 res.1 ∧ InR .i64 res.1 ∧ St w0 w' [(Ty.sl (Ty.i .i64)).at v_a_Cocycle_Orders res.2.1, (Ty.sl (Ty.sl (Ty.sl (Ty.i .i64)))).at v_a_Cocycle_Values res.2.2.1, (Ty.sl (Ty.sl (Ty.i .i64))).at v_a_Values res.2.2.2, R]) := by
  unfold p_laws_markBraiding at h
  refine Ret.start (fn := Try.f29) Try.func29 rfl 14 rfl rfl ?_
  refine W.seq (W.region ?_)
  refine WL.box hS0 rfl (cs := [v_a_Cocycle_Orders, (Value.int .i64 a_Cocycle_Modulus), v_a_Cocycle_Values, v_a_Values]) rfl rfl ?_
  intro b1 wd2 hS3 he4 hx5
  replace hS3 : St w0 wd2 [(Ty.sl (Ty.i .i64)).at v_a_Cocycle_Orders a_Cocycle_Orders, (Ty.sl (Ty.sl (Ty.sl (Ty.i .i64)))).at v_a_Cocycle_Values a_Cocycle_Values, (Ty.sl (Ty.sl (Ty.i .i64))).at v_a_Values a_Values, R, bx b1 [v_a_Cocycle_Orders, (Value.int .i64 a_Cocycle_Modulus), v_a_Cocycle_Values, v_a_Values]] := hS3
  refine WL.val (Value.int .i64 (0 : Int)) _ (op_assign rfl) rfl ?_
  refine WL.nil ?_
  show W _ _ _ _ _ _
  refine W.seq (W.region ?_)
  refine WL.val (Value.pointer (some ⟨b1, 0, none⟩)) _ (op_fieldAddr fd_42_0 rfl) rfl ?_
  refine WL.val (Value.agg #[v_a_Cocycle_Orders, (Value.int .i64 a_Cocycle_Modulus), v_a_Cocycle_Values]) _ (op_loadBox st_30 rfl (St.boxAt hS3 4 rfl) rfl rfl) rfl ?_
  refine WL.val (Value.int .i64 k1) _ (op_move rfl) rfl ?_
  obtain ⟨x6, hx7, h⟩ := bs h
  have hS8 := St.fold [(Ty.sl (Ty.i .i64)).at v_a_Cocycle_Orders a_Cocycle_Orders, (Ty.sl (Ty.sl (Ty.sl (Ty.i .i64)))).at v_a_Cocycle_Values a_Cocycle_Values] [(Ty.sl (Ty.sl (Ty.i .i64))).at v_a_Values a_Values, R, bx b1 [v_a_Cocycle_Orders, (Value.int .i64 a_Cocycle_Modulus), v_a_Cocycle_Values, v_a_Values]] (St.pick hS3 [0, 1, 2, 3, 4] rfl)
  refine WL.call _ (op_call fn_14 (args2 rfl rfl)) (c_laws_markCocycle hS8 r_a_Cocycle_Modulus r_k1 hx7) rfl ?_
  rintro _ wd11 ⟨rfl, hr12, hS9⟩
  have hS10 := St.pick (St.unfold [(Ty.sl (Ty.i .i64)).at v_a_Cocycle_Orders x6.2.1, (Ty.sl (Ty.sl (Ty.sl (Ty.i .i64)))).at v_a_Cocycle_Values x6.2.2] [(Ty.sl (Ty.sl (Ty.i .i64))).at v_a_Values a_Values, R, bx b1 [v_a_Cocycle_Orders, (Value.int .i64 a_Cocycle_Modulus), v_a_Cocycle_Values, v_a_Values]] hS9) [0, 1, 2, 3, 4] rfl
  replace hS10 : St w0 wd11 [(Ty.sl (Ty.i .i64)).at v_a_Cocycle_Orders x6.2.1, (Ty.sl (Ty.sl (Ty.sl (Ty.i .i64)))).at v_a_Cocycle_Values x6.2.2, (Ty.sl (Ty.sl (Ty.i .i64))).at v_a_Values a_Values, R, bx b1 [v_a_Cocycle_Orders, (Value.int .i64 a_Cocycle_Modulus), v_a_Cocycle_Values, v_a_Values]] := hS10
  refine WL.val (Value.int .i64 x6.1) _ (op_assign rfl) rfl ?_
  refine WL.nil ?_
  show W _ _ _ _ _ _
  refine W.seq (W.region ?_)
  refine WL.val (Value.pointer (some ⟨b1, 3, none⟩)) _ (op_fieldAddr fd_42_1 rfl) rfl ?_
  refine WL.val v_a_Values _ (op_load one_27 rfl (BoxAt.cell (St.boxAt hS10 4 rfl) rfl)) rfl ?_
  refine WL.val (Value.int .i64 x6.1) _ (op_move rfl) rfl ?_
  obtain ⟨x13, hx14, h⟩ := bs h
  have hS15 := St.fold [(Ty.sl (Ty.sl (Ty.i .i64))).at v_a_Values a_Values] [(Ty.sl (Ty.i .i64)).at v_a_Cocycle_Orders x6.2.1, (Ty.sl (Ty.sl (Ty.sl (Ty.i .i64)))).at v_a_Cocycle_Values x6.2.2, R, bx b1 [v_a_Cocycle_Orders, (Value.int .i64 a_Cocycle_Modulus), v_a_Cocycle_Values, v_a_Values]] (St.pick hS10 [2, 0, 1, 3, 4] rfl)
  refine WL.call _ (op_call fn_15 (args2 rfl rfl)) (c_laws_markInt64SS hS15 hr12 hx14) rfl ?_
  rintro _ wd18 ⟨rfl, hr19, hS16⟩
  have hS17 := St.pick (St.unfold [(Ty.sl (Ty.sl (Ty.i .i64))).at v_a_Values x13.2] [(Ty.sl (Ty.i .i64)).at v_a_Cocycle_Orders x6.2.1, (Ty.sl (Ty.sl (Ty.sl (Ty.i .i64)))).at v_a_Cocycle_Values x6.2.2, R, bx b1 [v_a_Cocycle_Orders, (Value.int .i64 a_Cocycle_Modulus), v_a_Cocycle_Values, v_a_Values]] hS16) [1, 2, 0, 3, 4] rfl
  replace hS17 : St w0 wd18 [(Ty.sl (Ty.i .i64)).at v_a_Cocycle_Orders x6.2.1, (Ty.sl (Ty.sl (Ty.sl (Ty.i .i64)))).at v_a_Cocycle_Values x6.2.2, (Ty.sl (Ty.sl (Ty.i .i64))).at v_a_Values x13.2, R, bx b1 [v_a_Cocycle_Orders, (Value.int .i64 a_Cocycle_Modulus), v_a_Cocycle_Values, v_a_Values]] := hS17
  refine WL.val (Value.int .i64 x13.1) _ (op_assign rfl) rfl ?_
  refine WL.nil ?_
  show W _ _ _ _ _ _
  refine W.seq (W.region ?_)
  refine WL.val (Value.int .i64 x13.1) _ (op_move rfl) rfl ?_
  refine WL.val (Value.int .i64 x13.1) _ (op_assign rfl) rfl ?_
  refine WL.nil ?_
  show W _ _ _ _ _ _
  refine W.ret ?_
  obtain rfl := Option.some.inj h
  show FinP _ _ _ _ _ _ _
  exact FinP.ret _ (res1 rfl rfl) ⟨rfl, hr19, (St.pick hS17 [0, 1, 2, 3] rfl)⟩

theorem c_laws_heldInt64SSS {w : World} {a : (List (List (List Int)))} {v_a : Value} {k1 : Int} (r_a : (Ty.sl (Ty.sl (Ty.sl (Ty.i .i64)))).rep w v_a a) (r_k1 : InR .i64 k1) {res : Int} (h : p_laws_heldInt64SSS a k1  = some res) :
    Ret Try.prog 64 #[v_a, (Value.int .i64 k1)] w (fun v w' => v = Value.int .i64 res ∧ InR .i64 res ∧ Ext w w') := by
  unfold p_laws_heldInt64SSS at h
  have hS0 : St w w [] := St.start w
  refine Ret.start (fn := Try.f64) Try.func64 rfl 21 rfl rfl ?_
  refine W.seq (W.region ?_)
  refine WL.val (Value.int .i64 (0 : Int)) _ (op_assign rfl) rfl ?_
  refine WL.nil ?_
  show W _ _ _ _ _ _
  refine W.seq (W.seq (W.region ?_))
  refine WL.val (Value.int .i64 (0 : Int)) _ (op_assign rfl) rfl ?_
  refine WL.nil ?_
  show W _ _ _ _ _ _
  obtain ⟨res1, hres2, h⟩ := bs h
  refine W.blockLoop (fun fq wq => ∃ s, res1 = Res.fin s ∧ fq 1 = Value.int .i64 s ∧ InR .i64 s ∧ St w wq []) ?_ ?_
  · refine W.forN (fun k (s : Int) fq wq => fq 0 = v_a ∧ fq 1 = Value.int .i64 s ∧ InR .i64 s ∧ fq 5 = Value.int .i64 (k : Int) ∧ InR .i64 (k : Int) ∧ St w wq []) hres2 ⟨rfl, rfl, r_k1, rfl, (inR_i64.2 (show (-9223372036854775808 : Int) ≤ 0 ∧ (0 : Int) ≤ 9223372036854775807 from by decide)), hS0⟩ ?_ ?_
    · intro k3 x4 ct5 f6 wd7 hk8 hb9 hI10 hbrk11 hret12
      replace hI10 : f6 0 = v_a ∧ f6 1 = Value.int .i64 x4 ∧ InR .i64 x4 ∧ f6 5 = Value.int .i64 (k3 : Int) ∧ InR .i64 (k3 : Int) ∧ St w wd7 [] := hI10
      replace hb9 : p_laws_heldInt64SSS_L1 a k3 x4 = some ct5 := hb9
      unfold p_laws_heldInt64SSS_L1 at hb9
      obtain ⟨hf13, hf14, hr15, hf16, hr17, hS18⟩ := hI10
      refine W.seq (W.seq (W.region ?_))
      refine WL.val (Value.int .i64 (k3 : Int)) _ (op_move hf16) rfl ?_
      refine WL.val v_a _ (op_move hf13) rfl ?_
      have hr19 := inR_len (Ty.lift _ hS18.ext r_a)
      refine WL.val (Value.int .i64 ((a).length : Int)) _ (op_lenL sl_23 (Ty.lift _ hS18.ext r_a) rfl) rfl ?_
      refine WL.val (Value.bool (decide ((k3 : Int) < ((a).length : Int)))) _ (op_lss rfl rfl) rfl ?_
      have hl20 : (k3 : Int) < ((a).length : Int) := by omega
      refine WL.nil ?_
      show W _ _ _ _ _ _
      refine W.condT (decide ((k3 : Int) < ((a).length : Int))) rfl (decide_eq_true hl20) ?_
      refine W.skip ?_
      show W _ _ _ _ _ _
      refine W.seq ?_
      refine W.block ?_
      refine W.seq (W.region ?_)
      refine WL.val v_a _ (op_move hf13) rfl ?_
      refine WL.val (Value.int .i64 (k3 : Int)) _ (op_move hf16) rfl ?_
      obtain ⟨x22, hx25, hb9⟩ := bs hb9
      obtain ⟨ha23, hb24, hx25⟩ := idx_some hx25
      refine WL.val (Value.pointer (some (elA v_a ((k3 : Int)).toNat))) _ (op_idx sl_23 (Ty.lift _ hS18.ext r_a) rfl rfl ha23 hb24) rfl ?_
      obtain ⟨u26, hc27, hr28⟩ := repSl.el r_a hx25
      refine WL.val u26 _ (op_load one_27 rfl (Ext.cell hS18.ext hc27)) rfl ?_
      refine WL.val (Value.int .i64 x4) _ (op_move hf14) rfl ?_
      obtain ⟨x29, hx30, hb9⟩ := bs hb9
      refine WL.call _ (op_call fn_16 (args2 rfl rfl)) (c_laws_heldInt64SS (Ty.lift _ hS18.ext hr28) hr15 hx30) rfl ?_
      rintro _ wd32 ⟨rfl, hr31, he33⟩
      have hS35 := St.extend hS18 he33
      replace hS35 : St w wd32 [] := hS35
      refine WL.val (Value.int .i64 x29) _ (op_assign rfl) rfl ?_
      refine WL.nil ?_
      show W _ _ _ _ _ _
      refine W.seq (W.region ?_)
      refine WL.val (Value.int .i64 x29) _ (op_move rfl) rfl ?_
      refine WL.val (Value.bool (decide (x29 < (0 : Int)))) _ (op_lss rfl rfl) rfl ?_
      refine WL.nil ?_
      show W _ _ _ _ _ _
      refine W.cond (decide (x29 < (0 : Int))) rfl (fun hc36 => ?_) (fun hc36 => ?_)
      · replace hb9 := ip hb9 hc36
        refine W.seq (W.region ?_)
        refine WL.val (Value.int .i64 (-1 : Int)) _ (op_assign rfl) rfl ?_
        refine WL.nil ?_
        show W _ _ _ _ _ _
        refine W.ret ?_
        obtain rfl := Option.some.inj hb9
        obtain rfl := hret12 _ rfl
        replace h := onRes_ret h
        obtain rfl := Option.some.inj h
        show FinP _ _ _ _ _ _ _
        exact FinP.ret _ (res1 rfl rfl) ⟨rfl, (inR_i64.2 (show (-9223372036854775808 : Int) ≤ -1 ∧ (-1 : Int) ≤ 9223372036854775807 from by decide)), hS35.ext⟩
      · replace hb9 := inegb hb9 hc36
        refine W.skip ?_
        show W _ _ _ _ _ _
        refine W.region ?_
        refine WL.val (Value.int .i64 (k3 : Int)) _ (op_move hf16) rfl ?_
        refine WL.val (Value.int .i64 (w64 ((k3 : Int) + (1 : Int)))) _ (op_add rfl rfl) rfl ?_
        refine WL.val (Value.int .i64 (w64 ((k3 : Int) + (1 : Int)))) _ (op_assign rfl) rfl ?_
        refine WL.nil ?_
        obtain rfl := Option.some.inj hb9
        show ∃ s, _ = Ctl.next s ∧ _
        exact ⟨_, rfl, hf13, rfl, hr31, (ctr_next hl20 hr19), (ctr_rng hl20 hr19), hS35⟩
    · intro x44 f39 wd40 hs41 hI42
      replace hI42 : f39 0 = v_a ∧ f39 1 = Value.int .i64 x44 ∧ InR .i64 x44 ∧ f39 5 = Value.int .i64 (((a).length : Nat) : Int) ∧ InR .i64 (((a).length : Nat) : Int) ∧ St w wd40 [] := hI42
      obtain ⟨hf45, hf46, hr47, hf48, hr49, hS50⟩ := hI42
      refine W.seq (W.seq (W.region ?_))
      refine WL.val (Value.int .i64 (((a).length : Nat) : Int)) _ (op_move hf48) rfl ?_
      refine WL.val v_a _ (op_move hf45) rfl ?_
      have hr51 := inR_len (Ty.lift _ hS50.ext r_a)
      refine WL.val (Value.int .i64 ((a).length : Int)) _ (op_lenL sl_23 (Ty.lift _ hS50.ext r_a) rfl) rfl ?_
      refine WL.val (Value.bool (decide ((((a).length : Nat) : Int) < ((a).length : Int)))) _ (op_lss rfl rfl) rfl ?_
      have hl52 : ¬ (((a).length : Nat) : Int) < ((a).length : Int) := by omega
      refine WL.nil ?_
      show W _ _ _ _ _ _
      refine W.condF (decide ((((a).length : Nat) : Int) < ((a).length : Int))) rfl (decide_eq_false hl52) ?_
      refine W.exit ?_
      show _ = _ ∧ _
      exact ⟨rfl, _, hs41, hf46, hr47, hS50⟩
  · rintro f53 wd54 ⟨x57, rfl, hq55⟩
    replace h := onRes_fin h
    replace hq55 : f53 1 = Value.int .i64 x57 ∧ InR .i64 x57 ∧ St w wd54 [] := hq55
    obtain ⟨hf58, hr59, hS60⟩ := hq55
    show W _ _ _ _ _ _
    refine W.seq (W.region ?_)
    refine WL.val (Value.int .i64 x57) _ (op_move hf58) rfl ?_
    refine WL.val (Value.int .i64 x57) _ (op_assign rfl) rfl ?_
    refine WL.nil ?_
    show W _ _ _ _ _ _
    refine W.ret ?_
    obtain rfl := Option.some.inj h
    show FinP _ _ _ _ _ _ _
    exact FinP.ret _ (res1 rfl rfl) ⟨rfl, hr59, hS60.ext⟩

theorem c_laws_heldCocycle {w : World} {a_Orders : (List Int)} {v_a_Orders : Value} {a_Modulus : Int} {a_Values : (List (List (List Int)))} {v_a_Values : Value} {k1 : Int} (r_a_Orders : (Ty.sl (Ty.i .i64)).rep w v_a_Orders a_Orders) (r_a_Modulus : InR .i64 a_Modulus) (r_a_Values : (Ty.sl (Ty.sl (Ty.sl (Ty.i .i64)))).rep w v_a_Values a_Values) (r_k1 : InR .i64 k1) {res : Int} (h : p_laws_heldCocycle a_Orders a_Modulus a_Values k1  = some res) :
    Ret Try.prog 35 #[(Value.agg #[v_a_Orders, (Value.int .i64 a_Modulus), v_a_Values]), (Value.int .i64 k1)] w (fun v w' => v = Value.int .i64 res ∧ InR .i64 res ∧ Ext w w') := by
  unfold p_laws_heldCocycle at h
  have hS0 : St w w [] := St.start w
  refine Ret.start (fn := Try.f35) Try.func35 rfl 18 rfl rfl ?_
  refine W.seq (W.region ?_)
  refine WL.box hS0 rfl (cs := [v_a_Orders, (Value.int .i64 a_Modulus), v_a_Values]) rfl rfl ?_
  intro b1 wd2 hS3 he4 hx5
  replace hS3 : St w wd2 [bx b1 [v_a_Orders, (Value.int .i64 a_Modulus), v_a_Values]] := hS3
  have hx6 := St.boxAt hS3 0 rfl
  have hE7 : Ext w wd2 := hS3.ext
  have hS8 : St wd2 wd2 [] := St.start wd2
  refine WL.val (Value.int .i64 (0 : Int)) _ (op_assign rfl) rfl ?_
  refine WL.nil ?_
  show W _ _ _ _ _ _
  refine W.seq (W.region ?_)
  refine WL.val (Value.pointer (some ⟨b1, 0, none⟩)) _ (op_fieldAddr fd_30_0 rfl) rfl ?_
  refine WL.val v_a_Orders _ (op_load one_22 rfl (BoxAt.cell (BoxAt.lift hS8.ext hx6) rfl)) rfl ?_
  refine WL.val (Value.int .i64 k1) _ (op_move rfl) rfl ?_
  obtain ⟨x9, hx10, h⟩ := bs h
  refine WL.call _ (op_call fn_46 (args2 rfl rfl)) (c_laws_heldInt64S (Ty.lift _ (Ext.trans hE7 hS8.ext) r_a_Orders) r_k1 hx10) rfl ?_
  rintro _ wd12 ⟨rfl, hr11, he13⟩
  have hS15 := St.extend hS8 he13
  replace hS15 : St wd2 wd12 [] := hS15
  refine WL.val (Value.int .i64 x9) _ (op_assign rfl) rfl ?_
  refine WL.nil ?_
  show W _ _ _ _ _ _
  refine W.seq (W.seq (W.region ?_))
  refine WL.val (Value.int .i64 x9) _ (op_move rfl) rfl ?_
  refine WL.val (Value.bool (decide (x9 < (0 : Int)))) _ (op_lss rfl rfl) rfl ?_
  refine WL.nil ?_
  show W _ _ _ _ _ _
  refine W.cond (decide (x9 < (0 : Int))) rfl (fun hc16 => ?_) (fun hc16 => ?_)
  · replace h := ip h hc16
    refine W.seq (W.region ?_)
    refine WL.val (Value.int .i64 (-1 : Int)) _ (op_assign rfl) rfl ?_
    refine WL.nil ?_
    show W _ _ _ _ _ _
    refine W.ret ?_
    obtain rfl := Option.some.inj h
    show FinP _ _ _ _ _ _ _
    exact FinP.ret _ (res1 rfl rfl) ⟨rfl, (inR_i64.2 (show (-9223372036854775808 : Int) ≤ -1 ∧ (-1 : Int) ≤ 9223372036854775807 from by decide)), (Ext.trans hE7 hS15.ext)⟩
  · replace h := inegb h hc16
    refine W.skip ?_
    show W _ _ _ _ _ _
    refine W.seq (W.region ?_)
    refine WL.val (Value.pointer (some ⟨b1, 2, none⟩)) _ (op_fieldAddr fd_30_2 rfl) rfl ?_
    refine WL.val v_a_Values _ (op_load one_23 rfl (BoxAt.cell (BoxAt.lift hS15.ext hx6) rfl)) rfl ?_
    refine WL.val (Value.int .i64 x9) _ (op_move rfl) rfl ?_
    obtain ⟨x18, hx19, h⟩ := bs h
    refine WL.call _ (op_call fn_64 (args2 rfl rfl)) (c_laws_heldInt64SSS (Ty.lift _ (Ext.trans hE7 hS15.ext) r_a_Values) hr11 hx19) rfl ?_
    rintro _ wd21 ⟨rfl, hr20, he22⟩
    have hS24 := St.extend hS15 he22
    replace hS24 : St wd2 wd21 [] := hS24
    refine WL.val (Value.int .i64 x18) _ (op_assign rfl) rfl ?_
    refine WL.nil ?_
    show W _ _ _ _ _ _
    refine W.seq (W.seq (W.region ?_))
    refine WL.val (Value.int .i64 x18) _ (op_move rfl) rfl ?_
    refine WL.val (Value.bool (decide (x18 < (0 : Int)))) _ (op_lss rfl rfl) rfl ?_
    refine WL.nil ?_
    show W _ _ _ _ _ _
    refine W.cond (decide (x18 < (0 : Int))) rfl (fun hc25 => ?_) (fun hc25 => ?_)
    · replace h := ip h hc25
      refine W.seq (W.region ?_)
      refine WL.val (Value.int .i64 (-1 : Int)) _ (op_assign rfl) rfl ?_
      refine WL.nil ?_
      show W _ _ _ _ _ _
      refine W.ret ?_
      obtain rfl := Option.some.inj h
      show FinP _ _ _ _ _ _ _
      exact FinP.ret _ (res1 rfl rfl) ⟨rfl, (inR_i64.2 (show (-9223372036854775808 : Int) ≤ -1 ∧ (-1 : Int) ≤ 9223372036854775807 from by decide)), (Ext.trans hE7 hS24.ext)⟩
    · replace h := inegb h hc25
      refine W.skip ?_
      show W _ _ _ _ _ _
      refine W.seq (W.region ?_)
      refine WL.val (Value.int .i64 x18) _ (op_move rfl) rfl ?_
      refine WL.val (Value.int .i64 x18) _ (op_assign rfl) rfl ?_
      refine WL.nil ?_
      show W _ _ _ _ _ _
      refine W.ret ?_
      obtain rfl := Option.some.inj h
      show FinP _ _ _ _ _ _ _
      exact FinP.ret _ (res1 rfl rfl) ⟨rfl, hr20, (Ext.trans hE7 hS24.ext)⟩

theorem c_laws_heldBraiding {w : World} {a_Cocycle_Orders : (List Int)} {v_a_Cocycle_Orders : Value} {a_Cocycle_Modulus : Int} {a_Cocycle_Values : (List (List (List Int)))} {v_a_Cocycle_Values : Value} {a_Values : (List (List Int))} {v_a_Values : Value} {k1 : Int} (r_a_Cocycle_Orders : (Ty.sl (Ty.i .i64)).rep w v_a_Cocycle_Orders a_Cocycle_Orders) (r_a_Cocycle_Modulus : InR .i64 a_Cocycle_Modulus) (r_a_Cocycle_Values : (Ty.sl (Ty.sl (Ty.sl (Ty.i .i64)))).rep w v_a_Cocycle_Values a_Cocycle_Values) (r_a_Values : (Ty.sl (Ty.sl (Ty.i .i64))).rep w v_a_Values a_Values) (r_k1 : InR .i64 k1) {res : Int} (h : p_laws_heldBraiding a_Cocycle_Orders a_Cocycle_Modulus a_Cocycle_Values a_Values k1  = some res) :
    Ret Try.prog 30 #[(Value.agg #[v_a_Cocycle_Orders, (Value.int .i64 a_Cocycle_Modulus), v_a_Cocycle_Values, v_a_Values]), (Value.int .i64 k1)] w (fun v w' => v = Value.int .i64 res ∧ InR .i64 res ∧ Ext w w') := by
  unfold p_laws_heldBraiding at h
  have hS0 : St w w [] := St.start w
  refine Ret.start (fn := Try.f30) Try.func30 rfl 18 rfl rfl ?_
  refine W.seq (W.region ?_)
  refine WL.box hS0 rfl (cs := [v_a_Cocycle_Orders, (Value.int .i64 a_Cocycle_Modulus), v_a_Cocycle_Values, v_a_Values]) rfl rfl ?_
  intro b1 wd2 hS3 he4 hx5
  replace hS3 : St w wd2 [bx b1 [v_a_Cocycle_Orders, (Value.int .i64 a_Cocycle_Modulus), v_a_Cocycle_Values, v_a_Values]] := hS3
  have hx6 := St.boxAt hS3 0 rfl
  have hE7 : Ext w wd2 := hS3.ext
  have hS8 : St wd2 wd2 [] := St.start wd2
  refine WL.val (Value.int .i64 (0 : Int)) _ (op_assign rfl) rfl ?_
  refine WL.nil ?_
  show W _ _ _ _ _ _
  refine W.seq (W.region ?_)
  refine WL.val (Value.pointer (some ⟨b1, 0, none⟩)) _ (op_fieldAddr fd_42_0 rfl) rfl ?_
  refine WL.val (Value.agg #[v_a_Cocycle_Orders, (Value.int .i64 a_Cocycle_Modulus), v_a_Cocycle_Values]) _ (op_loadBox st_30 rfl (BoxAt.lift hS8.ext hx6) rfl rfl) rfl ?_
  refine WL.val (Value.int .i64 k1) _ (op_move rfl) rfl ?_
  obtain ⟨x9, hx10, h⟩ := bs h
  refine WL.call _ (op_call fn_35 (args2 rfl rfl)) (c_laws_heldCocycle (Ty.lift _ (Ext.trans hE7 hS8.ext) r_a_Cocycle_Orders) r_a_Cocycle_Modulus (Ty.lift _ (Ext.trans hE7 hS8.ext) r_a_Cocycle_Values) r_k1 hx10) rfl ?_
  rintro _ wd12 ⟨rfl, hr11, he13⟩
  have hS15 := St.extend hS8 he13
  replace hS15 : St wd2 wd12 [] := hS15
  refine WL.val (Value.int .i64 x9) _ (op_assign rfl) rfl ?_
  refine WL.nil ?_
  show W _ _ _ _ _ _
  refine W.seq (W.seq (W.region ?_))
  refine WL.val (Value.int .i64 x9) _ (op_move rfl) rfl ?_
  refine WL.val (Value.bool (decide (x9 < (0 : Int)))) _ (op_lss rfl rfl) rfl ?_
  refine WL.nil ?_
  show W _ _ _ _ _ _
  refine W.cond (decide (x9 < (0 : Int))) rfl (fun hc16 => ?_) (fun hc16 => ?_)
  · replace h := ip h hc16
    refine W.seq (W.region ?_)
    refine WL.val (Value.int .i64 (-1 : Int)) _ (op_assign rfl) rfl ?_
    refine WL.nil ?_
    show W _ _ _ _ _ _
    refine W.ret ?_
    obtain rfl := Option.some.inj h
    show FinP _ _ _ _ _ _ _
    exact FinP.ret _ (res1 rfl rfl) ⟨rfl, (inR_i64.2 (show (-9223372036854775808 : Int) ≤ -1 ∧ (-1 : Int) ≤ 9223372036854775807 from by decide)), (Ext.trans hE7 hS15.ext)⟩
  · replace h := inegb h hc16
    refine W.skip ?_
    show W _ _ _ _ _ _
    refine W.seq (W.region ?_)
    refine WL.val (Value.pointer (some ⟨b1, 3, none⟩)) _ (op_fieldAddr fd_42_1 rfl) rfl ?_
    refine WL.val v_a_Values _ (op_load one_27 rfl (BoxAt.cell (BoxAt.lift hS15.ext hx6) rfl)) rfl ?_
    refine WL.val (Value.int .i64 x9) _ (op_move rfl) rfl ?_
    obtain ⟨x18, hx19, h⟩ := bs h
    refine WL.call _ (op_call fn_16 (args2 rfl rfl)) (c_laws_heldInt64SS (Ty.lift _ (Ext.trans hE7 hS15.ext) r_a_Values) hr11 hx19) rfl ?_
    rintro _ wd21 ⟨rfl, hr20, he22⟩
    have hS24 := St.extend hS15 he22
    replace hS24 : St wd2 wd21 [] := hS24
    refine WL.val (Value.int .i64 x18) _ (op_assign rfl) rfl ?_
    refine WL.nil ?_
    show W _ _ _ _ _ _
    refine W.seq (W.seq (W.region ?_))
    refine WL.val (Value.int .i64 x18) _ (op_move rfl) rfl ?_
    refine WL.val (Value.bool (decide (x18 < (0 : Int)))) _ (op_lss rfl rfl) rfl ?_
    refine WL.nil ?_
    show W _ _ _ _ _ _
    refine W.cond (decide (x18 < (0 : Int))) rfl (fun hc25 => ?_) (fun hc25 => ?_)
    · replace h := ip h hc25
      refine W.seq (W.region ?_)
      refine WL.val (Value.int .i64 (-1 : Int)) _ (op_assign rfl) rfl ?_
      refine WL.nil ?_
      show W _ _ _ _ _ _
      refine W.ret ?_
      obtain rfl := Option.some.inj h
      show FinP _ _ _ _ _ _ _
      exact FinP.ret _ (res1 rfl rfl) ⟨rfl, (inR_i64.2 (show (-9223372036854775808 : Int) ≤ -1 ∧ (-1 : Int) ≤ 9223372036854775807 from by decide)), (Ext.trans hE7 hS24.ext)⟩
    · replace h := inegb h hc25
      refine W.skip ?_
      show W _ _ _ _ _ _
      refine W.seq (W.region ?_)
      refine WL.val (Value.int .i64 x18) _ (op_move rfl) rfl ?_
      refine WL.val (Value.int .i64 x18) _ (op_assign rfl) rfl ?_
      refine WL.nil ?_
      show W _ _ _ _ _ _
      refine W.ret ?_
      obtain rfl := Option.some.inj h
      show FinP _ _ _ _ _ _ _
      exact FinP.ret _ (res1 rfl rfl) ⟨rfl, hr20, (Ext.trans hE7 hS24.ext)⟩

theorem c_laws_FnExactCoboundaryBraiding {w : World} {aOrders : (List Int)} {v_aOrders : Value} {aM : Int} {aF : (List (List Int))} {v_aF : Value} (r_aOrders : (Ty.sl (Ty.i .i64)).rep w v_aOrders aOrders) (r_aM : InR .i64 aM) (r_aF : (Ty.sl (Ty.sl (Ty.i .i64))).rep w v_aF aF) {res : Bool} (h : p_laws_FnExactCoboundaryBraiding aOrders aM aF  = some res) :
    Ret Try.prog 5 #[v_aOrders, (Value.int .i64 aM), v_aF] w (fun v w' => v = Value.bool res ∧ Ext w w') := by
  unfold p_laws_FnExactCoboundaryBraiding at h
  have hS0 : St w w [] := St.start w
  refine Ret.start (fn := Try.f5) Try.func5 rfl 122 rfl rfl ?_
  refine W.seq (W.region ?_)
  refine WL.val (Value.bool false) _ (op_assign rfl) rfl ?_
  refine WL.nil ?_
  show W _ _ _ _ _ _
  refine W.seq (W.seq (W.region ?_))
  refine WL.val v_aOrders _ (op_move rfl) rfl ?_
  have hr1 := inR_len (Ty.lift _ hS0.ext r_aOrders)
  refine WL.val (Value.int .i64 ((aOrders).length : Int)) _ (op_lenL sl_22 (Ty.lift _ hS0.ext r_aOrders) rfl) rfl ?_
  refine WL.val (Value.bool (decide (((aOrders).length : Int) > (1048576 : Int)))) _ (op_gtr rfl rfl) rfl ?_
  refine WL.nil ?_
  show W _ _ _ _ _ _
  refine W.cond (decide (((aOrders).length : Int) > (1048576 : Int))) rfl (fun hc2 => ?_) (fun hc2 => ?_)
  · replace h := ip h hc2
    refine W.seq (W.region ?_)
    refine WL.val (Value.bool true) _ (op_assign rfl) rfl ?_
    refine WL.nil ?_
    show W _ _ _ _ _ _
    refine W.ret ?_
    obtain rfl := Option.some.inj h
    show FinP _ _ _ _ _ _ _
    exact FinP.ret _ (res1 rfl rfl) ⟨rfl, hS0.ext⟩
  · replace h := inegb h hc2
    refine W.skip ?_
    show W _ _ _ _ _ _
    refine W.seq (W.region ?_)
    refine WL.val (Value.int .i64 (1048576 : Int)) _ (op_assign rfl) rfl ?_
    refine WL.nil ?_
    show W _ _ _ _ _ _
    refine W.seq (W.region ?_)
    refine WL.val v_aF _ (op_move rfl) rfl ?_
    refine WL.val (Value.int .i64 (1048576 : Int)) _ (op_move rfl) rfl ?_
    obtain ⟨x4, hx5, h⟩ := bs h
    refine WL.call _ (op_call fn_22 (args2 rfl rfl)) (c_laws_szInt64SS (Ty.lift _ hS0.ext r_aF) (inR_i64.2 (show (-9223372036854775808 : Int) ≤ 1048576 ∧ (1048576 : Int) ≤ 9223372036854775807 from by decide)) hx5) rfl ?_
    rintro _ wd7 ⟨rfl, hr6, he8⟩
    have hS10 := St.extend hS0 he8
    replace hS10 : St w wd7 [] := hS10
    refine WL.val (Value.int .i64 x4) _ (op_assign rfl) rfl ?_
    refine WL.nil ?_
    show W _ _ _ _ _ _
    refine W.seq (W.seq (W.region ?_))
    refine WL.val (Value.int .i64 x4) _ (op_move rfl) rfl ?_
    refine WL.val (Value.bool (decide (x4 < (0 : Int)))) _ (op_lss rfl rfl) rfl ?_
    refine WL.nil ?_
    show W _ _ _ _ _ _
    refine W.cond (decide (x4 < (0 : Int))) rfl (fun hc11 => ?_) (fun hc11 => ?_)
    · replace h := ip h hc11
      refine W.seq (W.region ?_)
      refine WL.val (Value.bool true) _ (op_assign rfl) rfl ?_
      refine WL.nil ?_
      show W _ _ _ _ _ _
      refine W.ret ?_
      obtain rfl := Option.some.inj h
      show FinP _ _ _ _ _ _ _
      exact FinP.ret _ (res1 rfl rfl) ⟨rfl, hS10.ext⟩
    · replace h := inegb h hc11
      refine W.skip ?_
      show W _ _ _ _ _ _
      refine W.seq (W.region ?_)
      refine WL.val v_aOrders _ (op_move rfl) rfl ?_
      obtain ⟨x13, hx14, h⟩ := bs h
      refine WL.call _ (op_call fn_24 (args1 rfl)) (c_laws_toInt64S (Ty.lift _ hS10.ext r_aOrders) hx14) rfl ?_
      rintro u15 wd16 ⟨_, rfl, he17, hs18⟩
      have hS19 := St.join hS10 he17 hs18
      replace hS19 : St w wd16 [(Ty.sl (Ty.i .i64)).at u15 x13] := hS19
      have hb20 := St.rep (t := (Ty.sl (Ty.i .i64))) hS19 0 rfl
      have hE21 : Ext w wd16 := hS19.ext
      have hS22 : St wd16 wd16 [] := St.start wd16
      refine WL.val (Value.int .i64 aM) _ (op_move rfl) rfl ?_
      refine WL.val v_aF _ (op_move rfl) rfl ?_
      obtain ⟨x23, hx24, h⟩ := bs h
      refine WL.call _ (op_call fn_25 (args1 rfl)) (c_laws_toInt64SS (Ty.lift _ (Ext.trans hE21 hS22.ext) r_aF) hx24) rfl ?_
      rintro u25 wd26 ⟨_, rfl, he27, hs28⟩
      have hS29 := St.join hS22 he27 hs28
      replace hS29 : St wd16 wd26 [(Ty.sl (Ty.sl (Ty.i .i64))).at u25 x23] := hS29
      have hb30 := St.rep (t := (Ty.sl (Ty.sl (Ty.i .i64)))) hS29 0 rfl
      have hE31 : Ext w wd26 := (Ext.trans hE21 hS29.ext)
      have hE32 : Ext wd16 wd26 := hS29.ext
      have hS33 : St wd26 wd26 [] := St.start wd26
      obtain ⟨x34, hx35, h⟩ := bs h
      refine WL.call _ (op_call fn_23 (args3 rfl rfl rfl)) (c_spec_CoboundaryBraiding (Ty.lift _ (Ext.trans hE32 hS33.ext) hb20) r_aM (Ty.lift _ hS33.ext hb30) hx35) rfl ?_
      rintro _ wd41 ⟨u36, u38, u39, rfl, hr37, hr40, he42, hs43⟩
      have hS44 := St.join hS33 he42 hs43
      replace hS44 : St wd26 wd41 [(Ty.sl (Ty.i .i64)).at u36 x34.1, (Ty.sl (Ty.sl (Ty.sl (Ty.i .i64)))).at u38 x34.2.2.1, (Ty.sl (Ty.sl (Ty.i .i64))).at u39 x34.2.2.2.1] := hS44
      refine WL.val (Value.tuple #[(Value.agg #[u36, (Value.int .i64 x34.2.1), u38, u39]), (Value.int .i64 x34.2.2.2.2)]) _ (op_move rfl) rfl ?_
      refine WL.val (Value.agg #[u36, (Value.int .i64 x34.2.1), u38, u39]) _ (op_extract rfl rfl) rfl ?_
      refine WL.val (Value.int .i64 x34.2.2.2.2) _ (op_extract rfl rfl) rfl ?_
      refine WL.alloc hS44 ze_42 (cs := [(Value.slice none 0 0), (Value.int .i64 (0 : Int)), (Value.slice none 0 0), (Value.slice none 0 0)]) rfl rfl ?_
      intro b45 wd46 hS47 he48
      replace hS47 : St wd26 wd46 [(Ty.sl (Ty.i .i64)).at u36 x34.1, (Ty.sl (Ty.sl (Ty.sl (Ty.i .i64)))).at u38 x34.2.2.1, (Ty.sl (Ty.sl (Ty.i .i64))).at u39 x34.2.2.2.1, bx b45 [(Value.slice none 0 0), (Value.int .i64 (0 : Int)), (Value.slice none 0 0), (Value.slice none 0 0)]] := hS47
      refine WL.storeBox [u36, (Value.int .i64 x34.2.1), u38, u39] hS47 (k := 3) rfl rfl rfl (us := [u36, (Value.int .i64 x34.2.1), u38, u39]) rfl sz_42 rfl rfl (all_rep (St.rep (t := (Ty.sl (Ty.i .i64))) hS47 0 rfl) (all_cons rfl (all_rep (St.rep (t := (Ty.sl (Ty.sl (Ty.sl (Ty.i .i64))))) hS47 1 rfl) (all_rep (St.rep (t := (Ty.sl (Ty.sl (Ty.i .i64)))) hS47 2 rfl) all_nil)))) rfl ?_
      intro wd49 hS50
      replace hS50 : St wd26 wd49 [(Ty.sl (Ty.i .i64)).at u36 x34.1, (Ty.sl (Ty.sl (Ty.sl (Ty.i .i64)))).at u38 x34.2.2.1, (Ty.sl (Ty.sl (Ty.i .i64))).at u39 x34.2.2.2.1, bx b45 [u36, (Value.int .i64 x34.2.1), u38, u39]] := hS50
      refine WL.val (Value.int .i64 x34.2.2.2.2) _ (op_assign rfl) rfl ?_
      refine WL.nil ?_
      show W _ _ _ _ _ _
      refine W.seq (W.region ?_)
      refine WL.val v_aOrders _ (op_move rfl) rfl ?_
      obtain ⟨x51, hx52, h⟩ := bs h
      refine WL.call _ (op_call fn_24 (args1 rfl)) (c_laws_toInt64S (Ty.lift _ (Ext.trans hE31 hS50.ext) r_aOrders) hx52) rfl ?_
      rintro u53 wd54 ⟨_, rfl, he55, hs56⟩
      have hS57 := St.join hS50 he55 hs56
      replace hS57 : St wd26 wd54 [(Ty.sl (Ty.i .i64)).at u36 x34.1, (Ty.sl (Ty.sl (Ty.sl (Ty.i .i64)))).at u38 x34.2.2.1, (Ty.sl (Ty.sl (Ty.i .i64))).at u39 x34.2.2.2.1, bx b45 [u36, (Value.int .i64 x34.2.1), u38, u39], (Ty.sl (Ty.i .i64)).at u53 x51] := hS57
      refine WL.val u53 _ (op_assign rfl) rfl ?_
      refine WL.nil ?_
      show W _ _ _ _ _ _
      refine W.seq (W.region ?_)
      refine WL.val v_aF _ (op_move rfl) rfl ?_
      obtain ⟨x58, hx59, h⟩ := bs h
      refine WL.call _ (op_call fn_25 (args1 rfl)) (c_laws_toInt64SS (Ty.lift _ (Ext.trans hE31 hS57.ext) r_aF) hx59) rfl ?_
      rintro u60 wd61 ⟨_, rfl, he62, hs63⟩
      have hS64 := St.join hS57 he62 hs63
      replace hS64 : St wd26 wd61 [(Ty.sl (Ty.i .i64)).at u36 x34.1, (Ty.sl (Ty.sl (Ty.sl (Ty.i .i64)))).at u38 x34.2.2.1, (Ty.sl (Ty.sl (Ty.i .i64))).at u39 x34.2.2.2.1, bx b45 [u36, (Value.int .i64 x34.2.1), u38, u39], (Ty.sl (Ty.i .i64)).at u53 x51, (Ty.sl (Ty.sl (Ty.i .i64))).at u60 x58] := hS64
      refine WL.val u60 _ (op_assign rfl) rfl ?_
      refine WL.nil ?_
      show W _ _ _ _ _ _
      refine W.seq (W.region ?_)
      refine WL.val u53 _ (op_move rfl) rfl ?_
      refine WL.val (Value.int .i64 aM) _ (op_move rfl) rfl ?_
      refine WL.val u60 _ (op_move rfl) rfl ?_
      obtain ⟨x65, hx66, h⟩ := bs h
      refine WL.call _ (op_call fn_26 (args3 rfl rfl rfl)) (c_impl_CoboundaryBraiding (St.rep (t := (Ty.sl (Ty.i .i64))) hS64 4 rfl) r_aM (St.rep (t := (Ty.sl (Ty.sl (Ty.i .i64)))) hS64 5 rfl) hx66) rfl ?_
      rintro _ wd72 ⟨u67, u69, u70, rfl, hr68, hr71, he73, hs74⟩
      have hS75 := St.join hS64 he73 hs74
      replace hS75 : St wd26 wd72 [(Ty.sl (Ty.i .i64)).at u36 x34.1, (Ty.sl (Ty.sl (Ty.sl (Ty.i .i64)))).at u38 x34.2.2.1, (Ty.sl (Ty.sl (Ty.i .i64))).at u39 x34.2.2.2.1, bx b45 [u36, (Value.int .i64 x34.2.1), u38, u39], (Ty.sl (Ty.i .i64)).at u53 x51, (Ty.sl (Ty.sl (Ty.i .i64))).at u60 x58, (Ty.sl (Ty.i .i64)).at u67 x65.1, (Ty.sl (Ty.sl (Ty.sl (Ty.i .i64)))).at u69 x65.2.2.1, (Ty.sl (Ty.sl (Ty.i .i64))).at u70 x65.2.2.2.1] := hS75
      refine WL.val (Value.tuple #[(Value.agg #[u67, (Value.int .i64 x65.2.1), u69, u70]), (Value.int .i64 x65.2.2.2.2)]) _ (op_move rfl) rfl ?_
      refine WL.val (Value.agg #[u67, (Value.int .i64 x65.2.1), u69, u70]) _ (op_extract rfl rfl) rfl ?_
      refine WL.val (Value.int .i64 x65.2.2.2.2) _ (op_extract rfl rfl) rfl ?_
      refine WL.alloc hS75 ze_42 (cs := [(Value.slice none 0 0), (Value.int .i64 (0 : Int)), (Value.slice none 0 0), (Value.slice none 0 0)]) rfl rfl ?_
      intro b76 wd77 hS78 he79
      replace hS78 : St wd26 wd77 [(Ty.sl (Ty.i .i64)).at u36 x34.1, (Ty.sl (Ty.sl (Ty.sl (Ty.i .i64)))).at u38 x34.2.2.1, (Ty.sl (Ty.sl (Ty.i .i64))).at u39 x34.2.2.2.1, bx b45 [u36, (Value.int .i64 x34.2.1), u38, u39], (Ty.sl (Ty.i .i64)).at u53 x51, (Ty.sl (Ty.sl (Ty.i .i64))).at u60 x58, (Ty.sl (Ty.i .i64)).at u67 x65.1, (Ty.sl (Ty.sl (Ty.sl (Ty.i .i64)))).at u69 x65.2.2.1, (Ty.sl (Ty.sl (Ty.i .i64))).at u70 x65.2.2.2.1, bx b76 [(Value.slice none 0 0), (Value.int .i64 (0 : Int)), (Value.slice none 0 0), (Value.slice none 0 0)]] := hS78
      refine WL.storeBox [u67, (Value.int .i64 x65.2.1), u69, u70] hS78 (k := 9) rfl rfl rfl (us := [u67, (Value.int .i64 x65.2.1), u69, u70]) rfl sz_42 rfl rfl (all_rep (St.rep (t := (Ty.sl (Ty.i .i64))) hS78 6 rfl) (all_cons rfl (all_rep (St.rep (t := (Ty.sl (Ty.sl (Ty.sl (Ty.i .i64))))) hS78 7 rfl) (all_rep (St.rep (t := (Ty.sl (Ty.sl (Ty.i .i64)))) hS78 8 rfl) all_nil)))) rfl ?_
      intro wd80 hS81
      replace hS81 : St wd26 wd80 [(Ty.sl (Ty.i .i64)).at u36 x34.1, (Ty.sl (Ty.sl (Ty.sl (Ty.i .i64)))).at u38 x34.2.2.1, (Ty.sl (Ty.sl (Ty.i .i64))).at u39 x34.2.2.2.1, bx b45 [u36, (Value.int .i64 x34.2.1), u38, u39], (Ty.sl (Ty.i .i64)).at u53 x51, (Ty.sl (Ty.sl (Ty.i .i64))).at u60 x58, (Ty.sl (Ty.i .i64)).at u67 x65.1, (Ty.sl (Ty.sl (Ty.sl (Ty.i .i64)))).at u69 x65.2.2.1, (Ty.sl (Ty.sl (Ty.i .i64))).at u70 x65.2.2.2.1, bx b76 [u67, (Value.int .i64 x65.2.1), u69, u70]] := hS81
      refine WL.val (Value.int .i64 x65.2.2.2.2) _ (op_assign rfl) rfl ?_
      refine WL.nil ?_
      show W _ _ _ _ _ _
      refine W.seq (W.seq (W.region ?_))
      refine WL.val (Value.agg #[u67, (Value.int .i64 x65.2.1), u69, u70]) _ (op_loadBox st_42 rfl (St.boxAt hS81 9 rfl) rfl rfl) rfl ?_
      refine WL.val (Value.agg #[u36, (Value.int .i64 x34.2.1), u38, u39]) _ (op_loadBox st_42 rfl (St.boxAt hS81 3 rfl) rfl rfl) rfl ?_
      obtain ⟨x82, hx83, h⟩ := bs h
      refine WL.call _ (op_call fn_21 (args2 rfl rfl)) (c_laws_eqBraiding (St.rep (t := (Ty.sl (Ty.i .i64))) hS81 6 rfl) hr68 (St.rep (t := (Ty.sl (Ty.sl (Ty.sl (Ty.i .i64))))) hS81 7 rfl) (St.rep (t := (Ty.sl (Ty.sl (Ty.i .i64)))) hS81 8 rfl) (St.rep (t := (Ty.sl (Ty.i .i64))) hS81 0 rfl) hr37 (St.rep (t := (Ty.sl (Ty.sl (Ty.sl (Ty.i .i64))))) hS81 1 rfl) (St.rep (t := (Ty.sl (Ty.sl (Ty.i .i64)))) hS81 2 rfl) hx83) rfl ?_
      rintro _ wd84 ⟨rfl, he85⟩
      have hS87 := St.extend hS81 he85
      replace hS87 : St wd26 wd84 [(Ty.sl (Ty.i .i64)).at u36 x34.1, (Ty.sl (Ty.sl (Ty.sl (Ty.i .i64)))).at u38 x34.2.2.1, (Ty.sl (Ty.sl (Ty.i .i64))).at u39 x34.2.2.2.1, bx b45 [u36, (Value.int .i64 x34.2.1), u38, u39], (Ty.sl (Ty.i .i64)).at u53 x51, (Ty.sl (Ty.sl (Ty.i .i64))).at u60 x58, (Ty.sl (Ty.i .i64)).at u67 x65.1, (Ty.sl (Ty.sl (Ty.sl (Ty.i .i64)))).at u69 x65.2.2.1, (Ty.sl (Ty.sl (Ty.i .i64))).at u70 x65.2.2.2.1, bx b76 [u67, (Value.int .i64 x65.2.1), u69, u70]] := hS87
      refine WL.val (Value.bool (!x82)) _ (op_not rfl) rfl ?_
      refine WL.val (Value.bool (!x82)) _ (op_move rfl) rfl ?_
      refine WL.cut 4 (fun fq wq => fq 0 = v_aOrders ∧ fq 1 = (Value.int .i64 aM) ∧ fq 2 = v_aF ∧ fq 8 = (Value.pointer (some ⟨b45, 0, none⟩)) ∧ fq 9 = (Value.int .i64 x34.2.2.2.2) ∧ fq 10 = u53 ∧ fq 11 = u60 ∧ fq 12 = (Value.pointer (some ⟨b76, 0, none⟩)) ∧ fq 13 = (Value.int .i64 x65.2.2.2.2) ∧ fq 55 = (Value.bool ((!x82) || (x65.2.2.2.2 != x34.2.2.2.2))) ∧ St wd26 wq [(Ty.sl (Ty.i .i64)).at u36 x34.1, (Ty.sl (Ty.sl (Ty.sl (Ty.i .i64)))).at u38 x34.2.2.1, (Ty.sl (Ty.sl (Ty.i .i64))).at u39 x34.2.2.2.1, bx b45 [u36, (Value.int .i64 x34.2.1), u38, u39], (Ty.sl (Ty.i .i64)).at u53 x51, (Ty.sl (Ty.sl (Ty.i .i64))).at u60 x58, (Ty.sl (Ty.i .i64)).at u67 x65.1, (Ty.sl (Ty.sl (Ty.sl (Ty.i .i64)))).at u69 x65.2.2.1, (Ty.sl (Ty.sl (Ty.i .i64))).at u70 x65.2.2.2.1, bx b76 [u67, (Value.int .i64 x65.2.1), u69, u70]]) ?_ ?_
      · rcases Bool.eq_false_or_eq_true (!x82) with hc88 | hc88
        · refine WL.gskip rfl (bool_of rfl hc88) rfl ?_
          refine WL.gskip rfl (bool_of rfl hc88) rfl ?_
          refine WL.gskip rfl (bool_of rfl hc88) rfl ?_
          refine WL.val (Value.bool true) _ (op_pick_t (evb_of rfl hc88) rfl) rfl ?_
          refine WL.nil ?_
          exact ⟨rfl, rfl, rfl, rfl, rfl, rfl, rfl, rfl, rfl, rfl, (orT hc88), hS87⟩
        · refine WL.grun rfl (bool_of rfl hc88) ?_
          refine WL.val (Value.int .i64 x65.2.2.2.2) _ (op_move rfl) rfl ?_
          refine WL.grun rfl (bool_of rfl hc88) ?_
          refine WL.val (Value.int .i64 x34.2.2.2.2) _ (op_move rfl) rfl ?_
          refine WL.grun rfl (bool_of rfl hc88) ?_
          refine WL.val (Value.bool (x65.2.2.2.2 != x34.2.2.2.2)) _ (op_neq rfl rfl) rfl ?_
          refine WL.val (Value.bool (x65.2.2.2.2 != x34.2.2.2.2)) _ (op_pick_f (evb_of rfl hc88) rfl) rfl ?_
          refine WL.nil ?_
          exact ⟨rfl, rfl, rfl, rfl, rfl, rfl, rfl, rfl, rfl, rfl, (orF hc88), hS87⟩
      · intro f89 wd90 hq91
        obtain ⟨hf92, hf93, hf94, hf95, hf96, hf97, hf98, hf99, hf100, hf101, hS102⟩ := hq91
        refine WL.nil ?_
        show W _ _ _ _ _ _
        refine W.cond ((!x82) || (x65.2.2.2.2 != x34.2.2.2.2)) hf101 (fun hc103 => ?_) (fun hc103 => ?_)
        · replace h := ip h hc103
          refine W.seq (W.region ?_)
          refine WL.val (Value.bool false) _ (op_assign rfl) rfl ?_
          refine WL.nil ?_
          show W _ _ _ _ _ _
          refine W.ret ?_
          obtain rfl := Option.some.inj h
          show FinP _ _ _ _ _ _ _
          exact FinP.ret _ (res1 rfl rfl) ⟨rfl, (Ext.trans hE31 hS102.ext)⟩
        · replace h := inegb h hc103
          refine W.skip ?_
          show W _ _ _ _ _ _
          refine W.seq (W.seq (W.region ?_))
          refine WL.val u53 _ (op_move hf97) rfl ?_
          refine WL.val v_aOrders _ (op_move hf92) rfl ?_
          obtain ⟨x105, hx106, h⟩ := bs h
          refine WL.call _ (op_call fn_24 (args1 rfl)) (c_laws_toInt64S (Ty.lift _ (Ext.trans hE31 hS102.ext) r_aOrders) hx106) rfl ?_
          rintro u107 wd108 ⟨_, rfl, he109, hs110⟩
          have hS111 := St.join hS102 he109 hs110
          replace hS111 : St wd26 wd108 [(Ty.sl (Ty.i .i64)).at u36 x34.1, (Ty.sl (Ty.sl (Ty.sl (Ty.i .i64)))).at u38 x34.2.2.1, (Ty.sl (Ty.sl (Ty.i .i64))).at u39 x34.2.2.2.1, bx b45 [u36, (Value.int .i64 x34.2.1), u38, u39], (Ty.sl (Ty.i .i64)).at u53 x51, (Ty.sl (Ty.sl (Ty.i .i64))).at u60 x58, (Ty.sl (Ty.i .i64)).at u67 x65.1, (Ty.sl (Ty.sl (Ty.sl (Ty.i .i64)))).at u69 x65.2.2.1, (Ty.sl (Ty.sl (Ty.i .i64))).at u70 x65.2.2.2.1, bx b76 [u67, (Value.int .i64 x65.2.1), u69, u70], (Ty.sl (Ty.i .i64)).at u107 x105] := hS111
          obtain ⟨x112, hx113, h⟩ := bs h
          refine WL.call _ (op_call fn_27 (args2 rfl rfl)) (c_laws_eqInt64S (St.rep (t := (Ty.sl (Ty.i .i64))) hS111 4 rfl) (St.rep (t := (Ty.sl (Ty.i .i64))) hS111 10 rfl) hx113) rfl ?_
          rintro _ wd114 ⟨rfl, he115⟩
          have hS117 := St.extend hS111 he115
          replace hS117 : St wd26 wd114 [(Ty.sl (Ty.i .i64)).at u36 x34.1, (Ty.sl (Ty.sl (Ty.sl (Ty.i .i64)))).at u38 x34.2.2.1, (Ty.sl (Ty.sl (Ty.i .i64))).at u39 x34.2.2.2.1, bx b45 [u36, (Value.int .i64 x34.2.1), u38, u39], (Ty.sl (Ty.i .i64)).at u53 x51, (Ty.sl (Ty.sl (Ty.i .i64))).at u60 x58, (Ty.sl (Ty.i .i64)).at u67 x65.1, (Ty.sl (Ty.sl (Ty.sl (Ty.i .i64)))).at u69 x65.2.2.1, (Ty.sl (Ty.sl (Ty.i .i64))).at u70 x65.2.2.2.1, bx b76 [u67, (Value.int .i64 x65.2.1), u69, u70], (Ty.sl (Ty.i .i64)).at u107 x105] := hS117
          refine WL.val (Value.bool (!x112)) _ (op_not rfl) rfl ?_
          refine WL.nil ?_
          show W _ _ _ _ _ _
          refine W.cond (!x112) rfl (fun hc118 => ?_) (fun hc118 => ?_)
          · replace h := ip h hc118
            refine W.seq (W.region ?_)
            refine WL.val (Value.bool false) _ (op_assign rfl) rfl ?_
            refine WL.nil ?_
            show W _ _ _ _ _ _
            refine W.ret ?_
            obtain rfl := Option.some.inj h
            show FinP _ _ _ _ _ _ _
            exact FinP.ret _ (res1 rfl rfl) ⟨rfl, (Ext.trans hE31 hS117.ext)⟩
          · replace h := inegb h hc118
            refine W.skip ?_
            show W _ _ _ _ _ _
            refine W.seq (W.seq (W.region ?_))
            refine WL.val u60 _ (op_move hf98) rfl ?_
            refine WL.val v_aF _ (op_move hf94) rfl ?_
            obtain ⟨x120, hx121, h⟩ := bs h
            refine WL.call _ (op_call fn_25 (args1 rfl)) (c_laws_toInt64SS (Ty.lift _ (Ext.trans hE31 hS117.ext) r_aF) hx121) rfl ?_
            rintro u122 wd123 ⟨_, rfl, he124, hs125⟩
            have hS126 := St.join hS117 he124 hs125
            replace hS126 : St wd26 wd123 [(Ty.sl (Ty.i .i64)).at u36 x34.1, (Ty.sl (Ty.sl (Ty.sl (Ty.i .i64)))).at u38 x34.2.2.1, (Ty.sl (Ty.sl (Ty.i .i64))).at u39 x34.2.2.2.1, bx b45 [u36, (Value.int .i64 x34.2.1), u38, u39], (Ty.sl (Ty.i .i64)).at u53 x51, (Ty.sl (Ty.sl (Ty.i .i64))).at u60 x58, (Ty.sl (Ty.i .i64)).at u67 x65.1, (Ty.sl (Ty.sl (Ty.sl (Ty.i .i64)))).at u69 x65.2.2.1, (Ty.sl (Ty.sl (Ty.i .i64))).at u70 x65.2.2.2.1, bx b76 [u67, (Value.int .i64 x65.2.1), u69, u70], (Ty.sl (Ty.i .i64)).at u107 x105, (Ty.sl (Ty.sl (Ty.i .i64))).at u122 x120] := hS126
            obtain ⟨x127, hx128, h⟩ := bs h
            refine WL.call _ (op_call fn_12 (args2 rfl rfl)) (c_laws_eqInt64SS (St.rep (t := (Ty.sl (Ty.sl (Ty.i .i64)))) hS126 5 rfl) (St.rep (t := (Ty.sl (Ty.sl (Ty.i .i64)))) hS126 11 rfl) hx128) rfl ?_
            rintro _ wd129 ⟨rfl, he130⟩
            have hS132 := St.extend hS126 he130
            replace hS132 : St wd26 wd129 [(Ty.sl (Ty.i .i64)).at u36 x34.1, (Ty.sl (Ty.sl (Ty.sl (Ty.i .i64)))).at u38 x34.2.2.1, (Ty.sl (Ty.sl (Ty.i .i64))).at u39 x34.2.2.2.1, bx b45 [u36, (Value.int .i64 x34.2.1), u38, u39], (Ty.sl (Ty.i .i64)).at u53 x51, (Ty.sl (Ty.sl (Ty.i .i64))).at u60 x58, (Ty.sl (Ty.i .i64)).at u67 x65.1, (Ty.sl (Ty.sl (Ty.sl (Ty.i .i64)))).at u69 x65.2.2.1, (Ty.sl (Ty.sl (Ty.i .i64))).at u70 x65.2.2.2.1, bx b76 [u67, (Value.int .i64 x65.2.1), u69, u70], (Ty.sl (Ty.i .i64)).at u107 x105, (Ty.sl (Ty.sl (Ty.i .i64))).at u122 x120] := hS132
            refine WL.val (Value.bool (!x127)) _ (op_not rfl) rfl ?_
            refine WL.nil ?_
            show W _ _ _ _ _ _
            refine W.cond (!x127) rfl (fun hc133 => ?_) (fun hc133 => ?_)
            · replace h := ip h hc133
              refine W.seq (W.region ?_)
              refine WL.val (Value.bool false) _ (op_assign rfl) rfl ?_
              refine WL.nil ?_
              show W _ _ _ _ _ _
              refine W.ret ?_
              obtain rfl := Option.some.inj h
              show FinP _ _ _ _ _ _ _
              exact FinP.ret _ (res1 rfl rfl) ⟨rfl, (Ext.trans hE31 hS132.ext)⟩
            · replace h := inegb h hc133
              refine W.skip ?_
              show W _ _ _ _ _ _
              refine W.seq (W.region ?_)
              refine WL.val (Value.int .i64 (1 : Int)) _ (op_assign rfl) rfl ?_
              refine WL.nil ?_
              show W _ _ _ _ _ _
              refine W.seq (W.region ?_)
              refine WL.val u53 _ (op_move hf97) rfl ?_
              refine WL.val (Value.int .i64 (1 : Int)) _ (op_move rfl) rfl ?_
              obtain ⟨x135, hx136, h⟩ := bs h
              have hS137 := St.fold [(Ty.sl (Ty.i .i64)).at u53 x51] [(Ty.sl (Ty.i .i64)).at u36 x34.1, (Ty.sl (Ty.sl (Ty.sl (Ty.i .i64)))).at u38 x34.2.2.1, (Ty.sl (Ty.sl (Ty.i .i64))).at u39 x34.2.2.2.1, bx b45 [u36, (Value.int .i64 x34.2.1), u38, u39], (Ty.sl (Ty.sl (Ty.i .i64))).at u60 x58, (Ty.sl (Ty.i .i64)).at u67 x65.1, (Ty.sl (Ty.sl (Ty.sl (Ty.i .i64)))).at u69 x65.2.2.1, (Ty.sl (Ty.sl (Ty.i .i64))).at u70 x65.2.2.2.1, bx b76 [u67, (Value.int .i64 x65.2.1), u69, u70], (Ty.sl (Ty.i .i64)).at u107 x105, (Ty.sl (Ty.sl (Ty.i .i64))).at u122 x120] (St.pick hS132 [4, 0, 1, 2, 3, 5, 6, 7, 8, 9, 10, 11] rfl)
              refine WL.call _ (op_call fn_28 (args2 rfl rfl)) (c_laws_markInt64S hS137 (inR_i64.2 (show (-9223372036854775808 : Int) ≤ 1 ∧ (1 : Int) ≤ 9223372036854775807 from by decide)) hx136) rfl ?_
              rintro _ wd140 ⟨rfl, hr141, hS138⟩
              have hS139 := St.pick (St.unfold [(Ty.sl (Ty.i .i64)).at u53 x135.2] [(Ty.sl (Ty.i .i64)).at u36 x34.1, (Ty.sl (Ty.sl (Ty.sl (Ty.i .i64)))).at u38 x34.2.2.1, (Ty.sl (Ty.sl (Ty.i .i64))).at u39 x34.2.2.2.1, bx b45 [u36, (Value.int .i64 x34.2.1), u38, u39], (Ty.sl (Ty.sl (Ty.i .i64))).at u60 x58, (Ty.sl (Ty.i .i64)).at u67 x65.1, (Ty.sl (Ty.sl (Ty.sl (Ty.i .i64)))).at u69 x65.2.2.1, (Ty.sl (Ty.sl (Ty.i .i64))).at u70 x65.2.2.2.1, bx b76 [u67, (Value.int .i64 x65.2.1), u69, u70], (Ty.sl (Ty.i .i64)).at u107 x105, (Ty.sl (Ty.sl (Ty.i .i64))).at u122 x120] hS138) [1, 2, 3, 4, 0, 5, 6, 7, 8, 9, 10, 11] rfl
              replace hS139 : St wd26 wd140 [(Ty.sl (Ty.i .i64)).at u36 x34.1, (Ty.sl (Ty.sl (Ty.sl (Ty.i .i64)))).at u38 x34.2.2.1, (Ty.sl (Ty.sl (Ty.i .i64))).at u39 x34.2.2.2.1, bx b45 [u36, (Value.int .i64 x34.2.1), u38, u39], (Ty.sl (Ty.i .i64)).at u53 x135.2, (Ty.sl (Ty.sl (Ty.i .i64))).at u60 x58, (Ty.sl (Ty.i .i64)).at u67 x65.1, (Ty.sl (Ty.sl (Ty.sl (Ty.i .i64)))).at u69 x65.2.2.1, (Ty.sl (Ty.sl (Ty.i .i64))).at u70 x65.2.2.2.1, bx b76 [u67, (Value.int .i64 x65.2.1), u69, u70], (Ty.sl (Ty.i .i64)).at u107 x105, (Ty.sl (Ty.sl (Ty.i .i64))).at u122 x120] := hS139
              refine WL.val (Value.int .i64 x135.1) _ (op_assign rfl) rfl ?_
              refine WL.nil ?_
              show W _ _ _ _ _ _
              refine W.seq (W.region ?_)
              refine WL.val u60 _ (op_move hf98) rfl ?_
              refine WL.val (Value.int .i64 x135.1) _ (op_move rfl) rfl ?_
              obtain ⟨x142, hx143, h⟩ := bs h
              have hS144 := St.fold [(Ty.sl (Ty.sl (Ty.i .i64))).at u60 x58] [(Ty.sl (Ty.i .i64)).at u36 x34.1, (Ty.sl (Ty.sl (Ty.sl (Ty.i .i64)))).at u38 x34.2.2.1, (Ty.sl (Ty.sl (Ty.i .i64))).at u39 x34.2.2.2.1, bx b45 [u36, (Value.int .i64 x34.2.1), u38, u39], (Ty.sl (Ty.i .i64)).at u53 x135.2, (Ty.sl (Ty.i .i64)).at u67 x65.1, (Ty.sl (Ty.sl (Ty.sl (Ty.i .i64)))).at u69 x65.2.2.1, (Ty.sl (Ty.sl (Ty.i .i64))).at u70 x65.2.2.2.1, bx b76 [u67, (Value.int .i64 x65.2.1), u69, u70], (Ty.sl (Ty.i .i64)).at u107 x105, (Ty.sl (Ty.sl (Ty.i .i64))).at u122 x120] (St.pick hS139 [5, 0, 1, 2, 3, 4, 6, 7, 8, 9, 10, 11] rfl)
              refine WL.call _ (op_call fn_15 (args2 rfl rfl)) (c_laws_markInt64SS hS144 hr141 hx143) rfl ?_
              rintro _ wd147 ⟨rfl, hr148, hS145⟩
              have hS146 := St.pick (St.unfold [(Ty.sl (Ty.sl (Ty.i .i64))).at u60 x142.2] [(Ty.sl (Ty.i .i64)).at u36 x34.1, (Ty.sl (Ty.sl (Ty.sl (Ty.i .i64)))).at u38 x34.2.2.1, (Ty.sl (Ty.sl (Ty.i .i64))).at u39 x34.2.2.2.1, bx b45 [u36, (Value.int .i64 x34.2.1), u38, u39], (Ty.sl (Ty.i .i64)).at u53 x135.2, (Ty.sl (Ty.i .i64)).at u67 x65.1, (Ty.sl (Ty.sl (Ty.sl (Ty.i .i64)))).at u69 x65.2.2.1, (Ty.sl (Ty.sl (Ty.i .i64))).at u70 x65.2.2.2.1, bx b76 [u67, (Value.int .i64 x65.2.1), u69, u70], (Ty.sl (Ty.i .i64)).at u107 x105, (Ty.sl (Ty.sl (Ty.i .i64))).at u122 x120] hS145) [1, 2, 3, 4, 5, 0, 6, 7, 8, 9, 10, 11] rfl
              replace hS146 : St wd26 wd147 [(Ty.sl (Ty.i .i64)).at u36 x34.1, (Ty.sl (Ty.sl (Ty.sl (Ty.i .i64)))).at u38 x34.2.2.1, (Ty.sl (Ty.sl (Ty.i .i64))).at u39 x34.2.2.2.1, bx b45 [u36, (Value.int .i64 x34.2.1), u38, u39], (Ty.sl (Ty.i .i64)).at u53 x135.2, (Ty.sl (Ty.sl (Ty.i .i64))).at u60 x142.2, (Ty.sl (Ty.i .i64)).at u67 x65.1, (Ty.sl (Ty.sl (Ty.sl (Ty.i .i64)))).at u69 x65.2.2.1, (Ty.sl (Ty.sl (Ty.i .i64))).at u70 x65.2.2.2.1, bx b76 [u67, (Value.int .i64 x65.2.1), u69, u70], (Ty.sl (Ty.i .i64)).at u107 x105, (Ty.sl (Ty.sl (Ty.i .i64))).at u122 x120] := hS146
              refine WL.val (Value.int .i64 x142.1) _ (op_assign rfl) rfl ?_
              refine WL.nil ?_
              show W _ _ _ _ _ _
              refine W.seq (W.seq (W.region ?_))
              refine WL.val (Value.int .i64 x142.1) _ (op_move rfl) rfl ?_
              refine WL.val (Value.bool (decide (x142.1 < (0 : Int)))) _ (op_lss rfl rfl) rfl ?_
              refine WL.val (Value.bool (decide (x142.1 < (0 : Int)))) _ (op_move rfl) rfl ?_
              obtain ⟨x150, hj151, h⟩ := bs h
              refine WL.cut 5 (fun fq wq => fq 0 = v_aOrders ∧ fq 1 = (Value.int .i64 aM) ∧ fq 2 = v_aF ∧ fq 8 = (Value.pointer (some ⟨b45, 0, none⟩)) ∧ fq 9 = (Value.int .i64 x34.2.2.2.2) ∧ fq 12 = (Value.pointer (some ⟨b76, 0, none⟩)) ∧ fq 13 = (Value.int .i64 x65.2.2.2.2) ∧ fq 79 = Value.bool x150 ∧ St wd26 wq [(Ty.sl (Ty.i .i64)).at u36 x34.1, (Ty.sl (Ty.sl (Ty.sl (Ty.i .i64)))).at u38 x34.2.2.1, (Ty.sl (Ty.sl (Ty.i .i64))).at u39 x34.2.2.2.1, bx b45 [u36, (Value.int .i64 x34.2.1), u38, u39], (Ty.sl (Ty.i .i64)).at u67 x65.1, (Ty.sl (Ty.sl (Ty.sl (Ty.i .i64)))).at u69 x65.2.2.1, (Ty.sl (Ty.sl (Ty.i .i64))).at u70 x65.2.2.2.1, bx b76 [u67, (Value.int .i64 x65.2.1), u69, u70]]) ?_ ?_
              · rcases Bool.eq_false_or_eq_true (decide (x142.1 < (0 : Int))) with hc149 | hc149
                · replace hj151 := ip hj151 hc149
                  refine WL.gskip rfl (bool_of rfl hc149) rfl ?_
                  refine WL.gskip rfl (bool_of rfl hc149) rfl ?_
                  refine WL.gskip rfl (bool_of rfl hc149) rfl ?_
                  refine WL.gskip rfl (bool_of rfl hc149) rfl ?_
                  refine WL.val (Value.bool true) _ (op_pick_t (evb_of rfl hc149) rfl) rfl ?_
                  refine WL.nil ?_
                  obtain rfl := Option.some.inj hj151
                  exact ⟨rfl, hf92, hf93, hf94, hf95, hf96, hf99, hf100, rfl, (St.pick hS146 [0, 1, 2, 3, 6, 7, 8, 9] rfl)⟩
                · replace hj151 := inegb hj151 hc149
                  refine WL.grun rfl (bool_of rfl hc149) ?_
                  refine WL.val (Value.agg #[u67, (Value.int .i64 x65.2.1), u69, u70]) _ (op_loadBox st_42 hf99 (St.boxAt hS146 9 rfl) rfl rfl) rfl ?_
                  refine WL.grun rfl (bool_of rfl hc149) ?_
                  refine WL.val (Value.agg #[u36, (Value.int .i64 x34.2.1), u38, u39]) _ (op_loadBox st_42 hf95 (St.boxAt hS146 3 rfl) rfl rfl) rfl ?_
                  refine WL.grun rfl (bool_of rfl hc149) ?_
                  obtain ⟨x155, hx156, hj151⟩ := bs hj151
                  refine WL.call _ (op_call fn_21 (args2 rfl rfl)) (c_laws_eqBraiding (St.rep (t := (Ty.sl (Ty.i .i64))) hS146 6 rfl) hr68 (St.rep (t := (Ty.sl (Ty.sl (Ty.sl (Ty.i .i64))))) hS146 7 rfl) (St.rep (t := (Ty.sl (Ty.sl (Ty.i .i64)))) hS146 8 rfl) (St.rep (t := (Ty.sl (Ty.i .i64))) hS146 0 rfl) hr37 (St.rep (t := (Ty.sl (Ty.sl (Ty.sl (Ty.i .i64))))) hS146 1 rfl) (St.rep (t := (Ty.sl (Ty.sl (Ty.i .i64)))) hS146 2 rfl) hx156) rfl ?_
                  rintro _ wd157 ⟨rfl, he158⟩
                  have hS160 := St.extend hS146 he158
                  replace hS160 : St wd26 wd157 [(Ty.sl (Ty.i .i64)).at u36 x34.1, (Ty.sl (Ty.sl (Ty.sl (Ty.i .i64)))).at u38 x34.2.2.1, (Ty.sl (Ty.sl (Ty.i .i64))).at u39 x34.2.2.2.1, bx b45 [u36, (Value.int .i64 x34.2.1), u38, u39], (Ty.sl (Ty.i .i64)).at u53 x135.2, (Ty.sl (Ty.sl (Ty.i .i64))).at u60 x142.2, (Ty.sl (Ty.i .i64)).at u67 x65.1, (Ty.sl (Ty.sl (Ty.sl (Ty.i .i64)))).at u69 x65.2.2.1, (Ty.sl (Ty.sl (Ty.i .i64))).at u70 x65.2.2.2.1, bx b76 [u67, (Value.int .i64 x65.2.1), u69, u70], (Ty.sl (Ty.i .i64)).at u107 x105, (Ty.sl (Ty.sl (Ty.i .i64))).at u122 x120] := hS160
                  refine WL.grun rfl (bool_of rfl hc149) ?_
                  refine WL.val (Value.bool (!x155)) _ (op_not rfl) rfl ?_
                  refine WL.val (Value.bool (!x155)) _ (op_pick_f (evb_of rfl hc149) rfl) rfl ?_
                  refine WL.nil ?_
                  obtain rfl := Option.some.inj hj151
                  exact ⟨rfl, hf92, hf93, hf94, hf95, hf96, hf99, hf100, rfl, (St.pick hS160 [0, 1, 2, 3, 6, 7, 8, 9] rfl)⟩
              · intro f152 wd153 hq154
                obtain ⟨hf161, hf162, hf163, hf164, hf165, hf166, hf167, hf168, hS169⟩ := hq154
                refine WL.val (Value.bool x150) _ (op_move hf168) rfl ?_
                refine WL.cut 4 (fun fq wq => fq 0 = v_aOrders ∧ fq 1 = (Value.int .i64 aM) ∧ fq 2 = v_aF ∧ fq 8 = (Value.pointer (some ⟨b45, 0, none⟩)) ∧ fq 9 = (Value.int .i64 x34.2.2.2.2) ∧ fq 12 = (Value.pointer (some ⟨b76, 0, none⟩)) ∧ fq 84 = (Value.bool (x150 || (x65.2.2.2.2 != x34.2.2.2.2))) ∧ St wd26 wq [(Ty.sl (Ty.i .i64)).at u36 x34.1, (Ty.sl (Ty.sl (Ty.sl (Ty.i .i64)))).at u38 x34.2.2.1, (Ty.sl (Ty.sl (Ty.i .i64))).at u39 x34.2.2.2.1, bx b45 [u36, (Value.int .i64 x34.2.1), u38, u39], (Ty.sl (Ty.i .i64)).at u67 x65.1, (Ty.sl (Ty.sl (Ty.sl (Ty.i .i64)))).at u69 x65.2.2.1, (Ty.sl (Ty.sl (Ty.i .i64))).at u70 x65.2.2.2.1, bx b76 [u67, (Value.int .i64 x65.2.1), u69, u70]]) ?_ ?_
                · rcases Bool.eq_false_or_eq_true x150 with hc170 | hc170
                  · refine WL.gskip rfl (bool_of rfl hc170) rfl ?_
                    refine WL.gskip rfl (bool_of rfl hc170) rfl ?_
                    refine WL.gskip rfl (bool_of rfl hc170) rfl ?_
                    refine WL.val (Value.bool true) _ (op_pick_t (evb_of rfl hc170) rfl) rfl ?_
                    refine WL.nil ?_
                    exact ⟨rfl, hf161, hf162, hf163, hf164, hf165, hf166, (orT hc170), hS169⟩
                  · refine WL.grun rfl (bool_of rfl hc170) ?_
                    refine WL.val (Value.int .i64 x65.2.2.2.2) _ (op_move hf167) rfl ?_
                    refine WL.grun rfl (bool_of rfl hc170) ?_
                    refine WL.val (Value.int .i64 x34.2.2.2.2) _ (op_move hf165) rfl ?_
                    refine WL.grun rfl (bool_of rfl hc170) ?_
                    refine WL.val (Value.bool (x65.2.2.2.2 != x34.2.2.2.2)) _ (op_neq rfl rfl) rfl ?_
                    refine WL.val (Value.bool (x65.2.2.2.2 != x34.2.2.2.2)) _ (op_pick_f (evb_of rfl hc170) rfl) rfl ?_
                    refine WL.nil ?_
                    exact ⟨rfl, hf161, hf162, hf163, hf164, hf165, hf166, (orF hc170), hS169⟩
                · intro f171 wd172 hq173
                  obtain ⟨hf174, hf175, hf176, hf177, hf178, hf179, hf180, hS181⟩ := hq173
                  refine WL.nil ?_
                  show W _ _ _ _ _ _
                  refine W.cond (x150 || (x65.2.2.2.2 != x34.2.2.2.2)) hf180 (fun hc182 => ?_) (fun hc182 => ?_)
                  · replace h := ip h hc182
                    refine W.seq (W.region ?_)
                    refine WL.val (Value.bool false) _ (op_assign rfl) rfl ?_
                    refine WL.nil ?_
                    show W _ _ _ _ _ _
                    refine W.ret ?_
                    obtain rfl := Option.some.inj h
                    show FinP _ _ _ _ _ _ _
                    exact FinP.ret _ (res1 rfl rfl) ⟨rfl, (Ext.trans hE31 hS181.ext)⟩
                  · replace h := inegb h hc182
                    refine W.skip ?_
                    show W _ _ _ _ _ _
                    refine W.seq (W.region ?_)
                    refine WL.val (Value.int .i64 (1 : Int)) _ (op_assign rfl) rfl ?_
                    refine WL.nil ?_
                    show W _ _ _ _ _ _
                    refine W.seq (W.region ?_)
                    refine WL.val (Value.agg #[u67, (Value.int .i64 x65.2.1), u69, u70]) _ (op_loadBox st_42 hf179 (St.boxAt hS181 7 rfl) rfl rfl) rfl ?_
                    refine WL.val (Value.int .i64 (1 : Int)) _ (op_move rfl) rfl ?_
                    obtain ⟨x184, hx185, h⟩ := bs h
                    have hS186 := St.fold [(Ty.sl (Ty.i .i64)).at u67 x65.1, (Ty.sl (Ty.sl (Ty.sl (Ty.i .i64)))).at u69 x65.2.2.1, (Ty.sl (Ty.sl (Ty.i .i64))).at u70 x65.2.2.2.1] [(Ty.sl (Ty.i .i64)).at u36 x34.1, (Ty.sl (Ty.sl (Ty.sl (Ty.i .i64)))).at u38 x34.2.2.1, (Ty.sl (Ty.sl (Ty.i .i64))).at u39 x34.2.2.2.1, bx b45 [u36, (Value.int .i64 x34.2.1), u38, u39], bx b76 [u67, (Value.int .i64 x65.2.1), u69, u70]] (St.pick hS181 [4, 5, 6, 0, 1, 2, 3, 7] rfl)
                    refine WL.call _ (op_call fn_29 (args2 rfl rfl)) (c_laws_markBraiding hS186 hr68 (inR_i64.2 (show (-9223372036854775808 : Int) ≤ 1 ∧ (1 : Int) ≤ 9223372036854775807 from by decide)) hx185) rfl ?_
                    rintro _ wd189 ⟨rfl, hr190, hS187⟩
                    have hS188 := St.pick (St.unfold [(Ty.sl (Ty.i .i64)).at u67 x184.2.1, (Ty.sl (Ty.sl (Ty.sl (Ty.i .i64)))).at u69 x184.2.2.1, (Ty.sl (Ty.sl (Ty.i .i64))).at u70 x184.2.2.2] [(Ty.sl (Ty.i .i64)).at u36 x34.1, (Ty.sl (Ty.sl (Ty.sl (Ty.i .i64)))).at u38 x34.2.2.1, (Ty.sl (Ty.sl (Ty.i .i64))).at u39 x34.2.2.2.1, bx b45 [u36, (Value.int .i64 x34.2.1), u38, u39], bx b76 [u67, (Value.int .i64 x65.2.1), u69, u70]] hS187) [3, 4, 5, 6, 0, 1, 2, 7] rfl
                    replace hS188 : St wd26 wd189 [(Ty.sl (Ty.i .i64)).at u36 x34.1, (Ty.sl (Ty.sl (Ty.sl (Ty.i .i64)))).at u38 x34.2.2.1, (Ty.sl (Ty.sl (Ty.i .i64))).at u39 x34.2.2.2.1, bx b45 [u36, (Value.int .i64 x34.2.1), u38, u39], (Ty.sl (Ty.i .i64)).at u67 x184.2.1, (Ty.sl (Ty.sl (Ty.sl (Ty.i .i64)))).at u69 x184.2.2.1, (Ty.sl (Ty.sl (Ty.i .i64))).at u70 x184.2.2.2, bx b76 [u67, (Value.int .i64 x65.2.1), u69, u70]] := hS188
                    refine WL.val (Value.int .i64 x184.1) _ (op_assign rfl) rfl ?_
                    refine WL.nil ?_
                    show W _ _ _ _ _ _
                    refine W.seq (W.region ?_)
                    refine WL.val (Value.int .i64 (1 : Int)) _ (op_assign rfl) rfl ?_
                    refine WL.nil ?_
                    show W _ _ _ _ _ _
                    refine W.seq (W.region ?_)
                    refine WL.val (Value.agg #[u67, (Value.int .i64 x65.2.1), u69, u70]) _ (op_loadBox st_42 hf179 (St.boxAt hS188 7 rfl) rfl rfl) rfl ?_
                    refine WL.val (Value.int .i64 (1 : Int)) _ (op_move rfl) rfl ?_
                    obtain ⟨x191, hx192, h⟩ := bs h
                    refine WL.call _ (op_call fn_30 (args2 rfl rfl)) (c_laws_heldBraiding (St.rep (t := (Ty.sl (Ty.i .i64))) hS188 4 rfl) hr68 (St.rep (t := (Ty.sl (Ty.sl (Ty.sl (Ty.i .i64))))) hS188 5 rfl) (St.rep (t := (Ty.sl (Ty.sl (Ty.i .i64)))) hS188 6 rfl) (inR_i64.2 (show (-9223372036854775808 : Int) ≤ 1 ∧ (1 : Int) ≤ 9223372036854775807 from by decide)) hx192) rfl ?_
                    rintro _ wd194 ⟨rfl, hr193, he195⟩
                    have hS197 := St.extend hS188 he195
                    replace hS197 : St wd26 wd194 [(Ty.sl (Ty.i .i64)).at u36 x34.1, (Ty.sl (Ty.sl (Ty.sl (Ty.i .i64)))).at u38 x34.2.2.1, (Ty.sl (Ty.sl (Ty.i .i64))).at u39 x34.2.2.2.1, bx b45 [u36, (Value.int .i64 x34.2.1), u38, u39], (Ty.sl (Ty.i .i64)).at u67 x184.2.1, (Ty.sl (Ty.sl (Ty.sl (Ty.i .i64)))).at u69 x184.2.2.1, (Ty.sl (Ty.sl (Ty.i .i64))).at u70 x184.2.2.2, bx b76 [u67, (Value.int .i64 x65.2.1), u69, u70]] := hS197
                    refine WL.val (Value.int .i64 x191) _ (op_assign rfl) rfl ?_
                    refine WL.nil ?_
                    show W _ _ _ _ _ _
                    refine W.seq (W.seq (W.region ?_))
                    refine WL.val (Value.int .i64 x191) _ (op_move rfl) rfl ?_
                    refine WL.val (Value.bool (decide (x191 < (0 : Int)))) _ (op_lss rfl rfl) rfl ?_
                    refine WL.nil ?_
                    show W _ _ _ _ _ _
                    refine W.cond (decide (x191 < (0 : Int))) rfl (fun hc198 => ?_) (fun hc198 => ?_)
                    · replace h := ip h hc198
                      refine W.seq (W.region ?_)
                      refine WL.val (Value.bool false) _ (op_assign rfl) rfl ?_
                      refine WL.nil ?_
                      show W _ _ _ _ _ _
                      refine W.ret ?_
                      obtain rfl := Option.some.inj h
                      show FinP _ _ _ _ _ _ _
                      exact FinP.ret _ (res1 rfl rfl) ⟨rfl, (Ext.trans hE31 hS197.ext)⟩
                    · replace h := inegb h hc198
                      refine W.skip ?_
                      show W _ _ _ _ _ _
                      refine W.seq (W.seq (W.region ?_))
                      refine WL.val (Value.int .i64 x191) _ (op_move rfl) rfl ?_
                      refine WL.val (Value.int .i64 x184.1) _ (op_move rfl) rfl ?_
                      refine WL.val (Value.bool (x191 != x184.1)) _ (op_neq rfl rfl) rfl ?_
                      refine WL.nil ?_
                      show W _ _ _ _ _ _
                      refine W.cond (x191 != x184.1) rfl (fun hc200 => ?_) (fun hc200 => ?_)
                      · replace h := ip h hc200
                        refine W.seq (W.region ?_)
                        refine WL.val (Value.bool false) _ (op_assign rfl) rfl ?_
                        refine WL.nil ?_
                        show W _ _ _ _ _ _
                        refine W.ret ?_
                        obtain rfl := Option.some.inj h
                        show FinP _ _ _ _ _ _ _
                        exact FinP.ret _ (res1 rfl rfl) ⟨rfl, (Ext.trans hE31 hS197.ext)⟩
                      · replace h := inegb h hc200
                        refine W.skip ?_
                        show W _ _ _ _ _ _
                        refine W.seq (W.region ?_)
                        refine WL.val v_aOrders _ (op_move hf174) rfl ?_
                        obtain ⟨x202, hx203, h⟩ := bs h
                        refine WL.call _ (op_call fn_24 (args1 rfl)) (c_laws_toInt64S (Ty.lift _ (Ext.trans hE31 hS197.ext) r_aOrders) hx203) rfl ?_
                        rintro u204 wd205 ⟨_, rfl, he206, hs207⟩
                        have hS208 := St.join hS197 he206 hs207
                        replace hS208 : St wd26 wd205 [(Ty.sl (Ty.i .i64)).at u36 x34.1, (Ty.sl (Ty.sl (Ty.sl (Ty.i .i64)))).at u38 x34.2.2.1, (Ty.sl (Ty.sl (Ty.i .i64))).at u39 x34.2.2.2.1, bx b45 [u36, (Value.int .i64 x34.2.1), u38, u39], (Ty.sl (Ty.i .i64)).at u67 x184.2.1, (Ty.sl (Ty.sl (Ty.sl (Ty.i .i64)))).at u69 x184.2.2.1, (Ty.sl (Ty.sl (Ty.i .i64))).at u70 x184.2.2.2, bx b76 [u67, (Value.int .i64 x65.2.1), u69, u70], (Ty.sl (Ty.i .i64)).at u204 x202] := hS208
                        refine WL.val (Value.int .i64 aM) _ (op_move hf175) rfl ?_
                        refine WL.val v_aF _ (op_move hf176) rfl ?_
                        obtain ⟨x209, hx210, h⟩ := bs h
                        refine WL.call _ (op_call fn_25 (args1 rfl)) (c_laws_toInt64SS (Ty.lift _ (Ext.trans hE31 hS208.ext) r_aF) hx210) rfl ?_
                        rintro u211 wd212 ⟨_, rfl, he213, hs214⟩
                        have hS215 := St.join hS208 he213 hs214
                        replace hS215 : St wd26 wd212 [(Ty.sl (Ty.i .i64)).at u36 x34.1, (Ty.sl (Ty.sl (Ty.sl (Ty.i .i64)))).at u38 x34.2.2.1, (Ty.sl (Ty.sl (Ty.i .i64))).at u39 x34.2.2.2.1, bx b45 [u36, (Value.int .i64 x34.2.1), u38, u39], (Ty.sl (Ty.i .i64)).at u67 x184.2.1, (Ty.sl (Ty.sl (Ty.sl (Ty.i .i64)))).at u69 x184.2.2.1, (Ty.sl (Ty.sl (Ty.i .i64))).at u70 x184.2.2.2, bx b76 [u67, (Value.int .i64 x65.2.1), u69, u70], (Ty.sl (Ty.i .i64)).at u204 x202, (Ty.sl (Ty.sl (Ty.i .i64))).at u211 x209] := hS215
                        obtain ⟨x216, hx217, h⟩ := bs h
                        refine WL.call _ (op_call fn_26 (args3 rfl rfl rfl)) (c_impl_CoboundaryBraiding (St.rep (t := (Ty.sl (Ty.i .i64))) hS215 8 rfl) r_aM (St.rep (t := (Ty.sl (Ty.sl (Ty.i .i64)))) hS215 9 rfl) hx217) rfl ?_
                        rintro _ wd223 ⟨u218, u220, u221, rfl, hr219, hr222, he224, hs225⟩
                        have hS226 := St.join hS215 he224 hs225
                        replace hS226 : St wd26 wd223 [(Ty.sl (Ty.i .i64)).at u36 x34.1, (Ty.sl (Ty.sl (Ty.sl (Ty.i .i64)))).at u38 x34.2.2.1, (Ty.sl (Ty.sl (Ty.i .i64))).at u39 x34.2.2.2.1, bx b45 [u36, (Value.int .i64 x34.2.1), u38, u39], (Ty.sl (Ty.i .i64)).at u67 x184.2.1, (Ty.sl (Ty.sl (Ty.sl (Ty.i .i64)))).at u69 x184.2.2.1, (Ty.sl (Ty.sl (Ty.i .i64))).at u70 x184.2.2.2, bx b76 [u67, (Value.int .i64 x65.2.1), u69, u70], (Ty.sl (Ty.i .i64)).at u204 x202, (Ty.sl (Ty.sl (Ty.i .i64))).at u211 x209, (Ty.sl (Ty.i .i64)).at u218 x216.1, (Ty.sl (Ty.sl (Ty.sl (Ty.i .i64)))).at u220 x216.2.2.1, (Ty.sl (Ty.sl (Ty.i .i64))).at u221 x216.2.2.2.1] := hS226
                        refine WL.val (Value.tuple #[(Value.agg #[u218, (Value.int .i64 x216.2.1), u220, u221]), (Value.int .i64 x216.2.2.2.2)]) _ (op_move rfl) rfl ?_
                        refine WL.val (Value.agg #[u218, (Value.int .i64 x216.2.1), u220, u221]) _ (op_extract rfl rfl) rfl ?_
                        refine WL.val (Value.int .i64 x216.2.2.2.2) _ (op_extract rfl rfl) rfl ?_
                        refine WL.alloc hS226 ze_42 (cs := [(Value.slice none 0 0), (Value.int .i64 (0 : Int)), (Value.slice none 0 0), (Value.slice none 0 0)]) rfl rfl ?_
                        intro b227 wd228 hS229 he230
                        replace hS229 : St wd26 wd228 [(Ty.sl (Ty.i .i64)).at u36 x34.1, (Ty.sl (Ty.sl (Ty.sl (Ty.i .i64)))).at u38 x34.2.2.1, (Ty.sl (Ty.sl (Ty.i .i64))).at u39 x34.2.2.2.1, bx b45 [u36, (Value.int .i64 x34.2.1), u38, u39], (Ty.sl (Ty.i .i64)).at u67 x184.2.1, (Ty.sl (Ty.sl (Ty.sl (Ty.i .i64)))).at u69 x184.2.2.1, (Ty.sl (Ty.sl (Ty.i .i64))).at u70 x184.2.2.2, bx b76 [u67, (Value.int .i64 x65.2.1), u69, u70], (Ty.sl (Ty.i .i64)).at u204 x202, (Ty.sl (Ty.sl (Ty.i .i64))).at u211 x209, (Ty.sl (Ty.i .i64)).at u218 x216.1, (Ty.sl (Ty.sl (Ty.sl (Ty.i .i64)))).at u220 x216.2.2.1, (Ty.sl (Ty.sl (Ty.i .i64))).at u221 x216.2.2.2.1, bx b227 [(Value.slice none 0 0), (Value.int .i64 (0 : Int)), (Value.slice none 0 0), (Value.slice none 0 0)]] := hS229
                        refine WL.storeBox [u218, (Value.int .i64 x216.2.1), u220, u221] hS229 (k := 13) rfl rfl rfl (us := [u218, (Value.int .i64 x216.2.1), u220, u221]) rfl sz_42 rfl rfl (all_rep (St.rep (t := (Ty.sl (Ty.i .i64))) hS229 10 rfl) (all_cons rfl (all_rep (St.rep (t := (Ty.sl (Ty.sl (Ty.sl (Ty.i .i64))))) hS229 11 rfl) (all_rep (St.rep (t := (Ty.sl (Ty.sl (Ty.i .i64)))) hS229 12 rfl) all_nil)))) rfl ?_
                        intro wd231 hS232
                        replace hS232 : St wd26 wd231 [(Ty.sl (Ty.i .i64)).at u36 x34.1, (Ty.sl (Ty.sl (Ty.sl (Ty.i .i64)))).at u38 x34.2.2.1, (Ty.sl (Ty.sl (Ty.i .i64))).at u39 x34.2.2.2.1, bx b45 [u36, (Value.int .i64 x34.2.1), u38, u39], (Ty.sl (Ty.i .i64)).at u67 x184.2.1, (Ty.sl (Ty.sl (Ty.sl (Ty.i .i64)))).at u69 x184.2.2.1, (Ty.sl (Ty.sl (Ty.i .i64))).at u70 x184.2.2.2, bx b76 [u67, (Value.int .i64 x65.2.1), u69, u70], (Ty.sl (Ty.i .i64)).at u204 x202, (Ty.sl (Ty.sl (Ty.i .i64))).at u211 x209, (Ty.sl (Ty.i .i64)).at u218 x216.1, (Ty.sl (Ty.sl (Ty.sl (Ty.i .i64)))).at u220 x216.2.2.1, (Ty.sl (Ty.sl (Ty.i .i64))).at u221 x216.2.2.2.1, bx b227 [u218, (Value.int .i64 x216.2.1), u220, u221]] := hS232
                        refine WL.val (Value.int .i64 x216.2.2.2.2) _ (op_assign rfl) rfl ?_
                        refine WL.nil ?_
                        show W _ _ _ _ _ _
                        refine W.seq (W.seq (W.region ?_))
                        refine WL.val (Value.agg #[u218, (Value.int .i64 x216.2.1), u220, u221]) _ (op_loadBox st_42 rfl (St.boxAt hS232 13 rfl) rfl rfl) rfl ?_
                        refine WL.val (Value.agg #[u36, (Value.int .i64 x34.2.1), u38, u39]) _ (op_loadBox st_42 hf177 (St.boxAt hS232 3 rfl) rfl rfl) rfl ?_
                        obtain ⟨x233, hx234, h⟩ := bs h
                        refine WL.call _ (op_call fn_21 (args2 rfl rfl)) (c_laws_eqBraiding (St.rep (t := (Ty.sl (Ty.i .i64))) hS232 10 rfl) hr219 (St.rep (t := (Ty.sl (Ty.sl (Ty.sl (Ty.i .i64))))) hS232 11 rfl) (St.rep (t := (Ty.sl (Ty.sl (Ty.i .i64)))) hS232 12 rfl) (St.rep (t := (Ty.sl (Ty.i .i64))) hS232 0 rfl) hr37 (St.rep (t := (Ty.sl (Ty.sl (Ty.sl (Ty.i .i64))))) hS232 1 rfl) (St.rep (t := (Ty.sl (Ty.sl (Ty.i .i64)))) hS232 2 rfl) hx234) rfl ?_
                        rintro _ wd235 ⟨rfl, he236⟩
                        have hS238 := St.extend hS232 he236
                        replace hS238 : St wd26 wd235 [(Ty.sl (Ty.i .i64)).at u36 x34.1, (Ty.sl (Ty.sl (Ty.sl (Ty.i .i64)))).at u38 x34.2.2.1, (Ty.sl (Ty.sl (Ty.i .i64))).at u39 x34.2.2.2.1, bx b45 [u36, (Value.int .i64 x34.2.1), u38, u39], (Ty.sl (Ty.i .i64)).at u67 x184.2.1, (Ty.sl (Ty.sl (Ty.sl (Ty.i .i64)))).at u69 x184.2.2.1, (Ty.sl (Ty.sl (Ty.i .i64))).at u70 x184.2.2.2, bx b76 [u67, (Value.int .i64 x65.2.1), u69, u70], (Ty.sl (Ty.i .i64)).at u204 x202, (Ty.sl (Ty.sl (Ty.i .i64))).at u211 x209, (Ty.sl (Ty.i .i64)).at u218 x216.1, (Ty.sl (Ty.sl (Ty.sl (Ty.i .i64)))).at u220 x216.2.2.1, (Ty.sl (Ty.sl (Ty.i .i64))).at u221 x216.2.2.2.1, bx b227 [u218, (Value.int .i64 x216.2.1), u220, u221]] := hS238
                        refine WL.val (Value.bool (!x233)) _ (op_not rfl) rfl ?_
                        refine WL.val (Value.bool (!x233)) _ (op_move rfl) rfl ?_
                        refine WL.cut 4 (fun fq wq => fq 12 = (Value.pointer (some ⟨b76, 0, none⟩)) ∧ fq 15 = (Value.int .i64 x184.1) ∧ fq 113 = (Value.bool ((!x233) || (x216.2.2.2.2 != x34.2.2.2.2))) ∧ St wd26 wq [(Ty.sl (Ty.i .i64)).at u67 x184.2.1, (Ty.sl (Ty.sl (Ty.sl (Ty.i .i64)))).at u69 x184.2.2.1, (Ty.sl (Ty.sl (Ty.i .i64))).at u70 x184.2.2.2, bx b76 [u67, (Value.int .i64 x65.2.1), u69, u70]]) ?_ ?_
                        · rcases Bool.eq_false_or_eq_true (!x233) with hc239 | hc239
                          · refine WL.gskip rfl (bool_of rfl hc239) rfl ?_
                            refine WL.gskip rfl (bool_of rfl hc239) rfl ?_
                            refine WL.gskip rfl (bool_of rfl hc239) rfl ?_
                            refine WL.val (Value.bool true) _ (op_pick_t (evb_of rfl hc239) rfl) rfl ?_
                            refine WL.nil ?_
                            exact ⟨rfl, hf179, rfl, (orT hc239), (St.pick hS238 [4, 5, 6, 7] rfl)⟩
                          · refine WL.grun rfl (bool_of rfl hc239) ?_
                            refine WL.val (Value.int .i64 x216.2.2.2.2) _ (op_move rfl) rfl ?_
                            refine WL.grun rfl (bool_of rfl hc239) ?_
                            refine WL.val (Value.int .i64 x34.2.2.2.2) _ (op_move hf178) rfl ?_
                            refine WL.grun rfl (bool_of rfl hc239) ?_
                            refine WL.val (Value.bool (x216.2.2.2.2 != x34.2.2.2.2)) _ (op_neq rfl rfl) rfl ?_
                            refine WL.val (Value.bool (x216.2.2.2.2 != x34.2.2.2.2)) _ (op_pick_f (evb_of rfl hc239) rfl) rfl ?_
                            refine WL.nil ?_
                            exact ⟨rfl, hf179, rfl, (orF hc239), (St.pick hS238 [4, 5, 6, 7] rfl)⟩
                        · intro f240 wd241 hq242
                          obtain ⟨hf243, hf244, hf245, hS246⟩ := hq242
                          refine WL.nil ?_
                          show W _ _ _ _ _ _
                          refine W.cond ((!x233) || (x216.2.2.2.2 != x34.2.2.2.2)) hf245 (fun hc247 => ?_) (fun hc247 => ?_)
                          · replace h := ip h hc247
                            refine W.seq (W.region ?_)
                            refine WL.val (Value.bool false) _ (op_assign rfl) rfl ?_
                            refine WL.nil ?_
                            show W _ _ _ _ _ _
                            refine W.ret ?_
                            obtain rfl := Option.some.inj h
                            show FinP _ _ _ _ _ _ _
                            exact FinP.ret _ (res1 rfl rfl) ⟨rfl, (Ext.trans hE31 hS246.ext)⟩
                          · replace h := inegb h hc247
                            refine W.skip ?_
                            show W _ _ _ _ _ _
                            refine W.seq (W.region ?_)
                            refine WL.val (Value.int .i64 (1 : Int)) _ (op_assign rfl) rfl ?_
                            refine WL.nil ?_
                            show W _ _ _ _ _ _
                            refine W.seq (W.region ?_)
                            refine WL.val (Value.agg #[u67, (Value.int .i64 x65.2.1), u69, u70]) _ (op_loadBox st_42 hf243 (St.boxAt hS246 3 rfl) rfl rfl) rfl ?_
                            refine WL.val (Value.int .i64 (1 : Int)) _ (op_move rfl) rfl ?_
                            obtain ⟨x249, hx250, h⟩ := bs h
                            refine WL.call _ (op_call fn_30 (args2 rfl rfl)) (c_laws_heldBraiding (St.rep (t := (Ty.sl (Ty.i .i64))) hS246 0 rfl) hr68 (St.rep (t := (Ty.sl (Ty.sl (Ty.sl (Ty.i .i64))))) hS246 1 rfl) (St.rep (t := (Ty.sl (Ty.sl (Ty.i .i64)))) hS246 2 rfl) (inR_i64.2 (show (-9223372036854775808 : Int) ≤ 1 ∧ (1 : Int) ≤ 9223372036854775807 from by decide)) hx250) rfl ?_
                            rintro _ wd252 ⟨rfl, hr251, he253⟩
                            have hS255 := St.extend hS246 he253
                            replace hS255 : St wd26 wd252 [(Ty.sl (Ty.i .i64)).at u67 x184.2.1, (Ty.sl (Ty.sl (Ty.sl (Ty.i .i64)))).at u69 x184.2.2.1, (Ty.sl (Ty.sl (Ty.i .i64))).at u70 x184.2.2.2, bx b76 [u67, (Value.int .i64 x65.2.1), u69, u70]] := hS255
                            refine WL.val (Value.int .i64 x249) _ (op_assign rfl) rfl ?_
                            refine WL.nil ?_
                            show W _ _ _ _ _ _
                            refine W.seq (W.seq (W.region ?_))
                            refine WL.val (Value.int .i64 x249) _ (op_move rfl) rfl ?_
                            refine WL.val (Value.bool (decide (x249 < (0 : Int)))) _ (op_lss rfl rfl) rfl ?_
                            refine WL.nil ?_
                            show W _ _ _ _ _ _
                            refine W.cond (decide (x249 < (0 : Int))) rfl (fun hc256 => ?_) (fun hc256 => ?_)
                            · replace h := ip h hc256
                              refine W.seq (W.region ?_)
                              refine WL.val (Value.bool false) _ (op_assign rfl) rfl ?_
                              refine WL.nil ?_
                              show W _ _ _ _ _ _
                              refine W.ret ?_
                              obtain rfl := Option.some.inj h
                              show FinP _ _ _ _ _ _ _
                              exact FinP.ret _ (res1 rfl rfl) ⟨rfl, (Ext.trans hE31 hS255.ext)⟩
                            · replace h := inegb h hc256
                              refine W.skip ?_
                              show W _ _ _ _ _ _
                              refine W.seq (W.seq (W.region ?_))
                              refine WL.val (Value.int .i64 x249) _ (op_move rfl) rfl ?_
                              refine WL.val (Value.int .i64 x184.1) _ (op_move hf244) rfl ?_
                              refine WL.val (Value.bool (x249 != x184.1)) _ (op_neq rfl rfl) rfl ?_
                              refine WL.nil ?_
                              show W _ _ _ _ _ _
                              refine W.cond (x249 != x184.1) rfl (fun hc258 => ?_) (fun hc258 => ?_)
                              · replace h := ip h hc258
                                refine W.seq (W.region ?_)
                                refine WL.val (Value.bool false) _ (op_assign rfl) rfl ?_
                                refine WL.nil ?_
                                show W _ _ _ _ _ _
                                refine W.ret ?_
                                obtain rfl := Option.some.inj h
                                show FinP _ _ _ _ _ _ _
                                exact FinP.ret _ (res1 rfl rfl) ⟨rfl, (Ext.trans hE31 hS255.ext)⟩
                              · replace h := inegb h hc258
                                refine W.skip ?_
                                show W _ _ _ _ _ _
                                refine W.seq (W.region ?_)
                                refine WL.val (Value.bool true) _ (op_assign rfl) rfl ?_
                                refine WL.nil ?_
                                show W _ _ _ _ _ _
                                refine W.ret ?_
                                obtain rfl := Option.some.inj h
                                show FinP _ _ _ _ _ _ _
                                exact FinP.ret _ (res1 rfl rfl) ⟨rfl, (Ext.trans hE31 hS255.ext)⟩

end Go.VG
