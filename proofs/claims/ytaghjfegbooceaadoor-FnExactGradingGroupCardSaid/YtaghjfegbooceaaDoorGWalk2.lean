/- The walks, part 2: each Go function returns what its plain twin returns. No condition beyond what each names. -/
import Derived.Test.YtaghjfegbooceaaDoorGWalk1
set_option linter.all false
namespace Go.VG
open Go.Proofs
attribute [local irreducible] W WL Sep FinP

theorem c_slices_ContainsFunc_Lint64_int64 {w : World} {s1 : (List Int)} {v_s1 : Value} {f1 : Int → Option Bool} {v_f1 : Value} (r_s1 : (Ty.sl (Ty.i .i64)).rep w v_s1 s1) (r_f1 : FnT_i_to_b Tryd.prog v_f1 w f1) {res : Bool} (h : p_slices_ContainsFunc_Lint64_int64 s1 f1  = some res) :
    Ret Tryd.prog 86 #[v_s1, v_f1] w (fun v w' => v = Value.bool res ∧ Ext w w') := by
  unfold p_slices_ContainsFunc_Lint64_int64 at h
  have hS0 : St w w [] := St.start w
  have q_f1 := r_f1
  obtain ⟨g_f1, fst_f1, cap_f1, eq_f1, ok_f1, call_f1⟩ := q_f1
  subst eq_f1
  refine Ret.start (fn := Tryd.f86) Tryd.func86 rfl 9 rfl rfl ?_
  refine W.seq (W.region ?_)
  refine WL.val (Value.bool false) _ (op_assign rfl) rfl ?_
  refine WL.nil ?_
  refine W.seq (W.region ?_)
  refine WL.val v_s1 _ (op_move rfl) rfl ?_
  refine WL.val (Value.func (.func g_f1) fst_f1 cap_f1) _ (op_move rfl) rfl ?_
  obtain ⟨x1, hx2, h⟩ := bs h
  refine WL.call _ (op_call fn_89 (args2 rfl rfl)) (c_slices_IndexFunc_Lint64_int64 (Ty.lift _ hS0.ext r_s1) (FnT_i_to_b.lift hS0.ext r_f1) hx2) rfl ?_
  rintro _ wd4 ⟨rfl, hr3, he5⟩
  have hS7 := St.extend hS0 he5
  replace hS7 : St w wd4 [] := hS7
  refine WL.val (Value.bool (decide (x1 ≥ (0 : Int)))) _ (op_geq rfl rfl) rfl ?_
  refine WL.val (Value.bool (decide (x1 ≥ (0 : Int)))) _ (op_assign rfl) rfl ?_
  refine WL.nil ?_
  refine W.ret ?_
  obtain rfl := Option.some.inj h
  show FinP _ _ _ _ _ _ _
  exact FinP.ret _ (res1 rfl rfl) ⟨rfl, hS7.ext⟩

theorem c_impl_allWithin {w : World} {list : (List Int)} {v_list : Value} {low : Int} {high : Int} (r_list : (Ty.sl (Ty.i .i64)).rep w v_list list) (r_low : InR .i64 low) (r_high : InR .i64 high) {res : Bool} (h : p_impl_allWithin list low high  = some res) :
    Ret Tryd.prog 80 #[v_list, (Value.int .i64 low), (Value.int .i64 high)] w (fun v w' => v = Value.bool res ∧ Ext w w') := by
  unfold p_impl_allWithin at h
  have hS0 : St w w [] := St.start w
  refine Ret.start (fn := Tryd.f80) Tryd.func80 rfl 11 rfl rfl ?_
  refine W.seq (W.region ?_)
  refine WL.box hS0 rfl (cs := [(Value.int .i64 low)]) rfl rfl ?_
  intro b1 wd2 hS3 he4 hx5
  replace hS3 : St w wd2 [bx b1 [(Value.int .i64 low)]] := hS3
  have hx6 := St.boxAt hS3 0 rfl
  have hE7 : Ext w wd2 := hS3.ext
  have hS8 : St wd2 wd2 [] := St.start wd2
  refine WL.box hS8 rfl (cs := [(Value.int .i64 high)]) rfl rfl ?_
  intro b9 wd10 hS11 he12 hx13
  replace hS11 : St wd2 wd10 [bx b9 [(Value.int .i64 high)]] := hS11
  have hx14 := St.boxAt hS11 0 rfl
  have hE15 : Ext w wd10 := (Ext.trans hE7 hS11.ext)
  have hE16 : Ext wd2 wd10 := hS11.ext
  have hS17 : St wd10 wd10 [] := St.start wd10
  refine WL.val (Value.bool false) _ (op_assign rfl) rfl ?_
  refine WL.nil ?_
  refine W.seq (W.region ?_)
  refine WL.val v_list _ (op_move rfl) rfl ?_
  refine WL.val (Value.func (.func 87) #[] #[(Value.pointer (some ⟨b1, 0, none⟩)), (Value.pointer (some ⟨b9, 0, none⟩))]) _ (op_makeFunc (va := #[]) (vb := #[(Value.pointer (some ⟨b1, 0, none⟩)), (Value.pointer (some ⟨b9, 0, none⟩))]) args0 (args2 rfl rfl)) rfl ?_
  obtain ⟨x22, hx23, h⟩ := bs h
  refine WL.call _ (op_call fn_86 (args2 rfl rfl)) (c_slices_ContainsFunc_Lint64_int64 (Ty.lift _ (Ext.trans hE15 hS17.ext) r_list) (⟨87, #[], #[(Value.pointer (some ⟨b1, 0, none⟩)), (Value.pointer (some ⟨b9, 0, none⟩))], rfl, fn_87, fun wd18 a0_19 r20 he19 ra0_19 hq21 => c_impl_allWithin_c1 ra0_19 (BoxAt.lift (Ext.trans (Ext.trans hE16 hS17.ext) he19) hx6) r_low (BoxAt.lift (Ext.trans hS17.ext he19) hx14) r_high hq21⟩) hx23) rfl ?_
  rintro _ wd24 ⟨rfl, he25⟩
  have hS27 := St.extend hS17 he25
  replace hS27 : St wd10 wd24 [] := hS27
  refine WL.val (Value.bool (!x22)) _ (op_not rfl) rfl ?_
  refine WL.val (Value.bool (!x22)) _ (op_assign rfl) rfl ?_
  refine WL.nil ?_
  refine W.ret ?_
  obtain rfl := Option.some.inj h
  show FinP _ _ _ _ _ _ _
  exact FinP.ret _ (res1 rfl rfl) ⟨rfl, (Ext.trans hE15 hS27.ext)⟩

theorem c_impl_isCube_c1 {w : World} {row : (List Int)} {v_row : Value} {b_c0 : Nat} {c0 : Int} (r_row : (Ty.sl (Ty.i .i64)).rep w v_row row) (k_c0 : BoxAt w b_c0 [(Value.int .i64 c0)]) (r_c0 : InR .i64 c0) {res : Bool} (h : p_impl_isCube_c1 row c0 = some res) :
    Ret Tryd.prog 79 #[v_row, (Value.pointer (some ⟨b_c0, 0, none⟩))] w (fun v w' => v = Value.bool res ∧ Ext w w') := by
  unfold p_impl_isCube_c1 at h
  have hS0 : St w w [] := St.start w
  refine Ret.start (fn := Tryd.f79) Tryd.func79 rfl 13 rfl rfl ?_
  refine W.seq (W.region ?_)
  refine WL.val (Value.bool false) _ (op_assign rfl) rfl ?_
  refine WL.nil ?_
  refine W.seq (W.region ?_)
  refine WL.val v_row _ (op_move rfl) rfl ?_
  have hr1 := inR_len (Ty.lift _ hS0.ext r_row)
  refine WL.val (Value.int .i64 ((row).length : Int)) _ (op_lenL sl_33 (Ty.lift _ hS0.ext r_row) rfl) rfl ?_
  refine WL.val (Value.int .i64 c0) _ (op_load one_3 rfl (BoxAt.cell (BoxAt.lift hS0.ext k_c0) rfl)) rfl ?_
  refine WL.val (Value.bool (((row).length : Int) != c0)) _ (op_neq rfl rfl) rfl ?_
  refine WL.val (Value.bool (((row).length : Int) != c0)) _ (op_move rfl) rfl ?_
  obtain ⟨x3, hj4, h⟩ := bs h
  refine WL.cut 4 (fun fq wq => fq 12 = Value.bool x3 ∧ St w wq []) ?_ ?_
  · rcases Bool.eq_false_or_eq_true (((row).length : Int) != c0) with hc2 | hc2
    · replace hj4 := ip hj4 hc2
      refine WL.gskip rfl (bool_of rfl hc2) rfl ?_
      refine WL.gskip rfl (bool_of rfl hc2) rfl ?_
      refine WL.gskip rfl (bool_of rfl hc2) rfl ?_
      refine WL.val (Value.bool true) _ (op_pick_t (evb_of rfl hc2) rfl) rfl ?_
      refine WL.nil ?_
      obtain rfl := Option.some.inj hj4
      exact ⟨rfl, rfl, hS0⟩
    · replace hj4 := inegb hj4 hc2
      refine WL.grun rfl (bool_of rfl hc2) ?_
      refine WL.val v_row _ (op_move rfl) rfl ?_
      refine WL.grun rfl (bool_of rfl hc2) ?_
      obtain ⟨x8, hx9, hj4⟩ := bs hj4
      refine WL.call _ (op_call fn_80 (args3 rfl rfl rfl)) (c_impl_allWithin (Ty.lift _ hS0.ext r_row) (inL rfl) (inL rfl) hx9) rfl ?_
      rintro _ wd10 ⟨rfl, he11⟩
      have hS13 := St.extend hS0 he11
      replace hS13 : St w wd10 [] := hS13
      refine WL.grun rfl (bool_of rfl hc2) ?_
      refine WL.val (Value.bool (!x8)) _ (op_not rfl) rfl ?_
      refine WL.val (Value.bool (!x8)) _ (op_pick_f (evb_of rfl hc2) rfl) rfl ?_
      refine WL.nil ?_
      obtain rfl := Option.some.inj hj4
      exact ⟨rfl, rfl, hS13⟩
  · intro f5 wd6 hq7
    obtain ⟨hf14, hS15⟩ := hq7
    refine WL.val (Value.bool x3) _ (op_assign hf14) rfl ?_
    refine WL.nil ?_
    refine W.ret ?_
    obtain rfl := Option.some.inj h
    show FinP _ _ _ _ _ _ _
    exact FinP.ret _ (res1 rfl rfl) ⟨rfl, hS15.ext⟩

theorem c_slices_IndexFunc_LLint64_Lint64 {w : World} {s1 : (List (List Int))} {v_s1 : Value} {f1 : (List Int) → Option Bool} {v_f1 : Value} (r_s1 : (Ty.sl (Ty.sl (Ty.i .i64))).rep w v_s1 s1) (r_f1 : FnT_li_to_b Tryd.prog v_f1 w f1) {res : Int} (h : p_slices_IndexFunc_LLint64_Lint64 s1 f1  = some res) :
    Ret Tryd.prog 85 #[v_s1, v_f1] w (fun v w' => v = Value.int .i64 res ∧ InR .i64 res ∧ Ext w w') := by
  unfold p_slices_IndexFunc_LLint64_Lint64 at h
  have hS0 : St w w [] := St.start w
  have q_f1 := r_f1
  obtain ⟨g_f1, fst_f1, cap_f1, eq_f1, ok_f1, call_f1⟩ := q_f1
  subst eq_f1
  refine Ret.start (fn := Tryd.f85) Tryd.func85 rfl 19 rfl rfl ?_
  refine W.seq (W.region ?_)
  refine WL.val (Value.int .i64 (0 : Int)) _ (op_assign rfl) rfl ?_
  refine WL.nil ?_
  refine W.seq (W.seq (W.region ?_))
  refine WL.val v_s1 _ (op_move rfl) rfl ?_
  have hr1 := inR_len (Ty.lift _ hS0.ext r_s1)
  refine WL.val (Value.int .i64 ((s1).length : Int)) _ (op_lenL sl_41 (Ty.lift _ hS0.ext r_s1) rfl) rfl ?_
  refine WL.val (Value.int .i64 (0 : Int)) _ (op_move rfl) rfl ?_
  refine WL.nil ?_
  show W _ _ _ _ _ _
  obtain ⟨res2, hres3, h⟩ := bs h
  refine W.blockLoop (fun fq wq => ∃ s, res2 = Res.fin s ∧ St w wq []) ?_ ?_
  · refine W.forN (fun k (s : Unit) fq wq => fq 0 = v_s1 ∧ fq 1 = (Value.func (.func g_f1) fst_f1 cap_f1) ∧ fq 7 = (Value.int .i64 ((s1).length : Int)) ∧ fq 8 = Value.int .i64 (k : Int) ∧ InR .i64 (k : Int) ∧ St w wq []) hres3 ⟨rfl, rfl, rfl, rfl, (inL rfl), hS0⟩ ?_ ?_
    · intro k4 s36 ct5 f6 wd7 hk8 hb9 hI10 hbrk11 hret12
      obtain ⟨⟩ := s36
      replace hI10 : f6 0 = v_s1 ∧ f6 1 = (Value.func (.func g_f1) fst_f1 cap_f1) ∧ f6 7 = (Value.int .i64 ((s1).length : Int)) ∧ f6 8 = Value.int .i64 (k4 : Int) ∧ InR .i64 (k4 : Int) ∧ St w wd7 [] := hI10
      replace hb9 : p_slices_IndexFunc_LLint64_Lint64_L1 s1 f1 k4  = some ct5 := hb9
      unfold p_slices_IndexFunc_LLint64_Lint64_L1 at hb9
      obtain ⟨hf13, hf14, hf15, hf16, hr17, hS18⟩ := hI10
      refine W.seq (W.region ?_)
      refine WL.val (Value.bool (decide ((k4 : Int) < ((s1).length : Int)))) _ (op_lss hf16 hf15) rfl ?_
      have hl19 : (k4 : Int) < ((s1).length : Int) := by omega
      refine WL.nil ?_
      refine W.seq ?_
      refine W.condT (decide ((k4 : Int) < ((s1).length : Int))) rfl (decide_eq_true hl19) ?_
      refine W.skip ?_
      refine W.seq ?_
      refine W.block ?_
      refine W.seq (W.region ?_)
      refine WL.val (Value.int .i64 (k4 : Int)) _ (op_move hf16) rfl ?_
      refine WL.val (Value.int .i64 (k4 : Int)) _ (op_assign rfl) rfl ?_
      refine WL.nil ?_
      refine W.seq (W.region ?_)
      refine WL.val (Value.func (.func g_f1) fst_f1 cap_f1) _ (op_move hf14) rfl ?_
      refine WL.val v_s1 _ (op_move hf13) rfl ?_
      refine WL.val (Value.int .i64 (k4 : Int)) _ (op_move rfl) rfl ?_
      obtain ⟨x21, hx24, hb9⟩ := bs hb9
      obtain ⟨ha22, hb23, hx24⟩ := idx_some hx24
      refine WL.val (Value.pointer (some (elA v_s1 ((k4 : Int)).toNat))) _ (op_idx sl_41 (Ty.lift _ hS18.ext r_s1) rfl rfl ha22 hb23) rfl ?_
      obtain ⟨u25, hc26, hr27⟩ := repSl.el r_s1 hx24
      refine WL.val u25 _ (op_load one_33 rfl (Ext.cell hS18.ext hc26)) rfl ?_
      obtain ⟨x28, hx29, hb9⟩ := bs hb9
      refine WL.call _ (op_callV rfl ok_f1 (args1 rfl)) (call_f1 wd7 u25 x21 x28 hS18.ext (Ty.lift _ hS18.ext hr27) hx29) rfl ?_
      rintro _ wd30 ⟨rfl, he31⟩
      have hS33 := St.extend hS18 he31
      refine WL.nil ?_
      refine W.cond x28 rfl (fun hc34 => ?_) (fun hc34 => ?_)
      · replace hb9 := ip hb9 hc34
        refine W.seq (W.region ?_)
        refine WL.val (Value.int .i64 (k4 : Int)) _ (op_move rfl) rfl ?_
        refine WL.val (Value.int .i64 (k4 : Int)) _ (op_assign rfl) rfl ?_
        refine WL.nil ?_
        refine W.ret ?_
        obtain rfl := Option.some.inj hb9
        obtain rfl := hret12 _ rfl
        replace h := onRes_ret h
        obtain rfl := Option.some.inj h
        show FinP _ _ _ _ _ _ _
        exact FinP.ret _ (res1 rfl rfl) ⟨rfl, hr17, hS33.ext⟩
      · replace hb9 := inegb hb9 hc34
        refine W.skip ?_
        show W _ _ _ _ _ _
        refine W.region ?_
        refine WL.val (Value.int .i64 (w64 ((k4 : Int) + (1 : Int)))) _ (op_add hf16 rfl) rfl ?_
        refine WL.val (Value.int .i64 (w64 ((k4 : Int) + (1 : Int)))) _ (op_move rfl) rfl ?_
        refine WL.nil ?_
        obtain rfl := Option.some.inj hb9
        show ∃ s, _ = Ctl.next s ∧ _
        exact ⟨_, rfl, hf13, hf14, hf15, (ctr_next hl19 hr1), (ctr_rng hl19 hr1), hS33⟩
    · intro s41 f37 wd38 hs39 hI40
      obtain ⟨⟩ := s41
      replace hI40 : f37 0 = v_s1 ∧ f37 1 = (Value.func (.func g_f1) fst_f1 cap_f1) ∧ f37 7 = (Value.int .i64 ((s1).length : Int)) ∧ f37 8 = Value.int .i64 (((s1).length : Nat) : Int) ∧ InR .i64 (((s1).length : Nat) : Int) ∧ St w wd38 [] := hI40
      obtain ⟨hf42, hf43, hf44, hf45, hr46, hS47⟩ := hI40
      refine W.seq (W.region ?_)
      refine WL.val (Value.bool (decide ((((s1).length : Nat) : Int) < ((s1).length : Int)))) _ (op_lss hf45 hf44) rfl ?_
      have hl48 : ¬ (((s1).length : Nat) : Int) < ((s1).length : Int) := by omega
      refine WL.nil ?_
      refine W.seq ?_
      refine W.condF (decide ((((s1).length : Nat) : Int) < ((s1).length : Int))) rfl (decide_eq_false hl48) ?_
      refine W.exit ?_
      show _ = _ ∧ _
      exact ⟨rfl, _, hs39, hS47⟩
  · rintro f49 wd50 ⟨s52, rfl, hq51⟩
    replace h := onRes_fin h
    obtain ⟨⟩ := s52
    replace hq51 : St w wd50 [] := hq51
    have hS53 := hq51
    refine W.seq (W.region ?_)
    refine WL.val (Value.int .i64 (-1 : Int)) _ (op_assign rfl) rfl ?_
    refine WL.nil ?_
    refine W.ret ?_
    obtain rfl := Option.some.inj h
    show FinP _ _ _ _ _ _ _
    exact FinP.ret _ (res1 rfl rfl) ⟨rfl, (inR_i64.2 (show (-9223372036854775808 : Int) ≤ -1 ∧ (-1 : Int) ≤ 9223372036854775807 from by decide)), hS53.ext⟩

theorem c_slices_ContainsFunc_LLint64_Lint64 {w : World} {s1 : (List (List Int))} {v_s1 : Value} {f1 : (List Int) → Option Bool} {v_f1 : Value} (r_s1 : (Ty.sl (Ty.sl (Ty.i .i64))).rep w v_s1 s1) (r_f1 : FnT_li_to_b Tryd.prog v_f1 w f1) {res : Bool} (h : p_slices_ContainsFunc_LLint64_Lint64 s1 f1  = some res) :
    Ret Tryd.prog 78 #[v_s1, v_f1] w (fun v w' => v = Value.bool res ∧ Ext w w') := by
  unfold p_slices_ContainsFunc_LLint64_Lint64 at h
  have hS0 : St w w [] := St.start w
  have q_f1 := r_f1
  obtain ⟨g_f1, fst_f1, cap_f1, eq_f1, ok_f1, call_f1⟩ := q_f1
  subst eq_f1
  refine Ret.start (fn := Tryd.f78) Tryd.func78 rfl 9 rfl rfl ?_
  refine W.seq (W.region ?_)
  refine WL.val (Value.bool false) _ (op_assign rfl) rfl ?_
  refine WL.nil ?_
  refine W.seq (W.region ?_)
  refine WL.val v_s1 _ (op_move rfl) rfl ?_
  refine WL.val (Value.func (.func g_f1) fst_f1 cap_f1) _ (op_move rfl) rfl ?_
  obtain ⟨x1, hx2, h⟩ := bs h
  refine WL.call _ (op_call fn_85 (args2 rfl rfl)) (c_slices_IndexFunc_LLint64_Lint64 (Ty.lift _ hS0.ext r_s1) (FnT_li_to_b.lift hS0.ext r_f1) hx2) rfl ?_
  rintro _ wd4 ⟨rfl, hr3, he5⟩
  have hS7 := St.extend hS0 he5
  replace hS7 : St w wd4 [] := hS7
  refine WL.val (Value.bool (decide (x1 ≥ (0 : Int)))) _ (op_geq rfl rfl) rfl ?_
  refine WL.val (Value.bool (decide (x1 ≥ (0 : Int)))) _ (op_assign rfl) rfl ?_
  refine WL.nil ?_
  refine W.ret ?_
  obtain rfl := Option.some.inj h
  show FinP _ _ _ _ _ _ _
  exact FinP.ret _ (res1 rfl rfl) ⟨rfl, hS7.ext⟩

theorem c_impl_isCube {w : World} {r_Table : (List (List (List Int)))} {v_r_Table : Value} (r_r_Table : (Ty.sl (Ty.sl (Ty.sl (Ty.i .i64)))).rep w v_r_Table r_Table) {res : Bool} (h : p_impl_isCube r_Table  = some res) :
    Ret Tryd.prog 65 #[(Value.agg #[v_r_Table])] w (fun v w' => v = Value.bool res ∧ Ext w w') := by
  unfold p_impl_isCube at h
  have hS0 : St w w [] := St.start w
  refine Ret.start (fn := Tryd.f65) Tryd.func65 rfl 32 rfl rfl ?_
  refine W.seq (W.region ?_)
  refine WL.box hS0 rfl (cs := [v_r_Table]) rfl rfl ?_
  intro b1 wd2 hS3 he4 hx5
  replace hS3 : St w wd2 [bx b1 [v_r_Table]] := hS3
  have hx6 := St.boxAt hS3 0 rfl
  have hE7 : Ext w wd2 := hS3.ext
  have hS8 : St wd2 wd2 [] := St.start wd2
  refine WL.val (Value.bool false) _ (op_assign rfl) rfl ?_
  refine WL.nil ?_
  refine W.seq (W.region ?_)
  refine WL.val (Value.pointer (some ⟨b1, 0, none⟩)) _ (op_fieldAddr fd_26_0 rfl) rfl ?_
  refine WL.val v_r_Table _ (op_load one_22 rfl (BoxAt.cell (BoxAt.lift hS8.ext hx6) rfl)) rfl ?_
  have hr9 := inR_len (Ty.lift _ (Ext.trans hE7 hS8.ext) r_r_Table)
  refine WL.val (Value.int .i64 ((r_Table).length : Int)) _ (op_lenL sl_22 (Ty.lift _ (Ext.trans hE7 hS8.ext) r_r_Table) rfl) rfl ?_
  refine WL.alloc hS8 ze_3 (cs := [(Value.int .i64 (0 : Int))]) rfl rfl ?_
  intro b10 wd11 hS12 he13
  replace hS12 : St wd2 wd11 [bx b10 [(Value.int .i64 (0 : Int))]] := hS12
  refine WL.storeBox [(Value.int .i64 ((r_Table).length : Int))] hS12 (k := 0) rfl rfl rfl (us := [(Value.int .i64 ((r_Table).length : Int))]) rfl sz_3 rfl rfl (all_cons rfl all_nil) rfl ?_
  intro wd14 hS15
  replace hS15 : St wd2 wd14 [bx b10 [(Value.int .i64 ((r_Table).length : Int))]] := hS15
  refine WL.nil ?_
  refine W.seq (W.seq (W.region ?_))
  refine WL.val (Value.pointer (some ⟨b1, 0, none⟩)) _ (op_fieldAddr fd_26_0 rfl) rfl ?_
  refine WL.val v_r_Table _ (op_load one_22 rfl (BoxAt.cell (BoxAt.lift hS15.ext hx6) rfl)) rfl ?_
  have hr16 := inR_len (Ty.lift _ (Ext.trans hE7 hS15.ext) r_r_Table)
  refine WL.val (Value.int .i64 ((r_Table).length : Int)) _ (op_lenL sl_22 (Ty.lift _ (Ext.trans hE7 hS15.ext) r_r_Table) rfl) rfl ?_
  refine WL.val (Value.int .i64 (0 : Int)) _ (op_move rfl) rfl ?_
  refine WL.nil ?_
  show W _ _ _ _ _ _
  obtain ⟨res17, hres18, h⟩ := bs h
  refine W.blockLoop (fun fq wq => ∃ s, res17 = Res.fin s ∧ fq 3 = (Value.pointer (some ⟨b10, 0, none⟩)) ∧ St wd2 wq [bx b10 [(Value.int .i64 ((r_Table).length : Int))]]) ?_ ?_
  · refine W.forN (fun k (s : Unit) fq wq => fq 3 = (Value.pointer (some ⟨b10, 0, none⟩)) ∧ fq 10 = v_r_Table ∧ fq 11 = (Value.int .i64 ((r_Table).length : Int)) ∧ fq 12 = Value.int .i64 (k : Int) ∧ InR .i64 (k : Int) ∧ St wd2 wq [bx b10 [(Value.int .i64 ((r_Table).length : Int))]]) hres18 ⟨rfl, rfl, rfl, rfl, (inL rfl), hS15⟩ ?_ ?_
    · intro k19 s68 ct20 f21 wd22 hk23 hb24 hI25 hbrk26 hret27
      obtain ⟨⟩ := s68
      replace hI25 : f21 3 = (Value.pointer (some ⟨b10, 0, none⟩)) ∧ f21 10 = v_r_Table ∧ f21 11 = (Value.int .i64 ((r_Table).length : Int)) ∧ f21 12 = Value.int .i64 (k19 : Int) ∧ InR .i64 (k19 : Int) ∧ St wd2 wd22 [bx b10 [(Value.int .i64 ((r_Table).length : Int))]] := hI25
      replace hb24 : p_impl_isCube_L1 r_Table k19  = some ct20 := hb24
      unfold p_impl_isCube_L1 at hb24
      obtain ⟨hf28, hf29, hf30, hf31, hr32, hS33⟩ := hI25
      refine W.seq (W.region ?_)
      refine WL.val (Value.bool (decide ((k19 : Int) < ((r_Table).length : Int)))) _ (op_lss hf31 hf30) rfl ?_
      have hl34 : (k19 : Int) < ((r_Table).length : Int) := by omega
      refine WL.nil ?_
      refine W.seq ?_
      refine W.condT (decide ((k19 : Int) < ((r_Table).length : Int))) rfl (decide_eq_true hl34) ?_
      refine W.skip ?_
      refine W.seq ?_
      refine W.block ?_
      refine W.seq (W.region ?_)
      obtain ⟨x36, hx39, hb24⟩ := bs hb24
      obtain ⟨ha37, hb38, hx39⟩ := idx_some hx39
      refine WL.val (Value.pointer (some (elA v_r_Table ((k19 : Int)).toNat))) _ (op_idx sl_22 (Ty.lift _ (Ext.trans hE7 hS33.ext) r_r_Table) hf29 hf31 ha37 hb38) rfl ?_
      obtain ⟨u40, hc41, hr42⟩ := repSl.el r_r_Table hx39
      refine WL.val u40 _ (op_load one_41 rfl (Ext.cell (Ext.trans hE7 hS33.ext) hc41)) rfl ?_
      refine WL.val u40 _ (op_assign rfl) rfl ?_
      refine WL.nil ?_
      refine W.seq (W.region ?_)
      refine WL.val u40 _ (op_move rfl) rfl ?_
      have hr43 := inR_len (Ty.lift _ (Ext.trans hE7 hS33.ext) hr42)
      refine WL.val (Value.int .i64 ((x36).length : Int)) _ (op_lenL sl_41 (Ty.lift _ (Ext.trans hE7 hS33.ext) hr42) rfl) rfl ?_
      refine WL.val (Value.int .i64 ((r_Table).length : Int)) _ (op_load one_3 hf28 (BoxAt.cell (St.boxAt hS33 0 rfl) rfl)) rfl ?_
      refine WL.val (Value.bool (((x36).length : Int) != ((r_Table).length : Int))) _ (op_neq rfl rfl) rfl ?_
      refine WL.val (Value.bool (((x36).length : Int) != ((r_Table).length : Int))) _ (op_move rfl) rfl ?_
      obtain ⟨x45, hj46, hb24⟩ := bs hb24
      refine WL.cut 4 (fun fq wq => fq 3 = (Value.pointer (some ⟨b10, 0, none⟩)) ∧ fq 10 = v_r_Table ∧ fq 11 = (Value.int .i64 ((r_Table).length : Int)) ∧ fq 12 = (Value.int .i64 (k19 : Int)) ∧ fq 24 = Value.bool x45 ∧ St wd2 wq [bx b10 [(Value.int .i64 ((r_Table).length : Int))]]) ?_ ?_
      · rcases Bool.eq_false_or_eq_true (((x36).length : Int) != ((r_Table).length : Int)) with hc44 | hc44
        · replace hj46 := ip hj46 hc44
          refine WL.gskip rfl (bool_of rfl hc44) rfl ?_
          refine WL.gskip rfl (bool_of rfl hc44) rfl ?_
          refine WL.gskip rfl (bool_of rfl hc44) rfl ?_
          refine WL.val (Value.bool true) _ (op_pick_t (evb_of rfl hc44) rfl) rfl ?_
          refine WL.nil ?_
          obtain rfl := Option.some.inj hj46
          exact ⟨rfl, hf28, hf29, hf30, hf31, rfl, hS33⟩
        · replace hj46 := inegb hj46 hc44
          refine WL.grun rfl (bool_of rfl hc44) ?_
          refine WL.val u40 _ (op_move rfl) rfl ?_
          refine WL.grun rfl (bool_of rfl hc44) ?_
          refine WL.val (Value.func (.func 79) #[] #[(Value.pointer (some ⟨b10, 0, none⟩))]) _ (op_makeFunc (va := #[]) (vb := #[(Value.pointer (some ⟨b10, 0, none⟩))]) args0 (args1 hf28)) rfl ?_
          refine WL.grun rfl (bool_of rfl hc44) ?_
          obtain ⟨x54, hx55, hj46⟩ := bs hj46
          refine WL.call _ (op_call fn_78 (args2 rfl rfl)) (c_slices_ContainsFunc_LLint64_Lint64 (Ty.lift _ (Ext.trans hE7 hS33.ext) hr42) (⟨79, #[], #[(Value.pointer (some ⟨b10, 0, none⟩))], rfl, fn_79, fun wd50 u0_51 a0_51 r52 he51 ra0_51 hq53 => c_impl_isCube_c1 ra0_51 (BoxAt.lift he51 (St.boxAt hS33 0 rfl)) hr9 hq53⟩) hx55) rfl ?_
          rintro _ wd56 ⟨rfl, he57⟩
          have hS59 := St.extend hS33 he57
          replace hS59 : St wd2 wd56 [bx b10 [(Value.int .i64 ((r_Table).length : Int))]] := hS59
          refine WL.val (Value.bool x54) _ (op_pick_f (evb_of rfl hc44) rfl) rfl ?_
          refine WL.nil ?_
          obtain rfl := Option.some.inj hj46
          exact ⟨rfl, hf28, hf29, hf30, hf31, rfl, hS59⟩
      · intro f47 wd48 hq49
        obtain ⟨hf60, hf61, hf62, hf63, hf64, hS65⟩ := hq49
        refine WL.nil ?_
        refine W.cond x45 hf64 (fun hc66 => ?_) (fun hc66 => ?_)
        · replace hb24 := ip hb24 hc66
          refine W.seq (W.region ?_)
          refine WL.val (Value.bool false) _ (op_assign rfl) rfl ?_
          refine WL.nil ?_
          refine W.ret ?_
          obtain rfl := Option.some.inj hb24
          obtain rfl := hret27 _ rfl
          replace h := onRes_ret h
          obtain rfl := Option.some.inj h
          show FinP _ _ _ _ _ _ _
          exact FinP.ret _ (res1 rfl rfl) ⟨rfl, (Ext.trans hE7 hS65.ext)⟩
        · replace hb24 := inegb hb24 hc66
          refine W.skip ?_
          show W _ _ _ _ _ _
          refine W.region ?_
          refine WL.val (Value.int .i64 (w64 ((k19 : Int) + (1 : Int)))) _ (op_add hf63 rfl) rfl ?_
          refine WL.val (Value.int .i64 (w64 ((k19 : Int) + (1 : Int)))) _ (op_move rfl) rfl ?_
          refine WL.nil ?_
          obtain rfl := Option.some.inj hb24
          show ∃ s, _ = Ctl.next s ∧ _
          exact ⟨_, rfl, hf60, hf61, hf62, (ctr_next hl34 hr16), (ctr_rng hl34 hr16), hS65⟩
    · intro s73 f69 wd70 hs71 hI72
      obtain ⟨⟩ := s73
      replace hI72 : f69 3 = (Value.pointer (some ⟨b10, 0, none⟩)) ∧ f69 10 = v_r_Table ∧ f69 11 = (Value.int .i64 ((r_Table).length : Int)) ∧ f69 12 = Value.int .i64 (((r_Table).length : Nat) : Int) ∧ InR .i64 (((r_Table).length : Nat) : Int) ∧ St wd2 wd70 [bx b10 [(Value.int .i64 ((r_Table).length : Int))]] := hI72
      obtain ⟨hf74, hf75, hf76, hf77, hr78, hS79⟩ := hI72
      refine W.seq (W.region ?_)
      refine WL.val (Value.bool (decide ((((r_Table).length : Nat) : Int) < ((r_Table).length : Int)))) _ (op_lss hf77 hf76) rfl ?_
      have hl80 : ¬ (((r_Table).length : Nat) : Int) < ((r_Table).length : Int) := by omega
      refine WL.nil ?_
      refine W.seq ?_
      refine W.condF (decide ((((r_Table).length : Nat) : Int) < ((r_Table).length : Int))) rfl (decide_eq_false hl80) ?_
      refine W.exit ?_
      show _ = _ ∧ _
      exact ⟨rfl, _, hs71, hf74, hS79⟩
  · rintro f81 wd82 ⟨s84, rfl, hq83⟩
    replace h := onRes_fin h
    obtain ⟨⟩ := s84
    replace hq83 : f81 3 = (Value.pointer (some ⟨b10, 0, none⟩)) ∧ St wd2 wd82 [bx b10 [(Value.int .i64 ((r_Table).length : Int))]] := hq83
    obtain ⟨hf85, hS86⟩ := hq83
    refine W.seq (W.region ?_)
    refine WL.val (Value.int .i64 ((r_Table).length : Int)) _ (op_load one_3 hf85 (BoxAt.cell (St.boxAt hS86 0 rfl) rfl)) rfl ?_
    refine WL.val (Value.bool (decide (((r_Table).length : Int) ≥ (1 : Int)))) _ (op_geq rfl rfl) rfl ?_
    refine WL.val (Value.bool (decide (((r_Table).length : Int) ≥ (1 : Int)))) _ (op_move rfl) rfl ?_
    refine WL.cut 3 (fun fq wq => fq 31 = (Value.bool ((decide (((r_Table).length : Int) ≥ (1 : Int))) && (decide (((r_Table).length : Int) ≤ (16 : Int))))) ∧ St wd2 wq []) ?_ ?_
    · rcases Bool.eq_false_or_eq_true (decide (((r_Table).length : Int) ≥ (1 : Int))) with hc87 | hc87
      · refine WL.grun rfl (bool_of rfl hc87) ?_
        refine WL.val (Value.int .i64 ((r_Table).length : Int)) _ (op_load one_3 hf85 (BoxAt.cell (St.boxAt hS86 0 rfl) rfl)) rfl ?_
        refine WL.grun rfl (bool_of rfl hc87) ?_
        refine WL.val (Value.bool (decide (((r_Table).length : Int) ≤ (16 : Int)))) _ (op_leq rfl rfl) rfl ?_
        refine WL.val (Value.bool (decide (((r_Table).length : Int) ≤ (16 : Int)))) _ (op_pick_t (evb_of rfl hc87) rfl) rfl ?_
        refine WL.nil ?_
        exact ⟨rfl, (andT hc87), (St.pick hS86 [] rfl)⟩
      · refine WL.gskip rfl (bool_of rfl hc87) rfl ?_
        refine WL.gskip rfl (bool_of rfl hc87) rfl ?_
        refine WL.val (Value.bool false) _ (op_pick_f (evb_of rfl hc87) rfl) rfl ?_
        refine WL.nil ?_
        exact ⟨rfl, (andF hc87), (St.pick hS86 [] rfl)⟩
    · intro f88 wd89 hq90
      obtain ⟨hf91, hS92⟩ := hq90
      refine WL.val (Value.bool ((decide (((r_Table).length : Int) ≥ (1 : Int))) && (decide (((r_Table).length : Int) ≤ (16 : Int))))) _ (op_assign hf91) rfl ?_
      refine WL.nil ?_
      refine W.ret ?_
      obtain rfl := Option.some.inj h
      show FinP _ _ _ _ _ _ _
      exact FinP.ret _ (res1 rfl rfl) ⟨rfl, (Ext.trans hE7 hS92.ext)⟩

theorem c_impl_delta {w : World} {i : Int} {k1 : Int} (r_i : InR .i64 i) (r_k1 : InR .i64 k1) {res : Int} (h : p_impl_delta i k1  = some res) :
    Ret Tryd.prog 88 #[(Value.int .i64 i), (Value.int .i64 k1)] w (fun v w' => v = Value.int .i64 res ∧ InR .i64 res ∧ Ext w w') := by
  unfold p_impl_delta at h
  have hS0 : St w w [] := St.start w
  refine Ret.start (fn := Tryd.f88) Tryd.func88 rfl 8 rfl rfl ?_
  refine W.seq (W.region ?_)
  refine WL.val (Value.int .i64 (0 : Int)) _ (op_assign rfl) rfl ?_
  refine WL.nil ?_
  refine W.seq (W.seq (W.region ?_))
  refine WL.val (Value.int .i64 i) _ (op_move rfl) rfl ?_
  refine WL.val (Value.int .i64 k1) _ (op_move rfl) rfl ?_
  refine WL.val (Value.bool (i == k1)) _ (op_eql rfl rfl) rfl ?_
  refine WL.nil ?_
  refine W.cond (i == k1) rfl (fun hc1 => ?_) (fun hc1 => ?_)
  · replace h := ip h hc1
    refine W.seq (W.region ?_)
    refine WL.val (Value.int .i64 (1 : Int)) _ (op_assign rfl) rfl ?_
    refine WL.nil ?_
    refine W.ret ?_
    obtain rfl := Option.some.inj h
    show FinP _ _ _ _ _ _ _
    exact FinP.ret _ (res1 rfl rfl) ⟨rfl, (inL rfl), hS0.ext⟩
  · replace h := inegb h hc1
    refine W.skip ?_
    refine W.seq (W.region ?_)
    refine WL.val (Value.int .i64 (0 : Int)) _ (op_assign rfl) rfl ?_
    refine WL.nil ?_
    refine W.ret ?_
    obtain rfl := Option.some.inj h
    show FinP _ _ _ _ _ _ _
    exact FinP.ret _ (res1 rfl rfl) ⟨rfl, (inL rfl), hS0.ext⟩

theorem c_impl_Ring_unitFault {w : World} {r_Table : (List (List (List Int)))} {v_r_Table : Value} (r_r_Table : (Ty.sl (Ty.sl (Ty.sl (Ty.i .i64)))).rep w v_r_Table r_Table) {res : (List Int)} (h : p_impl_Ring_unitFault r_Table  = some res) :
    Ret Tryd.prog 81 #[(Value.agg #[v_r_Table])] w (fun v w' => ∃ (u0 : Value), v = u0 ∧ NilIff u0 res ∧ Ext w w' ∧ Sep w.heap.size w' [(Ty.sl (Ty.i .i64)).at u0 res]) := by
  unfold p_impl_Ring_unitFault at h
  have hS0 : St w w [] := St.start w
  refine Ret.start (fn := Tryd.f81) Tryd.func81 rfl 52 rfl rfl ?_
  refine W.seq (W.region ?_)
  refine WL.box hS0 rfl (cs := [v_r_Table]) rfl rfl ?_
  intro b1 wd2 hS3 he4 hx5
  replace hS3 : St w wd2 [bx b1 [v_r_Table]] := hS3
  have hx6 := St.boxAt hS3 0 rfl
  have hE7 : Ext w wd2 := hS3.ext
  have hS8 : St wd2 wd2 [] := St.start wd2
  refine WL.val (Value.slice none 0 0) _ (op_assign rfl) rfl ?_
  refine WL.nil ?_
  refine W.seq (W.seq (W.region ?_))
  refine WL.val (Value.pointer (some ⟨b1, 0, none⟩)) _ (op_fieldAddr fd_26_0 rfl) rfl ?_
  refine WL.val v_r_Table _ (op_load one_22 rfl (BoxAt.cell (BoxAt.lift hS8.ext hx6) rfl)) rfl ?_
  have hr9 := inR_len (Ty.lift _ (Ext.trans hE7 hS8.ext) r_r_Table)
  refine WL.val (Value.int .i64 ((r_Table).length : Int)) _ (op_lenL sl_22 (Ty.lift _ (Ext.trans hE7 hS8.ext) r_r_Table) rfl) rfl ?_
  refine WL.val (Value.int .i64 (0 : Int)) _ (op_move rfl) rfl ?_
  refine WL.nil ?_
  show W _ _ _ _ _ _
  obtain ⟨res10, hres11, h⟩ := bs h
  refine W.blockLoop (fun fq wq => ∃ s, res10 = Res.fin s ∧ St wd2 wq []) ?_ ?_
  · refine W.forN (fun k (s : Unit) fq wq => fq 1 = (Value.pointer (some ⟨b1, 0, none⟩)) ∧ fq 7 = (Value.int .i64 ((r_Table).length : Int)) ∧ fq 8 = Value.int .i64 (k : Int) ∧ InR .i64 (k : Int) ∧ St wd2 wq []) hres11 ⟨rfl, rfl, rfl, (inL rfl), hS8⟩ ?_ ?_
    · intro k12 s672 ct13 f14 wd15 hk16 hb17 hI18 hbrk19 hret20
      obtain ⟨⟩ := s672
      replace hI18 : f14 1 = (Value.pointer (some ⟨b1, 0, none⟩)) ∧ f14 7 = (Value.int .i64 ((r_Table).length : Int)) ∧ f14 8 = Value.int .i64 (k12 : Int) ∧ InR .i64 (k12 : Int) ∧ St wd2 wd15 [] := hI18
      replace hb17 : p_impl_Ring_unitFault_L1 r_Table k12  = some ct13 := hb17
      unfold p_impl_Ring_unitFault_L1 at hb17
      obtain ⟨hf21, hf22, hf23, hr24, hS25⟩ := hI18
      refine W.seq (W.region ?_)
      refine WL.val (Value.bool (decide ((k12 : Int) < ((r_Table).length : Int)))) _ (op_lss hf23 hf22) rfl ?_
      have hl26 : (k12 : Int) < ((r_Table).length : Int) := by omega
      refine WL.nil ?_
      refine W.seq ?_
      refine W.condT (decide ((k12 : Int) < ((r_Table).length : Int))) rfl (decide_eq_true hl26) ?_
      refine W.skip ?_
      refine W.seq ?_
      refine W.block ?_
      refine W.seq (W.region ?_)
      refine WL.val (Value.int .i64 (k12 : Int)) _ (op_move hf23) rfl ?_
      refine WL.val (Value.int .i64 (k12 : Int)) _ (op_assign rfl) rfl ?_
      refine WL.nil ?_
      refine W.seq (W.region ?_)
      refine WL.val (Value.pointer (some ⟨b1, 0, none⟩)) _ (op_fieldAddr fd_26_0 hf21) rfl ?_
      refine WL.val v_r_Table _ (op_load one_22 rfl (BoxAt.cell (BoxAt.lift hS25.ext hx6) rfl)) rfl ?_
      have hr28 := inR_len (Ty.lift _ (Ext.trans hE7 hS25.ext) r_r_Table)
      refine WL.val (Value.int .i64 ((r_Table).length : Int)) _ (op_lenL sl_22 (Ty.lift _ (Ext.trans hE7 hS25.ext) r_r_Table) rfl) rfl ?_
      refine WL.val (Value.int .i64 (0 : Int)) _ (op_move rfl) rfl ?_
      refine WL.nil ?_
      show W _ _ _ _ _ _
      obtain ⟨res29, hres30, hb17⟩ := bs hb17
      refine W.blockLoop (fun fq wq => ∃ s, res29 = Res.fin s ∧ fq 1 = (Value.pointer (some ⟨b1, 0, none⟩)) ∧ fq 7 = (Value.int .i64 ((r_Table).length : Int)) ∧ fq 8 = (Value.int .i64 (k12 : Int)) ∧ St wd2 wq []) ?_ ?_
      · refine W.forN (fun k (s : Unit) fq wq => fq 1 = (Value.pointer (some ⟨b1, 0, none⟩)) ∧ fq 3 = (Value.int .i64 (k12 : Int)) ∧ fq 7 = (Value.int .i64 ((r_Table).length : Int)) ∧ fq 8 = (Value.int .i64 (k12 : Int)) ∧ fq 13 = (Value.int .i64 ((r_Table).length : Int)) ∧ fq 14 = Value.int .i64 (k : Int) ∧ InR .i64 (k : Int) ∧ St wd2 wq []) hres30 ⟨hf21, rfl, hf22, hf23, rfl, rfl, (inL rfl), hS25⟩ ?_ ?_
        · intro k31 s648 ct32 f33 wd34 hk35 hb36 hI37 hbrk38 hret39
          obtain ⟨⟩ := s648
          replace hI37 : f33 1 = (Value.pointer (some ⟨b1, 0, none⟩)) ∧ f33 3 = (Value.int .i64 (k12 : Int)) ∧ f33 7 = (Value.int .i64 ((r_Table).length : Int)) ∧ f33 8 = (Value.int .i64 (k12 : Int)) ∧ f33 13 = (Value.int .i64 ((r_Table).length : Int)) ∧ f33 14 = Value.int .i64 (k31 : Int) ∧ InR .i64 (k31 : Int) ∧ St wd2 wd34 [] := hI37
          replace hb36 : p_impl_Ring_unitFault_L2 r_Table k12 k31  = some ct32 := hb36
          unfold p_impl_Ring_unitFault_L2 at hb36
          obtain ⟨hf40, hf41, hf42, hf43, hf44, hf45, hr46, hS47⟩ := hI37
          refine W.seq (W.region ?_)
          refine WL.val (Value.bool (decide ((k31 : Int) < ((r_Table).length : Int)))) _ (op_lss hf45 hf44) rfl ?_
          have hl48 : (k31 : Int) < ((r_Table).length : Int) := by omega
          refine WL.nil ?_
          refine W.seq ?_
          refine W.condT (decide ((k31 : Int) < ((r_Table).length : Int))) rfl (decide_eq_true hl48) ?_
          refine W.skip ?_
          refine W.seq ?_
          refine W.block ?_
          refine W.seq (W.region ?_)
          refine WL.val (Value.int .i64 (k31 : Int)) _ (op_move hf45) rfl ?_
          refine WL.val (Value.int .i64 (k31 : Int)) _ (op_assign rfl) rfl ?_
          refine WL.nil ?_
          refine W.seq ?_
          obtain ⟨x77, hx80, hb36⟩ := bs hb36
          obtain ⟨ha78, hb79, hx80⟩ := idx_some hx80
          obtain ⟨u91, hc92, hr93⟩ := repSl.el r_r_Table hx80
          obtain ⟨x116, hx119, hb36⟩ := bs hb36
          obtain ⟨ha117, hb118, hx119⟩ := idx_some hx119
          obtain ⟨u130, hc131, hr132⟩ := repSl.el hr93 hx119
          obtain ⟨x155, hx158, hb36⟩ := bs hb36
          obtain ⟨ha156, hb157, hx158⟩ := idx_some hx158
          obtain ⟨u169, hc170, hr171⟩ := repSl.el hr132 hx158
          obtain ⟨rfl, hr171⟩ := hr171
          obtain ⟨x202, hx203, hb36⟩ := bs hb36
          obtain ⟨x234, hj235, hb36⟩ := bs hb36
          refine W.cutCode (fun fq wq => fq 1 = (Value.pointer (some ⟨b1, 0, none⟩)) ∧ fq 3 = (Value.int .i64 (k12 : Int)) ∧ fq 4 = (Value.int .i64 (k31 : Int)) ∧ fq 7 = (Value.int .i64 ((r_Table).length : Int)) ∧ fq 8 = (Value.int .i64 (k12 : Int)) ∧ fq 13 = (Value.int .i64 ((r_Table).length : Int)) ∧ fq 14 = (Value.int .i64 (k31 : Int)) ∧ fq 46 = Value.bool x234 ∧ St wd2 wq []) ?_ ?_
          · rcases Bool.eq_false_or_eq_true (x155 != x202) with hc236 | hc236
            · replace hj235 := ip hj235 hc236
              refine W.drawR mixo 28 [] [fun _ v _ _ => v = (Value.pointer (some ⟨b1, 0, none⟩)), fun _ v _ _ => v = v_r_Table, fun _ v _ _ => v = (Value.pointer (some (elA v_r_Table ((0 : Int)).toNat))), fun _ v _ _ => v = u91, fun _ v _ _ => v = (Value.int .i64 (k12 : Int)) ∧ InR .i64 (k12 : Int), fun _ v _ _ => v = (Value.pointer (some (elA u91 ((k12 : Int)).toNat))), fun _ v _ _ => v = u130, fun _ v _ _ => v = (Value.int .i64 (k31 : Int)) ∧ InR .i64 (k31 : Int), fun _ v _ _ => v = (Value.pointer (some (elA u130 ((k31 : Int)).toNat))), fun _ v _ _ => v = (Value.int .i64 x155) ∧ InR .i64 x155, fun _ v _ _ => v = (Value.int .i64 (k12 : Int)) ∧ InR .i64 (k12 : Int), fun _ v _ _ => v = (Value.int .i64 (k31 : Int)) ∧ InR .i64 (k31 : Int), fun _ v _ _ => v = (Value.int .i64 x202) ∧ InR .i64 x202, fun _ v _ _ => v = (Value.bool (x155 != x202)), fun _ v _ _ => v = (Value.bool (x155 != x202)), fun _ v _ _ => v = undef, fun _ v _ _ => v = undef, fun _ v _ _ => v = undef, fun _ v _ _ => v = undef, fun _ v _ _ => v = undef, fun _ v _ _ => v = undef, fun _ v _ _ => v = undef, fun _ v _ _ => v = undef, fun _ v _ _ => v = undef, fun _ v _ _ => v = undef, fun _ v _ _ => v = undef, fun _ v _ _ => v = undef, fun _ v _ _ => v = undef] (by kernel_rfl) (by kernel_rfl) ⟨pk, pk, pk, pk, pk, pk, pk, pk, pk, pk, pk, pk, pk, pk, pk, pk, pk, pk, pk, pk, pk, pk, pk, pk, pk, pk, pk, pk, trivial⟩ ⟨?_, ?_, ?_, ?_, ?_, ?_, ?_, ?_, ?_, ?_, ?_, ?_, ?_, ?_, ?_, ?_, ?_, ?_, ?_, ?_, ?_, ?_, ?_, ?_, ?_, ?_, ?_, ?_, trivial⟩ ?_
              · refine ObX.op rfl fun f50 wd51 he52 hout53 hphi54 => ?_
                have hS55 := St.extend hS47 he52
                have e56 : f50 1 = (Value.pointer (some ⟨b1, 0, none⟩)) := (hout53 1 rfl).trans hf40
                exact OpX.val (Value.pointer (some ⟨b1, 0, none⟩)) wd51 rfl (op_fieldAddr fd_26_0 e56) (Ext.refl _) rfl
              · refine ObX.op rfl fun f57 wd58 he59 hout60 hphi61 => ?_
                have hS62 := St.extend hS47 he59
                obtain ⟨S63, hS64, hf65⟩ := hphi61 0 17 _ rfl rfl rfl
                have e66 : f57 17 = (Value.pointer (some ⟨b1, 0, none⟩)) := hf65
                exact OpX.val v_r_Table wd58 rfl (op_load one_22 e66 (BoxAt.cell (BoxAt.lift hS62.ext hx6) rfl)) (Ext.refl _) rfl
              · refine ObX.op rfl fun f67 wd68 he69 hout70 hphi71 => ?_
                have hS72 := St.extend hS47 he69
                obtain ⟨S73, hS74, hf75⟩ := hphi71 1 18 _ rfl rfl rfl
                have e76 : f67 18 = v_r_Table := hf75
                exact OpX.val (Value.pointer (some (elA v_r_Table ((0 : Int)).toNat))) wd68 rfl (op_idx sl_22 (Ty.lift _ (Ext.trans hE7 hS72.ext) r_r_Table) e76 rfl ha78 hb79) (Ext.refl _) rfl
              · refine ObX.op rfl fun f81 wd82 he83 hout84 hphi85 => ?_
                have hS86 := St.extend hS47 he83
                obtain ⟨S87, hS88, hf89⟩ := hphi85 2 19 _ rfl rfl rfl
                have e90 : f81 19 = (Value.pointer (some (elA v_r_Table ((0 : Int)).toNat))) := hf89
                exact OpX.val u91 wd82 rfl (op_load one_41 e90 (Ext.cell (Ext.trans hE7 hS86.ext) hc92)) (Ext.refl _) rfl
              · refine ObX.op rfl fun f94 wd95 he96 hout97 hphi98 => ?_
                have hS99 := St.extend hS47 he96
                have e100 : f94 3 = (Value.int .i64 (k12 : Int)) := (hout97 3 rfl).trans hf41
                exact OpX.val (Value.int .i64 (k12 : Int)) wd95 rfl (op_move e100) (Ext.refl _) ⟨rfl, hr24⟩
              · refine ObX.op rfl fun f101 wd102 he103 hout104 hphi105 => ?_
                have hS106 := St.extend hS47 he103
                obtain ⟨S107, hS108, hf109⟩ := hphi105 3 20 _ rfl rfl rfl
                have e110 : f101 20 = u91 := hf109
                obtain ⟨S111, hS112, hf113⟩ := hphi105 4 21 _ rfl rfl rfl
                obtain ⟨e114, hr115⟩ := hf113
                exact OpX.val (Value.pointer (some (elA u91 ((k12 : Int)).toNat))) wd102 rfl (op_idx sl_41 (Ty.lift _ (Ext.trans hE7 hS106.ext) hr93) e110 e114 ha117 hb118) (Ext.refl _) rfl
              · refine ObX.op rfl fun f120 wd121 he122 hout123 hphi124 => ?_
                have hS125 := St.extend hS47 he122
                obtain ⟨S126, hS127, hf128⟩ := hphi124 5 22 _ rfl rfl rfl
                have e129 : f120 22 = (Value.pointer (some (elA u91 ((k12 : Int)).toNat))) := hf128
                exact OpX.val u130 wd121 rfl (op_load one_33 e129 (Ext.cell (Ext.trans hE7 hS125.ext) hc131)) (Ext.refl _) rfl
              · refine ObX.op rfl fun f133 wd134 he135 hout136 hphi137 => ?_
                have hS138 := St.extend hS47 he135
                have e139 : f133 4 = (Value.int .i64 (k31 : Int)) := (hout136 4 rfl).trans rfl
                exact OpX.val (Value.int .i64 (k31 : Int)) wd134 rfl (op_move e139) (Ext.refl _) ⟨rfl, hr46⟩
              · refine ObX.op rfl fun f140 wd141 he142 hout143 hphi144 => ?_
                have hS145 := St.extend hS47 he142
                obtain ⟨S146, hS147, hf148⟩ := hphi144 6 23 _ rfl rfl rfl
                have e149 : f140 23 = u130 := hf148
                obtain ⟨S150, hS151, hf152⟩ := hphi144 7 24 _ rfl rfl rfl
                obtain ⟨e153, hr154⟩ := hf152
                exact OpX.val (Value.pointer (some (elA u130 ((k31 : Int)).toNat))) wd141 rfl (op_idx sl_33 (Ty.lift _ (Ext.trans hE7 hS145.ext) hr132) e149 e153 ha156 hb157) (Ext.refl _) rfl
              · refine ObX.op rfl fun f159 wd160 he161 hout162 hphi163 => ?_
                have hS164 := St.extend hS47 he161
                obtain ⟨S165, hS166, hf167⟩ := hphi163 8 25 _ rfl rfl rfl
                have e168 : f159 25 = (Value.pointer (some (elA u130 ((k31 : Int)).toNat))) := hf167
                exact OpX.val (Value.int .i64 x155) wd160 rfl (op_load one_2 e168 (Ext.cell (Ext.trans hE7 hS164.ext) hc170)) (Ext.refl _) ⟨rfl, hr171⟩
              · refine ObX.op rfl fun f172 wd173 he174 hout175 hphi176 => ?_
                have hS177 := St.extend hS47 he174
                have e178 : f172 3 = (Value.int .i64 (k12 : Int)) := (hout175 3 rfl).trans hf41
                exact OpX.val (Value.int .i64 (k12 : Int)) wd173 rfl (op_move e178) (Ext.refl _) ⟨rfl, hr24⟩
              · refine ObX.op rfl fun f179 wd180 he181 hout182 hphi183 => ?_
                have hS184 := St.extend hS47 he181
                have e185 : f179 4 = (Value.int .i64 (k31 : Int)) := (hout182 4 rfl).trans rfl
                exact OpX.val (Value.int .i64 (k31 : Int)) wd180 rfl (op_move e185) (Ext.refl _) ⟨rfl, hr46⟩
              · refine ObX.op rfl fun f186 wd187 he188 hout189 hphi190 => ?_
                have hS191 := St.extend hS47 he188
                obtain ⟨S192, hS193, hf194⟩ := hphi190 10 27 _ rfl rfl rfl
                obtain ⟨e195, hr196⟩ := hf194
                obtain ⟨S197, hS198, hf199⟩ := hphi190 11 28 _ rfl rfl rfl
                obtain ⟨e200, hr201⟩ := hf199
                refine OpX.call rfl (op_call fn_88 (args2 e195 e200)) (Ret.mono (c_impl_delta hr196 hr201 hx203) ?_)
                rintro _ wd205 ⟨rfl, hr204, he206⟩
                exact ⟨he206, _, noS _ _, ⟨rfl, hr204⟩⟩
              · refine ObX.op rfl fun f208 wd209 he210 hout211 hphi212 => ?_
                have hS213 := St.extend hS47 he210
                obtain ⟨S214, hS215, hf216⟩ := hphi212 9 26 _ rfl rfl rfl
                obtain ⟨e217, hr218⟩ := hf216
                obtain ⟨S219, hS220, hf221⟩ := hphi212 12 29 _ rfl rfl rfl
                obtain ⟨e222, hr223⟩ := hf221
                exact OpX.val (Value.bool (x155 != x202)) wd209 rfl (op_neq e217 e222) (Ext.refl _) rfl
              · refine ObX.op rfl fun f224 wd225 he226 hout227 hphi228 => ?_
                have hS229 := St.extend hS47 he226
                obtain ⟨S230, hS231, hf232⟩ := hphi228 13 30 _ rfl rfl rfl
                have e233 : f224 30 = (Value.bool (x155 != x202)) := hf232
                exact OpX.val (Value.bool (x155 != x202)) wd225 rfl (op_move e233) (Ext.refl _) rfl
              · refine ObX.op rfl fun f237 wd238 he239 hout240 hphi241 => ?_
                obtain ⟨S242, hS243, hf244⟩ := hphi241 14 31 _ rfl rfl rfl
                have e245 : f237 31 = (Value.bool (x155 != x202)) := hf244
                exact OpX.skip (wanted_skip rfl rfl e245 hc236) rfl
              · refine ObX.op rfl fun f246 wd247 he248 hout249 hphi250 => ?_
                obtain ⟨S251, hS252, hf253⟩ := hphi250 14 31 _ rfl rfl rfl
                have e254 : f246 31 = (Value.bool (x155 != x202)) := hf253
                exact OpX.skip (wanted_skip rfl rfl e254 hc236) rfl
              · refine ObX.op rfl fun f255 wd256 he257 hout258 hphi259 => ?_
                obtain ⟨S260, hS261, hf262⟩ := hphi259 14 31 _ rfl rfl rfl
                have e263 : f255 31 = (Value.bool (x155 != x202)) := hf262
                exact OpX.skip (wanted_skip rfl rfl e263 hc236) rfl
              · refine ObX.op rfl fun f264 wd265 he266 hout267 hphi268 => ?_
                obtain ⟨S269, hS270, hf271⟩ := hphi268 14 31 _ rfl rfl rfl
                have e272 : f264 31 = (Value.bool (x155 != x202)) := hf271
                exact OpX.skip (wanted_skip rfl rfl e272 hc236) rfl
              · refine ObX.op rfl fun f273 wd274 he275 hout276 hphi277 => ?_
                obtain ⟨S278, hS279, hf280⟩ := hphi277 14 31 _ rfl rfl rfl
                have e281 : f273 31 = (Value.bool (x155 != x202)) := hf280
                exact OpX.skip (wanted_skip rfl rfl e281 hc236) rfl
              · refine ObX.op rfl fun f282 wd283 he284 hout285 hphi286 => ?_
                obtain ⟨S287, hS288, hf289⟩ := hphi286 14 31 _ rfl rfl rfl
                have e290 : f282 31 = (Value.bool (x155 != x202)) := hf289
                exact OpX.skip (wanted_skip rfl rfl e290 hc236) rfl
              · refine ObX.op rfl fun f291 wd292 he293 hout294 hphi295 => ?_
                obtain ⟨S296, hS297, hf298⟩ := hphi295 14 31 _ rfl rfl rfl
                have e299 : f291 31 = (Value.bool (x155 != x202)) := hf298
                exact OpX.skip (wanted_skip rfl rfl e299 hc236) rfl
              · refine ObX.op rfl fun f300 wd301 he302 hout303 hphi304 => ?_
                obtain ⟨S305, hS306, hf307⟩ := hphi304 14 31 _ rfl rfl rfl
                have e308 : f300 31 = (Value.bool (x155 != x202)) := hf307
                exact OpX.skip (wanted_skip rfl rfl e308 hc236) rfl
              · refine ObX.op rfl fun f309 wd310 he311 hout312 hphi313 => ?_
                obtain ⟨S314, hS315, hf316⟩ := hphi313 14 31 _ rfl rfl rfl
                have e317 : f309 31 = (Value.bool (x155 != x202)) := hf316
                exact OpX.skip (wanted_skip rfl rfl e317 hc236) rfl
              · refine ObX.op rfl fun f318 wd319 he320 hout321 hphi322 => ?_
                obtain ⟨S323, hS324, hf325⟩ := hphi322 14 31 _ rfl rfl rfl
                have e326 : f318 31 = (Value.bool (x155 != x202)) := hf325
                exact OpX.skip (wanted_skip rfl rfl e326 hc236) rfl
              · refine ObX.op rfl fun f327 wd328 he329 hout330 hphi331 => ?_
                obtain ⟨S332, hS333, hf334⟩ := hphi331 14 31 _ rfl rfl rfl
                have e335 : f327 31 = (Value.bool (x155 != x202)) := hf334
                exact OpX.skip (wanted_skip rfl rfl e335 hc236) rfl
              · refine ObX.op rfl fun f336 wd337 he338 hout339 hphi340 => ?_
                obtain ⟨S341, hS342, hf343⟩ := hphi340 14 31 _ rfl rfl rfl
                have e344 : f336 31 = (Value.bool (x155 != x202)) := hf343
                exact OpX.skip (wanted_skip rfl rfl e344 hc236) rfl
              · refine ObX.op rfl fun f345 wd346 he347 hout348 hphi349 => ?_
                obtain ⟨S350, hS351, hf352⟩ := hphi349 14 31 _ rfl rfl rfl
                have e353 : f345 31 = (Value.bool (x155 != x202)) := hf352
                exact OpX.skip (wanted_skip rfl rfl e353 hc236) rfl
              · intro f354 wd355 Ss356 he357 hout358 hSn359 hSd360 hphi361
                show WL _ _ _ _ _ _ _
                have hS362 := St.extend hS47 he357
                have e363 : f354 31 = (Value.bool (x155 != x202)) := hphi361 14 31 _ (by decide) rfl rfl
                have e377 : f354 1 = (Value.pointer (some ⟨b1, 0, none⟩)) := (hout358 1 rfl).trans hf40
                have e378 : f354 3 = (Value.int .i64 (k12 : Int)) := (hout358 3 rfl).trans hf41
                have e379 : f354 4 = (Value.int .i64 (k31 : Int)) := (hout358 4 rfl).trans rfl
                have e380 : f354 7 = (Value.int .i64 ((r_Table).length : Int)) := (hout358 7 rfl).trans hf42
                have e381 : f354 8 = (Value.int .i64 (k12 : Int)) := (hout358 8 rfl).trans hf43
                have e382 : f354 13 = (Value.int .i64 ((r_Table).length : Int)) := (hout358 13 rfl).trans hf44
                have e383 : f354 14 = (Value.int .i64 (k31 : Int)) := (hout358 14 rfl).trans hf45
                refine WL.gskip rfl (bool_of e363 hc236) rfl ?_
                refine WL.val (Value.bool true) _ (op_pick_t (evb_of e363 hc236) rfl) rfl ?_
                refine WL.nil ?_
                obtain rfl := Option.some.inj hj235
                exact ⟨e377, e378, e379, e380, e381, e382, e383, rfl, hS362⟩
            · replace hj235 := inegb hj235 hc236
              obtain ⟨x439, hx442, hj235⟩ := bs hj235
              obtain ⟨ha440, hb441, hx442⟩ := idx_some hx442
              obtain ⟨u457, hc458, hr459⟩ := repSl.el r_r_Table hx442
              obtain ⟨x474, hx477, hj235⟩ := bs hj235
              obtain ⟨ha475, hb476, hx477⟩ := idx_some hx477
              obtain ⟨u492, hc493, hr494⟩ := repSl.el hr459 hx477
              obtain ⟨x525, hx528, hj235⟩ := bs hj235
              obtain ⟨ha526, hb527, hx528⟩ := idx_some hx528
              obtain ⟨u543, hc544, hr545⟩ := repSl.el hr494 hx528
              obtain ⟨rfl, hr545⟩ := hr545
              obtain ⟨x588, hx589, hj235⟩ := bs hj235
              refine W.drawR mixo 28 [] [fun _ v _ _ => v = (Value.pointer (some ⟨b1, 0, none⟩)), fun _ v _ _ => v = v_r_Table, fun _ v _ _ => v = (Value.pointer (some (elA v_r_Table ((0 : Int)).toNat))), fun _ v _ _ => v = u91, fun _ v _ _ => v = (Value.int .i64 (k12 : Int)) ∧ InR .i64 (k12 : Int), fun _ v _ _ => v = (Value.pointer (some (elA u91 ((k12 : Int)).toNat))), fun _ v _ _ => v = u130, fun _ v _ _ => v = (Value.int .i64 (k31 : Int)) ∧ InR .i64 (k31 : Int), fun _ v _ _ => v = (Value.pointer (some (elA u130 ((k31 : Int)).toNat))), fun _ v _ _ => v = (Value.int .i64 x155) ∧ InR .i64 x155, fun _ v _ _ => v = (Value.int .i64 (k12 : Int)) ∧ InR .i64 (k12 : Int), fun _ v _ _ => v = (Value.int .i64 (k31 : Int)) ∧ InR .i64 (k31 : Int), fun _ v _ _ => v = (Value.int .i64 x202) ∧ InR .i64 x202, fun _ v _ _ => v = (Value.bool (x155 != x202)), fun _ v _ _ => v = (Value.bool (x155 != x202)), fun _ v _ _ => v = (Value.pointer (some ⟨b1, 0, none⟩)), fun _ v _ _ => v = v_r_Table, fun _ v _ _ => v = (Value.int .i64 (k12 : Int)) ∧ InR .i64 (k12 : Int), fun _ v _ _ => v = (Value.pointer (some (elA v_r_Table ((k12 : Int)).toNat))), fun _ v _ _ => v = u457, fun _ v _ _ => v = (Value.pointer (some (elA u457 ((0 : Int)).toNat))), fun _ v _ _ => v = u492, fun _ v _ _ => v = (Value.int .i64 (k31 : Int)) ∧ InR .i64 (k31 : Int), fun _ v _ _ => v = (Value.pointer (some (elA u492 ((k31 : Int)).toNat))), fun _ v _ _ => v = (Value.int .i64 x525) ∧ InR .i64 x525, fun _ v _ _ => v = (Value.int .i64 (k12 : Int)) ∧ InR .i64 (k12 : Int), fun _ v _ _ => v = (Value.int .i64 (k31 : Int)) ∧ InR .i64 (k31 : Int), fun _ v _ _ => v = (Value.int .i64 x588) ∧ InR .i64 x588] (by kernel_rfl) (by kernel_rfl) ⟨pk, pk, pk, pk, pk, pk, pk, pk, pk, pk, pk, pk, pk, pk, pk, pk, pk, pk, pk, pk, pk, pk, pk, pk, pk, pk, pk, pk, trivial⟩ ⟨?_, ?_, ?_, ?_, ?_, ?_, ?_, ?_, ?_, ?_, ?_, ?_, ?_, ?_, ?_, ?_, ?_, ?_, ?_, ?_, ?_, ?_, ?_, ?_, ?_, ?_, ?_, ?_, trivial⟩ ?_
              · refine ObX.op rfl fun f50 wd51 he52 hout53 hphi54 => ?_
                have hS55 := St.extend hS47 he52
                have e56 : f50 1 = (Value.pointer (some ⟨b1, 0, none⟩)) := (hout53 1 rfl).trans hf40
                exact OpX.val (Value.pointer (some ⟨b1, 0, none⟩)) wd51 rfl (op_fieldAddr fd_26_0 e56) (Ext.refl _) rfl
              · refine ObX.op rfl fun f57 wd58 he59 hout60 hphi61 => ?_
                have hS62 := St.extend hS47 he59
                obtain ⟨S63, hS64, hf65⟩ := hphi61 0 17 _ rfl rfl rfl
                have e66 : f57 17 = (Value.pointer (some ⟨b1, 0, none⟩)) := hf65
                exact OpX.val v_r_Table wd58 rfl (op_load one_22 e66 (BoxAt.cell (BoxAt.lift hS62.ext hx6) rfl)) (Ext.refl _) rfl
              · refine ObX.op rfl fun f67 wd68 he69 hout70 hphi71 => ?_
                have hS72 := St.extend hS47 he69
                obtain ⟨S73, hS74, hf75⟩ := hphi71 1 18 _ rfl rfl rfl
                have e76 : f67 18 = v_r_Table := hf75
                exact OpX.val (Value.pointer (some (elA v_r_Table ((0 : Int)).toNat))) wd68 rfl (op_idx sl_22 (Ty.lift _ (Ext.trans hE7 hS72.ext) r_r_Table) e76 rfl ha78 hb79) (Ext.refl _) rfl
              · refine ObX.op rfl fun f81 wd82 he83 hout84 hphi85 => ?_
                have hS86 := St.extend hS47 he83
                obtain ⟨S87, hS88, hf89⟩ := hphi85 2 19 _ rfl rfl rfl
                have e90 : f81 19 = (Value.pointer (some (elA v_r_Table ((0 : Int)).toNat))) := hf89
                exact OpX.val u91 wd82 rfl (op_load one_41 e90 (Ext.cell (Ext.trans hE7 hS86.ext) hc92)) (Ext.refl _) rfl
              · refine ObX.op rfl fun f94 wd95 he96 hout97 hphi98 => ?_
                have hS99 := St.extend hS47 he96
                have e100 : f94 3 = (Value.int .i64 (k12 : Int)) := (hout97 3 rfl).trans hf41
                exact OpX.val (Value.int .i64 (k12 : Int)) wd95 rfl (op_move e100) (Ext.refl _) ⟨rfl, hr24⟩
              · refine ObX.op rfl fun f101 wd102 he103 hout104 hphi105 => ?_
                have hS106 := St.extend hS47 he103
                obtain ⟨S107, hS108, hf109⟩ := hphi105 3 20 _ rfl rfl rfl
                have e110 : f101 20 = u91 := hf109
                obtain ⟨S111, hS112, hf113⟩ := hphi105 4 21 _ rfl rfl rfl
                obtain ⟨e114, hr115⟩ := hf113
                exact OpX.val (Value.pointer (some (elA u91 ((k12 : Int)).toNat))) wd102 rfl (op_idx sl_41 (Ty.lift _ (Ext.trans hE7 hS106.ext) hr93) e110 e114 ha117 hb118) (Ext.refl _) rfl
              · refine ObX.op rfl fun f120 wd121 he122 hout123 hphi124 => ?_
                have hS125 := St.extend hS47 he122
                obtain ⟨S126, hS127, hf128⟩ := hphi124 5 22 _ rfl rfl rfl
                have e129 : f120 22 = (Value.pointer (some (elA u91 ((k12 : Int)).toNat))) := hf128
                exact OpX.val u130 wd121 rfl (op_load one_33 e129 (Ext.cell (Ext.trans hE7 hS125.ext) hc131)) (Ext.refl _) rfl
              · refine ObX.op rfl fun f133 wd134 he135 hout136 hphi137 => ?_
                have hS138 := St.extend hS47 he135
                have e139 : f133 4 = (Value.int .i64 (k31 : Int)) := (hout136 4 rfl).trans rfl
                exact OpX.val (Value.int .i64 (k31 : Int)) wd134 rfl (op_move e139) (Ext.refl _) ⟨rfl, hr46⟩
              · refine ObX.op rfl fun f140 wd141 he142 hout143 hphi144 => ?_
                have hS145 := St.extend hS47 he142
                obtain ⟨S146, hS147, hf148⟩ := hphi144 6 23 _ rfl rfl rfl
                have e149 : f140 23 = u130 := hf148
                obtain ⟨S150, hS151, hf152⟩ := hphi144 7 24 _ rfl rfl rfl
                obtain ⟨e153, hr154⟩ := hf152
                exact OpX.val (Value.pointer (some (elA u130 ((k31 : Int)).toNat))) wd141 rfl (op_idx sl_33 (Ty.lift _ (Ext.trans hE7 hS145.ext) hr132) e149 e153 ha156 hb157) (Ext.refl _) rfl
              · refine ObX.op rfl fun f159 wd160 he161 hout162 hphi163 => ?_
                have hS164 := St.extend hS47 he161
                obtain ⟨S165, hS166, hf167⟩ := hphi163 8 25 _ rfl rfl rfl
                have e168 : f159 25 = (Value.pointer (some (elA u130 ((k31 : Int)).toNat))) := hf167
                exact OpX.val (Value.int .i64 x155) wd160 rfl (op_load one_2 e168 (Ext.cell (Ext.trans hE7 hS164.ext) hc170)) (Ext.refl _) ⟨rfl, hr171⟩
              · refine ObX.op rfl fun f172 wd173 he174 hout175 hphi176 => ?_
                have hS177 := St.extend hS47 he174
                have e178 : f172 3 = (Value.int .i64 (k12 : Int)) := (hout175 3 rfl).trans hf41
                exact OpX.val (Value.int .i64 (k12 : Int)) wd173 rfl (op_move e178) (Ext.refl _) ⟨rfl, hr24⟩
              · refine ObX.op rfl fun f179 wd180 he181 hout182 hphi183 => ?_
                have hS184 := St.extend hS47 he181
                have e185 : f179 4 = (Value.int .i64 (k31 : Int)) := (hout182 4 rfl).trans rfl
                exact OpX.val (Value.int .i64 (k31 : Int)) wd180 rfl (op_move e185) (Ext.refl _) ⟨rfl, hr46⟩
              · refine ObX.op rfl fun f186 wd187 he188 hout189 hphi190 => ?_
                have hS191 := St.extend hS47 he188
                obtain ⟨S192, hS193, hf194⟩ := hphi190 10 27 _ rfl rfl rfl
                obtain ⟨e195, hr196⟩ := hf194
                obtain ⟨S197, hS198, hf199⟩ := hphi190 11 28 _ rfl rfl rfl
                obtain ⟨e200, hr201⟩ := hf199
                refine OpX.call rfl (op_call fn_88 (args2 e195 e200)) (Ret.mono (c_impl_delta hr196 hr201 hx203) ?_)
                rintro _ wd205 ⟨rfl, hr204, he206⟩
                exact ⟨he206, _, noS _ _, ⟨rfl, hr204⟩⟩
              · refine ObX.op rfl fun f208 wd209 he210 hout211 hphi212 => ?_
                have hS213 := St.extend hS47 he210
                obtain ⟨S214, hS215, hf216⟩ := hphi212 9 26 _ rfl rfl rfl
                obtain ⟨e217, hr218⟩ := hf216
                obtain ⟨S219, hS220, hf221⟩ := hphi212 12 29 _ rfl rfl rfl
                obtain ⟨e222, hr223⟩ := hf221
                exact OpX.val (Value.bool (x155 != x202)) wd209 rfl (op_neq e217 e222) (Ext.refl _) rfl
              · refine ObX.op rfl fun f224 wd225 he226 hout227 hphi228 => ?_
                have hS229 := St.extend hS47 he226
                obtain ⟨S230, hS231, hf232⟩ := hphi228 13 30 _ rfl rfl rfl
                have e233 : f224 30 = (Value.bool (x155 != x202)) := hf232
                exact OpX.val (Value.bool (x155 != x202)) wd225 rfl (op_move e233) (Ext.refl _) rfl
              · refine ObX.op rfl fun f384 wd385 he386 hout387 hphi388 => ?_
                have e390 : f384 1 = (Value.pointer (some ⟨b1, 0, none⟩)) := (hout387 1 rfl).trans hf40
                obtain ⟨S391, hS392, hf393⟩ := hphi388 14 31 _ rfl rfl rfl
                have e394 : f384 31 = (Value.bool (x155 != x202)) := hf393
                exact OpX.val (Value.pointer (some ⟨b1, 0, none⟩)) wd385 (wanted_run rfl rfl e394 hc236) (op_fieldAddr fd_26_0 e390) (Ext.refl _) rfl
              · refine ObX.op rfl fun f395 wd396 he397 hout398 hphi399 => ?_
                have hS400 := St.extend hS47 he397
                obtain ⟨S401, hS402, hf403⟩ := hphi399 14 31 _ rfl rfl rfl
                have e404 : f395 31 = (Value.bool (x155 != x202)) := hf403
                obtain ⟨S405, hS406, hf407⟩ := hphi399 15 32 _ rfl rfl rfl
                have e408 : f395 32 = (Value.pointer (some ⟨b1, 0, none⟩)) := hf407
                exact OpX.val v_r_Table wd396 (wanted_run rfl rfl e404 hc236) (op_load one_22 e408 (BoxAt.cell (BoxAt.lift hS400.ext hx6) rfl)) (Ext.refl _) rfl
              · refine ObX.op rfl fun f409 wd410 he411 hout412 hphi413 => ?_
                have e415 : f409 3 = (Value.int .i64 (k12 : Int)) := (hout412 3 rfl).trans hf41
                obtain ⟨S416, hS417, hf418⟩ := hphi413 14 31 _ rfl rfl rfl
                have e419 : f409 31 = (Value.bool (x155 != x202)) := hf418
                exact OpX.val (Value.int .i64 (k12 : Int)) wd410 (wanted_run rfl rfl e419 hc236) (op_move e415) (Ext.refl _) ⟨rfl, hr24⟩
              · refine ObX.op rfl fun f420 wd421 he422 hout423 hphi424 => ?_
                have hS425 := St.extend hS47 he422
                obtain ⟨S426, hS427, hf428⟩ := hphi424 14 31 _ rfl rfl rfl
                have e429 : f420 31 = (Value.bool (x155 != x202)) := hf428
                obtain ⟨S430, hS431, hf432⟩ := hphi424 16 33 _ rfl rfl rfl
                have e433 : f420 33 = v_r_Table := hf432
                obtain ⟨S434, hS435, hf436⟩ := hphi424 17 34 _ rfl rfl rfl
                obtain ⟨e437, hr438⟩ := hf436
                exact OpX.val (Value.pointer (some (elA v_r_Table ((k12 : Int)).toNat))) wd421 (wanted_run rfl rfl e429 hc236) (op_idx sl_22 (Ty.lift _ (Ext.trans hE7 hS425.ext) r_r_Table) e433 e437 ha440 hb441) (Ext.refl _) rfl
              · refine ObX.op rfl fun f443 wd444 he445 hout446 hphi447 => ?_
                have hS448 := St.extend hS47 he445
                obtain ⟨S449, hS450, hf451⟩ := hphi447 14 31 _ rfl rfl rfl
                have e452 : f443 31 = (Value.bool (x155 != x202)) := hf451
                obtain ⟨S453, hS454, hf455⟩ := hphi447 18 35 _ rfl rfl rfl
                have e456 : f443 35 = (Value.pointer (some (elA v_r_Table ((k12 : Int)).toNat))) := hf455
                exact OpX.val u457 wd444 (wanted_run rfl rfl e452 hc236) (op_load one_41 e456 (Ext.cell (Ext.trans hE7 hS448.ext) hc458)) (Ext.refl _) rfl
              · refine ObX.op rfl fun f460 wd461 he462 hout463 hphi464 => ?_
                have hS465 := St.extend hS47 he462
                obtain ⟨S466, hS467, hf468⟩ := hphi464 14 31 _ rfl rfl rfl
                have e469 : f460 31 = (Value.bool (x155 != x202)) := hf468
                obtain ⟨S470, hS471, hf472⟩ := hphi464 19 36 _ rfl rfl rfl
                have e473 : f460 36 = u457 := hf472
                exact OpX.val (Value.pointer (some (elA u457 ((0 : Int)).toNat))) wd461 (wanted_run rfl rfl e469 hc236) (op_idx sl_41 (Ty.lift _ (Ext.trans hE7 hS465.ext) hr459) e473 rfl ha475 hb476) (Ext.refl _) rfl
              · refine ObX.op rfl fun f478 wd479 he480 hout481 hphi482 => ?_
                have hS483 := St.extend hS47 he480
                obtain ⟨S484, hS485, hf486⟩ := hphi482 14 31 _ rfl rfl rfl
                have e487 : f478 31 = (Value.bool (x155 != x202)) := hf486
                obtain ⟨S488, hS489, hf490⟩ := hphi482 20 37 _ rfl rfl rfl
                have e491 : f478 37 = (Value.pointer (some (elA u457 ((0 : Int)).toNat))) := hf490
                exact OpX.val u492 wd479 (wanted_run rfl rfl e487 hc236) (op_load one_33 e491 (Ext.cell (Ext.trans hE7 hS483.ext) hc493)) (Ext.refl _) rfl
              · refine ObX.op rfl fun f495 wd496 he497 hout498 hphi499 => ?_
                have e501 : f495 4 = (Value.int .i64 (k31 : Int)) := (hout498 4 rfl).trans rfl
                obtain ⟨S502, hS503, hf504⟩ := hphi499 14 31 _ rfl rfl rfl
                have e505 : f495 31 = (Value.bool (x155 != x202)) := hf504
                exact OpX.val (Value.int .i64 (k31 : Int)) wd496 (wanted_run rfl rfl e505 hc236) (op_move e501) (Ext.refl _) ⟨rfl, hr46⟩
              · refine ObX.op rfl fun f506 wd507 he508 hout509 hphi510 => ?_
                have hS511 := St.extend hS47 he508
                obtain ⟨S512, hS513, hf514⟩ := hphi510 14 31 _ rfl rfl rfl
                have e515 : f506 31 = (Value.bool (x155 != x202)) := hf514
                obtain ⟨S516, hS517, hf518⟩ := hphi510 21 38 _ rfl rfl rfl
                have e519 : f506 38 = u492 := hf518
                obtain ⟨S520, hS521, hf522⟩ := hphi510 22 39 _ rfl rfl rfl
                obtain ⟨e523, hr524⟩ := hf522
                exact OpX.val (Value.pointer (some (elA u492 ((k31 : Int)).toNat))) wd507 (wanted_run rfl rfl e515 hc236) (op_idx sl_33 (Ty.lift _ (Ext.trans hE7 hS511.ext) hr494) e519 e523 ha526 hb527) (Ext.refl _) rfl
              · refine ObX.op rfl fun f529 wd530 he531 hout532 hphi533 => ?_
                have hS534 := St.extend hS47 he531
                obtain ⟨S535, hS536, hf537⟩ := hphi533 14 31 _ rfl rfl rfl
                have e538 : f529 31 = (Value.bool (x155 != x202)) := hf537
                obtain ⟨S539, hS540, hf541⟩ := hphi533 23 40 _ rfl rfl rfl
                have e542 : f529 40 = (Value.pointer (some (elA u492 ((k31 : Int)).toNat))) := hf541
                exact OpX.val (Value.int .i64 x525) wd530 (wanted_run rfl rfl e538 hc236) (op_load one_2 e542 (Ext.cell (Ext.trans hE7 hS534.ext) hc544)) (Ext.refl _) ⟨rfl, hr545⟩
              · refine ObX.op rfl fun f546 wd547 he548 hout549 hphi550 => ?_
                have e552 : f546 3 = (Value.int .i64 (k12 : Int)) := (hout549 3 rfl).trans hf41
                obtain ⟨S553, hS554, hf555⟩ := hphi550 14 31 _ rfl rfl rfl
                have e556 : f546 31 = (Value.bool (x155 != x202)) := hf555
                exact OpX.val (Value.int .i64 (k12 : Int)) wd547 (wanted_run rfl rfl e556 hc236) (op_move e552) (Ext.refl _) ⟨rfl, hr24⟩
              · refine ObX.op rfl fun f557 wd558 he559 hout560 hphi561 => ?_
                have e563 : f557 4 = (Value.int .i64 (k31 : Int)) := (hout560 4 rfl).trans rfl
                obtain ⟨S564, hS565, hf566⟩ := hphi561 14 31 _ rfl rfl rfl
                have e567 : f557 31 = (Value.bool (x155 != x202)) := hf566
                exact OpX.val (Value.int .i64 (k31 : Int)) wd558 (wanted_run rfl rfl e567 hc236) (op_move e563) (Ext.refl _) ⟨rfl, hr46⟩
              · refine ObX.op rfl fun f568 wd569 he570 hout571 hphi572 => ?_
                obtain ⟨S574, hS575, hf576⟩ := hphi572 14 31 _ rfl rfl rfl
                have e577 : f568 31 = (Value.bool (x155 != x202)) := hf576
                obtain ⟨S578, hS579, hf580⟩ := hphi572 25 42 _ rfl rfl rfl
                obtain ⟨e581, hr582⟩ := hf580
                obtain ⟨S583, hS584, hf585⟩ := hphi572 26 43 _ rfl rfl rfl
                obtain ⟨e586, hr587⟩ := hf585
                refine OpX.call (wanted_run rfl rfl e577 hc236) (op_call fn_88 (args2 e581 e586)) (Ret.mono (c_impl_delta hr582 hr587 hx589) ?_)
                rintro _ wd591 ⟨rfl, hr590, he592⟩
                exact ⟨he592, _, noS _ _, ⟨rfl, hr590⟩⟩
              · intro f594 wd595 Ss596 he597 hout598 hSn599 hSd600 hphi601
                show WL _ _ _ _ _ _ _
                have hS602 := St.extend hS47 he597
                have e603 : f594 31 = (Value.bool (x155 != x202)) := hphi601 14 31 _ (by decide) rfl rfl
                obtain ⟨e606, hr607⟩ := hphi601 17 34 _ (by decide) rfl rfl
                obtain ⟨e612, hr613⟩ := hphi601 22 39 _ (by decide) rfl rfl
                obtain ⟨e615, hr616⟩ := hphi601 24 41 _ (by decide) rfl rfl
                obtain ⟨e617, hr618⟩ := hphi601 25 42 _ (by decide) rfl rfl
                obtain ⟨e619, hr620⟩ := hphi601 26 43 _ (by decide) rfl rfl
                obtain ⟨e621, hr622⟩ := hphi601 27 44 _ (by decide) rfl rfl
                have e623 : f594 1 = (Value.pointer (some ⟨b1, 0, none⟩)) := (hout598 1 rfl).trans hf40
                have e624 : f594 3 = (Value.int .i64 (k12 : Int)) := (hout598 3 rfl).trans hf41
                have e625 : f594 4 = (Value.int .i64 (k31 : Int)) := (hout598 4 rfl).trans rfl
                have e626 : f594 7 = (Value.int .i64 ((r_Table).length : Int)) := (hout598 7 rfl).trans hf42
                have e627 : f594 8 = (Value.int .i64 (k12 : Int)) := (hout598 8 rfl).trans hf43
                have e628 : f594 13 = (Value.int .i64 ((r_Table).length : Int)) := (hout598 13 rfl).trans hf44
                have e629 : f594 14 = (Value.int .i64 (k31 : Int)) := (hout598 14 rfl).trans hf45
                refine WL.grun rfl (bool_of e603 hc236) ?_
                refine WL.val (Value.bool (x525 != x588)) _ (op_neq e615 e621) rfl ?_
                refine WL.val (Value.bool (x525 != x588)) _ (op_pick_f (evb_of e603 hc236) rfl) rfl ?_
                refine WL.nil ?_
                obtain rfl := Option.some.inj hj235
                exact ⟨e623, e624, e625, e626, e627, e628, e629, rfl, hS602⟩
          · intro f630 wd631 hq632
            obtain ⟨hf633, hf634, hf635, hf636, hf637, hf638, hf639, hf640, hS641⟩ := hq632
            refine W.cond x234 hf640 (fun hc642 => ?_) (fun hc642 => ?_)
            · replace hb36 := ip hb36 hc642
              refine W.seq (W.region ?_)
              refine WL.val (Value.int .i64 (k12 : Int)) _ (op_move hf634) rfl ?_
              refine WL.val (Value.int .i64 (k31 : Int)) _ (op_move hf635) rfl ?_
              refine WL.litFlat (t := (Ty.i .i64)) (flat_i .i64) [(Value.int .i64 (0 : Int)), (Value.int .i64 (k12 : Int)), (Value.int .i64 (k31 : Int))] [(0 : Int), (k12 : Int), (k31 : Int)] hS641 sl_33 rfl rfl (fillL rfl ⟨rfl, rfl, rfl, rfl, rfl, rfl, rfl, rfl, rfl, trivial⟩) rfl rfl (litL ⟨⟨rfl, (inL rfl)⟩, ⟨rfl, hr24⟩, ⟨rfl, hr46⟩, trivial⟩) rfl ?_
              intro u644 wd645 hS646 he647
              replace hS646 : St wd2 wd645 [(Ty.sl (Ty.i .i64)).at u644 ([(0 : Int), (k12 : Int), (k31 : Int)] : (List Int))] := hS646
              refine WL.val u644 _ (op_assign rfl) rfl ?_
              refine WL.nil ?_
              refine W.ret ?_
              obtain rfl := Option.some.inj hb36
              obtain rfl := hret39 _ rfl
              replace hb17 := onRes_ret hb17
              obtain rfl := Option.some.inj hb17
              obtain rfl := hret20 _ rfl
              replace h := onRes_ret h
              obtain rfl := Option.some.inj h
              show FinP _ _ _ _ _ _ _
              exact FinP.ret _ (res1 rfl rfl) ⟨u644, rfl, (nil_cons), (Ext.trans hE7 hS646.ext), (St.out (St.pick hS646 [0] rfl) (hE7))⟩
            · replace hb36 := inegb hb36 hc642
              refine W.skip ?_
              show W _ _ _ _ _ _
              refine W.region ?_
              refine WL.val (Value.int .i64 (w64 ((k31 : Int) + (1 : Int)))) _ (op_add hf639 rfl) rfl ?_
              refine WL.val (Value.int .i64 (w64 ((k31 : Int) + (1 : Int)))) _ (op_move rfl) rfl ?_
              refine WL.nil ?_
              obtain rfl := Option.some.inj hb36
              show ∃ s, _ = Ctl.next s ∧ _
              exact ⟨_, rfl, hf633, hf634, hf636, hf637, hf638, (ctr_next hl48 hr28), (ctr_rng hl48 hr28), hS641⟩
        · intro s653 f649 wd650 hs651 hI652
          obtain ⟨⟩ := s653
          replace hI652 : f649 1 = (Value.pointer (some ⟨b1, 0, none⟩)) ∧ f649 3 = (Value.int .i64 (k12 : Int)) ∧ f649 7 = (Value.int .i64 ((r_Table).length : Int)) ∧ f649 8 = (Value.int .i64 (k12 : Int)) ∧ f649 13 = (Value.int .i64 ((r_Table).length : Int)) ∧ f649 14 = Value.int .i64 (((r_Table).length : Nat) : Int) ∧ InR .i64 (((r_Table).length : Nat) : Int) ∧ St wd2 wd650 [] := hI652
          obtain ⟨hf654, hf655, hf656, hf657, hf658, hf659, hr660, hS661⟩ := hI652
          refine W.seq (W.region ?_)
          refine WL.val (Value.bool (decide ((((r_Table).length : Nat) : Int) < ((r_Table).length : Int)))) _ (op_lss hf659 hf658) rfl ?_
          have hl662 : ¬ (((r_Table).length : Nat) : Int) < ((r_Table).length : Int) := by omega
          refine WL.nil ?_
          refine W.seq ?_
          refine W.condF (decide ((((r_Table).length : Nat) : Int) < ((r_Table).length : Int))) rfl (decide_eq_false hl662) ?_
          refine W.exit ?_
          show _ = _ ∧ _
          exact ⟨rfl, _, hs651, hf654, hf656, hf657, hS661⟩
      · rintro f663 wd664 ⟨s666, rfl, hq665⟩
        replace hb17 := onRes_fin hb17
        obtain ⟨⟩ := s666
        replace hq665 : f663 1 = (Value.pointer (some ⟨b1, 0, none⟩)) ∧ f663 7 = (Value.int .i64 ((r_Table).length : Int)) ∧ f663 8 = (Value.int .i64 (k12 : Int)) ∧ St wd2 wd664 [] := hq665
        obtain ⟨hf667, hf668, hf669, hS670⟩ := hq665
        show W _ _ _ _ _ _
        refine W.region ?_
        refine WL.val (Value.int .i64 (w64 ((k12 : Int) + (1 : Int)))) _ (op_add hf669 rfl) rfl ?_
        refine WL.val (Value.int .i64 (w64 ((k12 : Int) + (1 : Int)))) _ (op_move rfl) rfl ?_
        refine WL.nil ?_
        obtain rfl := Option.some.inj hb17
        show ∃ s, _ = Ctl.next s ∧ _
        exact ⟨_, rfl, hf667, hf668, (ctr_next hl26 hr9), (ctr_rng hl26 hr9), hS670⟩
    · intro s677 f673 wd674 hs675 hI676
      obtain ⟨⟩ := s677
      replace hI676 : f673 1 = (Value.pointer (some ⟨b1, 0, none⟩)) ∧ f673 7 = (Value.int .i64 ((r_Table).length : Int)) ∧ f673 8 = Value.int .i64 (((r_Table).length : Nat) : Int) ∧ InR .i64 (((r_Table).length : Nat) : Int) ∧ St wd2 wd674 [] := hI676
      obtain ⟨hf678, hf679, hf680, hr681, hS682⟩ := hI676
      refine W.seq (W.region ?_)
      refine WL.val (Value.bool (decide ((((r_Table).length : Nat) : Int) < ((r_Table).length : Int)))) _ (op_lss hf680 hf679) rfl ?_
      have hl683 : ¬ (((r_Table).length : Nat) : Int) < ((r_Table).length : Int) := by omega
      refine WL.nil ?_
      refine W.seq ?_
      refine W.condF (decide ((((r_Table).length : Nat) : Int) < ((r_Table).length : Int))) rfl (decide_eq_false hl683) ?_
      refine W.exit ?_
      show _ = _ ∧ _
      exact ⟨rfl, _, hs675, hS682⟩
  · rintro f684 wd685 ⟨s687, rfl, hq686⟩
    replace h := onRes_fin h
    obtain ⟨⟩ := s687
    replace hq686 : St wd2 wd685 [] := hq686
    have hS688 := hq686
    refine W.seq (W.region ?_)
    refine WL.val (Value.slice none 0 0) _ (op_assign rfl) rfl ?_
    refine WL.nil ?_
    refine W.ret ?_
    obtain rfl := Option.some.inj h
    show FinP _ _ _ _ _ _ _
    exact FinP.ret _ (res1 rfl rfl) ⟨(Value.slice none 0 0), rfl, (fun _ => ⟨0, 0, rfl⟩), (Ext.trans hE7 hS688.ext), (St.out (St.pick (St.addNil (Ty.i .i64) hS688) [0] rfl) (hE7))⟩

theorem c_impl_Ring_onlyOf {w : World} {r_Table : (List (List (List Int)))} {v_r_Table : Value} {i : Int} (r_r_Table : (Ty.sl (Ty.sl (Ty.sl (Ty.i .i64)))).rep w v_r_Table r_Table) (r_i : InR .i64 i) {res : Int} (h : p_impl_Ring_onlyOf r_Table i  = some res) :
    Ret Tryd.prog 77 #[(Value.agg #[v_r_Table]), (Value.int .i64 i)] w (fun v w' => v = Value.int .i64 res ∧ InR .i64 res ∧ Ext w w') := by
  unfold p_impl_Ring_onlyOf at h
  have hS0 : St w w [] := St.start w
  refine Ret.start (fn := Tryd.f77) Tryd.func77 rfl 34 rfl rfl ?_
  refine W.seq (W.region ?_)
  refine WL.box hS0 rfl (cs := [v_r_Table]) rfl rfl ?_
  intro b1 wd2 hS3 he4 hx5
  replace hS3 : St w wd2 [bx b1 [v_r_Table]] := hS3
  have hx6 := St.boxAt hS3 0 rfl
  have hE7 : Ext w wd2 := hS3.ext
  have hS8 : St wd2 wd2 [] := St.start wd2
  refine WL.val (Value.int .i64 (0 : Int)) _ (op_assign rfl) rfl ?_
  refine WL.nil ?_
  refine W.seq (W.region ?_)
  refine WL.val (Value.int .i64 (-1 : Int)) _ (op_assign rfl) rfl ?_
  refine WL.nil ?_
  refine W.seq (W.seq (W.region ?_))
  refine WL.val (Value.pointer (some ⟨b1, 0, none⟩)) _ (op_fieldAddr fd_26_0 rfl) rfl ?_
  refine WL.val v_r_Table _ (op_load one_22 rfl (BoxAt.cell (BoxAt.lift hS8.ext hx6) rfl)) rfl ?_
  refine WL.val (Value.int .i64 i) _ (op_move rfl) rfl ?_
  obtain ⟨x9, hx12, h⟩ := bs h
  obtain ⟨ha10, hb11, hx12⟩ := idx_some hx12
  refine WL.val (Value.pointer (some (elA v_r_Table (i).toNat))) _ (op_idx sl_22 (Ty.lift _ (Ext.trans hE7 hS8.ext) r_r_Table) rfl rfl ha10 hb11) rfl ?_
  obtain ⟨u13, hc14, hr15⟩ := repSl.el r_r_Table hx12
  refine WL.val u13 _ (op_load one_41 rfl (Ext.cell (Ext.trans hE7 hS8.ext) hc14)) rfl ?_
  have hr16 := inR_len (Ty.lift _ (Ext.trans hE7 hS8.ext) hr15)
  refine WL.val (Value.int .i64 ((x9).length : Int)) _ (op_lenL sl_41 (Ty.lift _ (Ext.trans hE7 hS8.ext) hr15) rfl) rfl ?_
  refine WL.val (Value.int .i64 (0 : Int)) _ (op_move rfl) rfl ?_
  refine WL.nil ?_
  show W _ _ _ _ _ _
  obtain ⟨res17, hres18, h⟩ := bs h
  refine W.blockLoop (fun fq wq => ∃ s, res17 = Res.fin s ∧ fq 5 = Value.int .i64 s ∧ InR .i64 s ∧ St wd2 wq []) ?_ ?_
  · refine W.forN (fun k (s : Int) fq wq => fq 5 = Value.int .i64 s ∧ InR .i64 s ∧ fq 12 = u13 ∧ fq 13 = (Value.int .i64 ((x9).length : Int)) ∧ fq 14 = Value.int .i64 (k : Int) ∧ InR .i64 (k : Int) ∧ St wd2 wq []) hres18 ⟨rfl, (inR_i64.2 (show (-9223372036854775808 : Int) ≤ -1 ∧ (-1 : Int) ≤ 9223372036854775807 from by decide)), rfl, rfl, rfl, (inL rfl), hS8⟩ ?_ ?_
    · intro k19 x20 ct21 f22 wd23 hk24 hb25 hI26 hbrk27 hret28
      replace hI26 : f22 5 = Value.int .i64 x20 ∧ InR .i64 x20 ∧ f22 12 = u13 ∧ f22 13 = (Value.int .i64 ((x9).length : Int)) ∧ f22 14 = Value.int .i64 (k19 : Int) ∧ InR .i64 (k19 : Int) ∧ St wd2 wd23 [] := hI26
      replace hb25 : p_impl_Ring_onlyOf_L1 x9 k19 x20 = some ct21 := hb25
      unfold p_impl_Ring_onlyOf_L1 at hb25
      obtain ⟨hf29, hr30, hf31, hf32, hf33, hr34, hS35⟩ := hI26
      refine W.seq (W.region ?_)
      refine WL.val (Value.bool (decide ((k19 : Int) < ((x9).length : Int)))) _ (op_lss hf33 hf32) rfl ?_
      have hl36 : (k19 : Int) < ((x9).length : Int) := by omega
      refine WL.nil ?_
      refine W.seq ?_
      refine W.condT (decide ((k19 : Int) < ((x9).length : Int))) rfl (decide_eq_true hl36) ?_
      refine W.skip ?_
      refine W.seq ?_
      refine W.block ?_
      refine W.seq (W.region ?_)
      refine WL.val (Value.int .i64 (k19 : Int)) _ (op_move hf33) rfl ?_
      obtain ⟨x38, hx41, hb25⟩ := bs hb25
      obtain ⟨ha39, hb40, hx41⟩ := idx_some hx41
      refine WL.val (Value.pointer (some (elA u13 ((k19 : Int)).toNat))) _ (op_idx sl_41 (Ty.lift _ (Ext.trans hE7 hS35.ext) hr15) hf31 hf33 ha39 hb40) rfl ?_
      obtain ⟨u42, hc43, hr44⟩ := repSl.el hr15 hx41
      refine WL.val u42 _ (op_load one_33 rfl (Ext.cell (Ext.trans hE7 hS35.ext) hc43)) rfl ?_
      refine WL.val (Value.int .i64 (k19 : Int)) _ (op_assign rfl) rfl ?_
      refine WL.val u42 _ (op_assign rfl) rfl ?_
      refine WL.nil ?_
      refine W.seq (W.seq (W.region ?_))
      refine WL.val u42 _ (op_move rfl) rfl ?_
      obtain ⟨x45, hx48, hb25⟩ := bs hb25
      obtain ⟨ha46, hb47, hx48⟩ := idx_some hx48
      refine WL.val (Value.pointer (some (elA u42 ((0 : Int)).toNat))) _ (op_idx sl_33 (Ty.lift _ (Ext.trans hE7 hS35.ext) hr44) rfl rfl ha46 hb47) rfl ?_
      obtain ⟨u49, hc50, hr51⟩ := repSl.el hr44 hx48
      obtain ⟨rfl, hr51⟩ := hr51
      refine WL.val (Value.int .i64 x45) _ (op_load one_2 rfl (Ext.cell (Ext.trans hE7 hS35.ext) hc50)) rfl ?_
      refine WL.val (Value.bool (x45 == (0 : Int))) _ (op_eql rfl rfl) rfl ?_
      refine WL.nil ?_
      refine W.cond (x45 == (0 : Int)) rfl (fun hc52 => ?_) (fun hc52 => ?_)
      · replace hb25 := ip hb25 hc52
        refine W.exit ?_
        show W _ _ _ _ _ _
        refine W.region ?_
        refine WL.val (Value.int .i64 (w64 ((k19 : Int) + (1 : Int)))) _ (op_add hf33 rfl) rfl ?_
        refine WL.val (Value.int .i64 (w64 ((k19 : Int) + (1 : Int)))) _ (op_move rfl) rfl ?_
        refine WL.nil ?_
        obtain rfl := Option.some.inj hb25
        show ∃ s, _ = Ctl.next s ∧ _
        exact ⟨_, rfl, hf29, hr30, hf31, hf32, (ctr_next hl36 hr16), (ctr_rng hl36 hr16), hS35⟩
      · replace hb25 := inegb hb25 hc52
        refine W.skip ?_
        refine W.seq (W.seq (W.region ?_))
        refine WL.val (Value.int .i64 x20) _ (op_move hf29) rfl ?_
        refine WL.val (Value.bool (decide (x20 ≥ (0 : Int)))) _ (op_geq rfl rfl) rfl ?_
        refine WL.val (Value.bool (decide (x20 ≥ (0 : Int)))) _ (op_move rfl) rfl ?_
        refine WL.cut 5 (fun fq wq => fq 6 = (Value.int .i64 (k19 : Int)) ∧ fq 12 = u13 ∧ fq 13 = (Value.int .i64 ((x9).length : Int)) ∧ fq 14 = (Value.int .i64 (k19 : Int)) ∧ fq 30 = (Value.bool ((decide (x20 ≥ (0 : Int))) || (x45 != (1 : Int)))) ∧ St wd2 wq []) ?_ ?_
        · rcases Bool.eq_false_or_eq_true (decide (x20 ≥ (0 : Int))) with hc54 | hc54
          · refine WL.gskip rfl (bool_of rfl hc54) rfl ?_
            refine WL.gskip rfl (bool_of rfl hc54) rfl ?_
            refine WL.gskip rfl (bool_of rfl hc54) rfl ?_
            refine WL.gskip rfl (bool_of rfl hc54) rfl ?_
            refine WL.val (Value.bool true) _ (op_pick_t (evb_of rfl hc54) rfl) rfl ?_
            refine WL.nil ?_
            exact ⟨rfl, rfl, hf31, hf32, hf33, (orT hc54), hS35⟩
          · refine WL.grun rfl (bool_of rfl hc54) ?_
            refine WL.val u42 _ (op_move rfl) rfl ?_
            refine WL.grun rfl (bool_of rfl hc54) ?_
            refine WL.val (Value.pointer (some (elA u42 ((0 : Int)).toNat))) _ (op_idx sl_33 (Ty.lift _ (Ext.trans hE7 hS35.ext) hr44) rfl rfl ha46 hb47) rfl ?_
            refine WL.grun rfl (bool_of rfl hc54) ?_
            obtain ⟨u58, hc59, hr60⟩ := repSl.el hr44 hx48
            obtain ⟨rfl, hr60⟩ := hr60
            refine WL.val (Value.int .i64 x45) _ (op_load one_2 rfl (Ext.cell (Ext.trans hE7 hS35.ext) hc59)) rfl ?_
            refine WL.grun rfl (bool_of rfl hc54) ?_
            refine WL.val (Value.bool (x45 != (1 : Int))) _ (op_neq rfl rfl) rfl ?_
            refine WL.val (Value.bool (x45 != (1 : Int))) _ (op_pick_f (evb_of rfl hc54) rfl) rfl ?_
            refine WL.nil ?_
            exact ⟨rfl, rfl, hf31, hf32, hf33, (orF hc54), hS35⟩
        · intro f55 wd56 hq57
          obtain ⟨hf61, hf62, hf63, hf64, hf65, hS66⟩ := hq57
          refine WL.nil ?_
          refine W.cond ((decide (x20 ≥ (0 : Int))) || (x45 != (1 : Int))) hf65 (fun hc67 => ?_) (fun hc67 => ?_)
          · replace hb25 := ip hb25 hc67
            refine W.seq (W.region ?_)
            refine WL.val (Value.int .i64 (-1 : Int)) _ (op_assign rfl) rfl ?_
            refine WL.nil ?_
            refine W.ret ?_
            obtain rfl := Option.some.inj hb25
            obtain rfl := hret28 _ rfl
            replace h := onRes_ret h
            obtain rfl := Option.some.inj h
            show FinP _ _ _ _ _ _ _
            exact FinP.ret _ (res1 rfl rfl) ⟨rfl, (inR_i64.2 (show (-9223372036854775808 : Int) ≤ -1 ∧ (-1 : Int) ≤ 9223372036854775807 from by decide)), (Ext.trans hE7 hS66.ext)⟩
          · replace hb25 := inegb hb25 hc67
            refine W.skip ?_
            show W _ _ _ _ _ _
            refine W.region ?_
            refine WL.val (Value.int .i64 (k19 : Int)) _ (op_move hf61) rfl ?_
            refine WL.val (Value.int .i64 (k19 : Int)) _ (op_assign rfl) rfl ?_
            refine WL.nil ?_
            show W _ _ _ _ _ _
            refine W.region ?_
            refine WL.val (Value.int .i64 (w64 ((k19 : Int) + (1 : Int)))) _ (op_add hf64 rfl) rfl ?_
            refine WL.val (Value.int .i64 (w64 ((k19 : Int) + (1 : Int)))) _ (op_move rfl) rfl ?_
            refine WL.nil ?_
            obtain rfl := Option.some.inj hb25
            show ∃ s, _ = Ctl.next s ∧ _
            exact ⟨_, rfl, rfl, hr34, hf62, hf63, (ctr_next hl36 hr16), (ctr_rng hl36 hr16), hS66⟩
    · intro x75 f70 wd71 hs72 hI73
      replace hI73 : f70 5 = Value.int .i64 x75 ∧ InR .i64 x75 ∧ f70 12 = u13 ∧ f70 13 = (Value.int .i64 ((x9).length : Int)) ∧ f70 14 = Value.int .i64 (((x9).length : Nat) : Int) ∧ InR .i64 (((x9).length : Nat) : Int) ∧ St wd2 wd71 [] := hI73
      obtain ⟨hf76, hr77, hf78, hf79, hf80, hr81, hS82⟩ := hI73
      refine W.seq (W.region ?_)
      refine WL.val (Value.bool (decide ((((x9).length : Nat) : Int) < ((x9).length : Int)))) _ (op_lss hf80 hf79) rfl ?_
      have hl83 : ¬ (((x9).length : Nat) : Int) < ((x9).length : Int) := by omega
      refine WL.nil ?_
      refine W.seq ?_
      refine W.condF (decide ((((x9).length : Nat) : Int) < ((x9).length : Int))) rfl (decide_eq_false hl83) ?_
      refine W.exit ?_
      show _ = _ ∧ _
      exact ⟨rfl, _, hs72, hf76, hr77, hS82⟩
  · rintro f84 wd85 ⟨x88, rfl, hq86⟩
    replace h := onRes_fin h
    replace hq86 : f84 5 = Value.int .i64 x88 ∧ InR .i64 x88 ∧ St wd2 wd85 [] := hq86
    obtain ⟨hf89, hr90, hS91⟩ := hq86
    refine W.seq (W.region ?_)
    refine WL.val (Value.int .i64 x88) _ (op_move hf89) rfl ?_
    refine WL.val (Value.int .i64 x88) _ (op_assign rfl) rfl ?_
    refine WL.nil ?_
    refine W.ret ?_
    obtain rfl := Option.some.inj h
    show FinP _ _ _ _ _ _ _
    exact FinP.ret _ (res1 rfl rfl) ⟨rfl, hr90, (Ext.trans hE7 hS91.ext)⟩

theorem c_impl_Ring_dualFault {w : World} {r_Table : (List (List (List Int)))} {v_r_Table : Value} (r_r_Table : (Ty.sl (Ty.sl (Ty.sl (Ty.i .i64)))).rep w v_r_Table r_Table) {res : Int} (h : p_impl_Ring_dualFault r_Table  = some res) :
    Ret Tryd.prog 82 #[(Value.agg #[v_r_Table])] w (fun v w' => v = Value.int .i64 res ∧ InR .i64 res ∧ Ext w w') := by
  unfold p_impl_Ring_dualFault at h
  have hS0 : St w w [] := St.start w
  refine Ret.start (fn := Tryd.f82) Tryd.func82 rfl 25 rfl rfl ?_
  refine W.seq (W.region ?_)
  refine WL.box hS0 rfl (cs := [v_r_Table]) rfl rfl ?_
  intro b1 wd2 hS3 he4 hx5
  replace hS3 : St w wd2 [bx b1 [v_r_Table]] := hS3
  have hx6 := St.boxAt hS3 0 rfl
  have hE7 : Ext w wd2 := hS3.ext
  have hS8 : St wd2 wd2 [] := St.start wd2
  refine WL.val (Value.int .i64 (0 : Int)) _ (op_assign rfl) rfl ?_
  refine WL.nil ?_
  refine W.seq (W.seq (W.region ?_))
  refine WL.val (Value.pointer (some ⟨b1, 0, none⟩)) _ (op_fieldAddr fd_26_0 rfl) rfl ?_
  refine WL.val v_r_Table _ (op_load one_22 rfl (BoxAt.cell (BoxAt.lift hS8.ext hx6) rfl)) rfl ?_
  have hr9 := inR_len (Ty.lift _ (Ext.trans hE7 hS8.ext) r_r_Table)
  refine WL.val (Value.int .i64 ((r_Table).length : Int)) _ (op_lenL sl_22 (Ty.lift _ (Ext.trans hE7 hS8.ext) r_r_Table) rfl) rfl ?_
  refine WL.val (Value.int .i64 (0 : Int)) _ (op_move rfl) rfl ?_
  refine WL.nil ?_
  show W _ _ _ _ _ _
  obtain ⟨res10, hres11, h⟩ := bs h
  refine W.blockLoop (fun fq wq => ∃ s, res10 = Res.fin s ∧ St wd2 wq []) ?_ ?_
  · refine W.forN (fun k (s : Unit) fq wq => fq 1 = (Value.pointer (some ⟨b1, 0, none⟩)) ∧ fq 7 = (Value.int .i64 ((r_Table).length : Int)) ∧ fq 8 = Value.int .i64 (k : Int) ∧ InR .i64 (k : Int) ∧ St wd2 wq []) hres11 ⟨rfl, rfl, rfl, (inL rfl), hS8⟩ ?_ ?_
    · intro k12 s56 ct13 f14 wd15 hk16 hb17 hI18 hbrk19 hret20
      obtain ⟨⟩ := s56
      replace hI18 : f14 1 = (Value.pointer (some ⟨b1, 0, none⟩)) ∧ f14 7 = (Value.int .i64 ((r_Table).length : Int)) ∧ f14 8 = Value.int .i64 (k12 : Int) ∧ InR .i64 (k12 : Int) ∧ St wd2 wd15 [] := hI18
      replace hb17 : p_impl_Ring_dualFault_L1 r_Table k12  = some ct13 := hb17
      unfold p_impl_Ring_dualFault_L1 at hb17
      obtain ⟨hf21, hf22, hf23, hr24, hS25⟩ := hI18
      refine W.seq (W.region ?_)
      refine WL.val (Value.bool (decide ((k12 : Int) < ((r_Table).length : Int)))) _ (op_lss hf23 hf22) rfl ?_
      have hl26 : (k12 : Int) < ((r_Table).length : Int) := by omega
      refine WL.nil ?_
      refine W.seq ?_
      refine W.condT (decide ((k12 : Int) < ((r_Table).length : Int))) rfl (decide_eq_true hl26) ?_
      refine W.skip ?_
      refine W.seq ?_
      refine W.block ?_
      refine W.seq (W.region ?_)
      refine WL.val (Value.int .i64 (k12 : Int)) _ (op_move hf23) rfl ?_
      refine WL.val (Value.int .i64 (k12 : Int)) _ (op_assign rfl) rfl ?_
      refine WL.nil ?_
      refine W.seq (W.region ?_)
      refine WL.val (Value.agg #[v_r_Table]) _ (op_loadBox st_26 hf21 (BoxAt.lift hS25.ext hx6) rfl rfl) rfl ?_
      refine WL.val (Value.int .i64 (k12 : Int)) _ (op_move rfl) rfl ?_
      obtain ⟨x28, hx29, hb17⟩ := bs hb17
      refine WL.call _ (op_call fn_77 (args2 rfl rfl)) (c_impl_Ring_onlyOf (Ty.lift _ (Ext.trans hE7 hS25.ext) r_r_Table) hr24 hx29) rfl ?_
      rintro _ wd31 ⟨rfl, hr30, he32⟩
      have hS34 := St.extend hS25 he32
      replace hS34 : St wd2 wd31 [] := hS34
      refine WL.val (Value.int .i64 x28) _ (op_assign rfl) rfl ?_
      refine WL.nil ?_
      refine W.seq (W.region ?_)
      refine WL.val (Value.int .i64 x28) _ (op_move rfl) rfl ?_
      refine WL.val (Value.bool (decide (x28 < (0 : Int)))) _ (op_lss rfl rfl) rfl ?_
      refine WL.val (Value.bool (decide (x28 < (0 : Int)))) _ (op_move rfl) rfl ?_
      obtain ⟨x36, hj37, hb17⟩ := bs hb17
      refine WL.cut 6 (fun fq wq => fq 1 = (Value.pointer (some ⟨b1, 0, none⟩)) ∧ fq 3 = (Value.int .i64 (k12 : Int)) ∧ fq 7 = (Value.int .i64 ((r_Table).length : Int)) ∧ fq 8 = (Value.int .i64 (k12 : Int)) ∧ fq 22 = Value.bool x36 ∧ St wd2 wq []) ?_ ?_
      · rcases Bool.eq_false_or_eq_true (decide (x28 < (0 : Int))) with hc35 | hc35
        · replace hj37 := ip hj37 hc35
          refine WL.gskip rfl (bool_of rfl hc35) rfl ?_
          refine WL.gskip rfl (bool_of rfl hc35) rfl ?_
          refine WL.gskip rfl (bool_of rfl hc35) rfl ?_
          refine WL.gskip rfl (bool_of rfl hc35) rfl ?_
          refine WL.gskip rfl (bool_of rfl hc35) rfl ?_
          refine WL.val (Value.bool true) _ (op_pick_t (evb_of rfl hc35) rfl) rfl ?_
          refine WL.nil ?_
          obtain rfl := Option.some.inj hj37
          exact ⟨rfl, hf21, rfl, hf22, hf23, rfl, hS34⟩
        · replace hj37 := inegb hj37 hc35
          refine WL.grun rfl (bool_of rfl hc35) ?_
          refine WL.val (Value.agg #[v_r_Table]) _ (op_loadBox st_26 hf21 (BoxAt.lift hS34.ext hx6) rfl rfl) rfl ?_
          refine WL.grun rfl (bool_of rfl hc35) ?_
          refine WL.val (Value.int .i64 x28) _ (op_move rfl) rfl ?_
          refine WL.grun rfl (bool_of rfl hc35) ?_
          obtain ⟨x41, hx42, hj37⟩ := bs hj37
          refine WL.call _ (op_call fn_77 (args2 rfl rfl)) (c_impl_Ring_onlyOf (Ty.lift _ (Ext.trans hE7 hS34.ext) r_r_Table) hr30 hx42) rfl ?_
          rintro _ wd44 ⟨rfl, hr43, he45⟩
          have hS47 := St.extend hS34 he45
          replace hS47 : St wd2 wd44 [] := hS47
          refine WL.grun rfl (bool_of rfl hc35) ?_
          refine WL.val (Value.int .i64 (k12 : Int)) _ (op_move rfl) rfl ?_
          refine WL.grun rfl (bool_of rfl hc35) ?_
          refine WL.val (Value.bool (x41 != (k12 : Int))) _ (op_neq rfl rfl) rfl ?_
          refine WL.val (Value.bool (x41 != (k12 : Int))) _ (op_pick_f (evb_of rfl hc35) rfl) rfl ?_
          refine WL.nil ?_
          obtain rfl := Option.some.inj hj37
          exact ⟨rfl, hf21, rfl, hf22, hf23, rfl, hS47⟩
      · intro f38 wd39 hq40
        obtain ⟨hf48, hf49, hf50, hf51, hf52, hS53⟩ := hq40
        refine WL.nil ?_
        refine W.cond x36 hf52 (fun hc54 => ?_) (fun hc54 => ?_)
        · replace hb17 := ip hb17 hc54
          refine W.seq (W.region ?_)
          refine WL.val (Value.int .i64 (k12 : Int)) _ (op_move hf49) rfl ?_
          refine WL.val (Value.int .i64 (k12 : Int)) _ (op_assign rfl) rfl ?_
          refine WL.nil ?_
          refine W.ret ?_
          obtain rfl := Option.some.inj hb17
          obtain rfl := hret20 _ rfl
          replace h := onRes_ret h
          obtain rfl := Option.some.inj h
          show FinP _ _ _ _ _ _ _
          exact FinP.ret _ (res1 rfl rfl) ⟨rfl, hr24, (Ext.trans hE7 hS53.ext)⟩
        · replace hb17 := inegb hb17 hc54
          refine W.skip ?_
          show W _ _ _ _ _ _
          refine W.region ?_
          refine WL.val (Value.int .i64 (w64 ((k12 : Int) + (1 : Int)))) _ (op_add hf51 rfl) rfl ?_
          refine WL.val (Value.int .i64 (w64 ((k12 : Int) + (1 : Int)))) _ (op_move rfl) rfl ?_
          refine WL.nil ?_
          obtain rfl := Option.some.inj hb17
          show ∃ s, _ = Ctl.next s ∧ _
          exact ⟨_, rfl, hf48, hf50, (ctr_next hl26 hr9), (ctr_rng hl26 hr9), hS53⟩
    · intro s61 f57 wd58 hs59 hI60
      obtain ⟨⟩ := s61
      replace hI60 : f57 1 = (Value.pointer (some ⟨b1, 0, none⟩)) ∧ f57 7 = (Value.int .i64 ((r_Table).length : Int)) ∧ f57 8 = Value.int .i64 (((r_Table).length : Nat) : Int) ∧ InR .i64 (((r_Table).length : Nat) : Int) ∧ St wd2 wd58 [] := hI60
      obtain ⟨hf62, hf63, hf64, hr65, hS66⟩ := hI60
      refine W.seq (W.region ?_)
      refine WL.val (Value.bool (decide ((((r_Table).length : Nat) : Int) < ((r_Table).length : Int)))) _ (op_lss hf64 hf63) rfl ?_
      have hl67 : ¬ (((r_Table).length : Nat) : Int) < ((r_Table).length : Int) := by omega
      refine WL.nil ?_
      refine W.seq ?_
      refine W.condF (decide ((((r_Table).length : Nat) : Int) < ((r_Table).length : Int))) rfl (decide_eq_false hl67) ?_
      refine W.exit ?_
      show _ = _ ∧ _
      exact ⟨rfl, _, hs59, hS66⟩
  · rintro f68 wd69 ⟨s71, rfl, hq70⟩
    replace h := onRes_fin h
    obtain ⟨⟩ := s71
    replace hq70 : St wd2 wd69 [] := hq70
    have hS72 := hq70
    refine W.seq (W.region ?_)
    refine WL.val (Value.int .i64 (-1 : Int)) _ (op_assign rfl) rfl ?_
    refine WL.nil ?_
    refine W.ret ?_
    obtain rfl := Option.some.inj h
    show FinP _ _ _ _ _ _ _
    exact FinP.ret _ (res1 rfl rfl) ⟨rfl, (inR_i64.2 (show (-9223372036854775808 : Int) ≤ -1 ∧ (-1 : Int) ≤ 9223372036854775807 from by decide)), (Ext.trans hE7 hS72.ext)⟩

theorem c_impl_Ring_duals {w : World} {r_Table : (List (List (List Int)))} {v_r_Table : Value} (r_r_Table : (Ty.sl (Ty.sl (Ty.sl (Ty.i .i64)))).rep w v_r_Table r_Table) {res : (List Int)} (h : p_impl_Ring_duals r_Table  = some res) :
    Ret Tryd.prog 59 #[(Value.agg #[v_r_Table])] w (fun v w' => ∃ (u0 : Value), v = u0 ∧ Ext w w' ∧ Sep w.heap.size w' [(Ty.sl (Ty.i .i64)).at u0 res]) := by
  unfold p_impl_Ring_duals at h
  have hS0 : St w w [] := St.start w
  refine Ret.start (fn := Tryd.f59) Tryd.func59 rfl 20 rfl rfl ?_
  refine W.seq (W.region ?_)
  refine WL.box hS0 rfl (cs := [v_r_Table]) rfl rfl ?_
  intro b1 wd2 hS3 he4 hx5
  replace hS3 : St w wd2 [bx b1 [v_r_Table]] := hS3
  have hx6 := St.boxAt hS3 0 rfl
  have hE7 : Ext w wd2 := hS3.ext
  have hS8 : St wd2 wd2 [] := St.start wd2
  refine WL.val (Value.slice none 0 0) _ (op_assign rfl) rfl ?_
  refine WL.nil ?_
  refine W.seq (W.region ?_)
  refine WL.lit0 (t := (Ty.i .i64)) hS8 sl_61 rfl rfl ?_
  intro u9 wd10 hS11 he12
  replace hS11 : St wd2 wd10 [(Ty.sl (Ty.i .i64)).at u9 ([] : (List Int))] := hS11
  refine WL.val u9 _ (op_assign rfl) rfl ?_
  refine WL.nil ?_
  refine W.seq (W.seq (W.region ?_))
  refine WL.val (Value.pointer (some ⟨b1, 0, none⟩)) _ (op_fieldAddr fd_26_0 rfl) rfl ?_
  refine WL.val v_r_Table _ (op_load one_22 rfl (BoxAt.cell (BoxAt.lift hS11.ext hx6) rfl)) rfl ?_
  have hr13 := inR_len (Ty.lift _ (Ext.trans hE7 hS11.ext) r_r_Table)
  refine WL.val (Value.int .i64 ((r_Table).length : Int)) _ (op_lenL sl_22 (Ty.lift _ (Ext.trans hE7 hS11.ext) r_r_Table) rfl) rfl ?_
  refine WL.val (Value.int .i64 (0 : Int)) _ (op_move rfl) rfl ?_
  refine WL.nil ?_
  show W _ _ _ _ _ _
  obtain ⟨res14, hres15, h⟩ := bs h
  refine W.blockLoop (fun fq wq => ∃ s, res14 = Res.fin s ∧ ∃ (uu0 : Value), fq 3 = uu0 ∧ St wd2 wq [(Ty.sl (Ty.i .i64)).at uu0 s]) ?_ ?_
  · refine W.forN (fun k (s : (List Int)) fq wq => ∃ (uu0 : Value), fq 1 = (Value.pointer (some ⟨b1, 0, none⟩)) ∧ fq 3 = uu0 ∧ fq 8 = (Value.int .i64 ((r_Table).length : Int)) ∧ fq 9 = Value.int .i64 (k : Int) ∧ InR .i64 (k : Int) ∧ St wd2 wq [(Ty.sl (Ty.i .i64)).at uu0 s]) hres15 ⟨u9, rfl, rfl, rfl, rfl, (inL rfl), hS11⟩ ?_ ?_
    · intro k16 x17 ct18 f19 wd20 hk21 hb22 hI23 hbrk24 hret25
      replace hI23 : ∃ (uu0 : Value), f19 1 = (Value.pointer (some ⟨b1, 0, none⟩)) ∧ f19 3 = uu0 ∧ f19 8 = (Value.int .i64 ((r_Table).length : Int)) ∧ f19 9 = Value.int .i64 (k16 : Int) ∧ InR .i64 (k16 : Int) ∧ St wd2 wd20 [(Ty.sl (Ty.i .i64)).at uu0 x17] := hI23
      replace hb22 : p_impl_Ring_duals_L1 r_Table k16 x17 = some ct18 := hb22
      unfold p_impl_Ring_duals_L1 at hb22
      obtain ⟨u26, hf27, hf28, hf29, hf30, hr31, hS32⟩ := hI23
      refine W.seq (W.region ?_)
      refine WL.val (Value.bool (decide ((k16 : Int) < ((r_Table).length : Int)))) _ (op_lss hf30 hf29) rfl ?_
      have hl33 : (k16 : Int) < ((r_Table).length : Int) := by omega
      refine WL.nil ?_
      refine W.seq ?_
      refine W.condT (decide ((k16 : Int) < ((r_Table).length : Int))) rfl (decide_eq_true hl33) ?_
      refine W.skip ?_
      refine W.seq ?_
      refine W.block ?_
      refine W.seq (W.region ?_)
      refine WL.val (Value.int .i64 (k16 : Int)) _ (op_move hf30) rfl ?_
      refine WL.val (Value.int .i64 (k16 : Int)) _ (op_assign rfl) rfl ?_
      refine WL.nil ?_
      show W _ _ _ _ _ _
      refine W.region ?_
      refine WL.val u26 _ (op_move hf28) rfl ?_
      refine WL.val (Value.agg #[v_r_Table]) _ (op_loadBox st_26 hf27 (BoxAt.lift hS32.ext hx6) rfl rfl) rfl ?_
      refine WL.val (Value.int .i64 (k16 : Int)) _ (op_move rfl) rfl ?_
      obtain ⟨x35, hx36, hb22⟩ := bs hb22
      refine WL.call _ (op_call fn_77 (args2 rfl rfl)) (c_impl_Ring_onlyOf (Ty.lift _ (Ext.trans hE7 hS32.ext) r_r_Table) hr31 hx36) rfl ?_
      rintro _ wd38 ⟨rfl, hr37, he39⟩
      have hS41 := St.extend hS32 he39
      replace hS41 : St wd2 wd38 [(Ty.sl (Ty.i .i64)).at u26 x17] := hS41
      refine WL.litFlat (t := (Ty.i .i64)) (flat_i .i64) [(Value.int .i64 x35)] [x35] hS41 sl_61 rfl rfl (fillL rfl ⟨rfl, rfl, rfl, trivial⟩) rfl rfl (litL ⟨⟨rfl, hr37⟩, trivial⟩) rfl ?_
      intro u42 wd43 hS44 he45
      replace hS44 : St wd2 wd43 [(Ty.sl (Ty.i .i64)).at u26 x17, (Ty.sl (Ty.i .i64)).at u42 ([x35] : (List Int))] := hS44
      obtain ⟨x46, hx47, hb22⟩ := bs hb22
      refine WL.append (flat_i .i64) hS44 (k := 0) rfl sl_61 rfl rfl rfl rfl (St.rep (t := (Ty.sl (Ty.i .i64))) hS44 1 rfl) hx47 rfl ?_
      intro u48 wd49 hS50 hz51
      replace hS50 : St wd2 wd49 [(Ty.sl (Ty.i .i64)).at u48 x46, (Ty.sl (Ty.i .i64)).at u42 ([x35] : (List Int))] := hS50
      refine WL.val u48 _ (op_assign rfl) rfl ?_
      refine WL.nil ?_
      show W _ _ _ _ _ _
      refine W.region ?_
      refine WL.val (Value.int .i64 (w64 ((k16 : Int) + (1 : Int)))) _ (op_add hf30 rfl) rfl ?_
      refine WL.val (Value.int .i64 (w64 ((k16 : Int) + (1 : Int)))) _ (op_move rfl) rfl ?_
      refine WL.nil ?_
      obtain rfl := Option.some.inj hb22
      show ∃ s, _ = Ctl.next s ∧ _
      exact ⟨_, rfl, u48, hf27, rfl, hf29, (ctr_next hl33 hr13), (ctr_rng hl33 hr13), (St.pick hS50 [0] rfl)⟩
    · intro x58 f53 wd54 hs55 hI56
      replace hI56 : ∃ (uu0 : Value), f53 1 = (Value.pointer (some ⟨b1, 0, none⟩)) ∧ f53 3 = uu0 ∧ f53 8 = (Value.int .i64 ((r_Table).length : Int)) ∧ f53 9 = Value.int .i64 (((r_Table).length : Nat) : Int) ∧ InR .i64 (((r_Table).length : Nat) : Int) ∧ St wd2 wd54 [(Ty.sl (Ty.i .i64)).at uu0 x58] := hI56
      obtain ⟨u59, hf60, hf61, hf62, hf63, hr64, hS65⟩ := hI56
      refine W.seq (W.region ?_)
      refine WL.val (Value.bool (decide ((((r_Table).length : Nat) : Int) < ((r_Table).length : Int)))) _ (op_lss hf63 hf62) rfl ?_
      have hl66 : ¬ (((r_Table).length : Nat) : Int) < ((r_Table).length : Int) := by omega
      refine WL.nil ?_
      refine W.seq ?_
      refine W.condF (decide ((((r_Table).length : Nat) : Int) < ((r_Table).length : Int))) rfl (decide_eq_false hl66) ?_
      refine W.exit ?_
      show _ = _ ∧ _
      exact ⟨rfl, _, hs55, u59, hf61, hS65⟩
  · rintro f67 wd68 ⟨x71, rfl, hq69⟩
    replace h := onRes_fin h
    replace hq69 : ∃ (uu0 : Value), f67 3 = uu0 ∧ St wd2 wd68 [(Ty.sl (Ty.i .i64)).at uu0 x71] := hq69
    obtain ⟨u72, hf73, hS74⟩ := hq69
    refine W.seq (W.region ?_)
    refine WL.val u72 _ (op_move hf73) rfl ?_
    refine WL.val u72 _ (op_assign rfl) rfl ?_
    refine WL.nil ?_
    refine W.ret ?_
    obtain rfl := Option.some.inj h
    show FinP _ _ _ _ _ _ _
    exact FinP.ret _ (res1 rfl rfl) ⟨u72, rfl, (Ext.trans hE7 hS74.ext), (St.out (St.pick hS74 [0] rfl) (hE7))⟩

theorem c_impl_Ring_turnFault {w : World} {r_Table : (List (List (List Int)))} {v_r_Table : Value} (r_r_Table : (Ty.sl (Ty.sl (Ty.sl (Ty.i .i64)))).rep w v_r_Table r_Table) {res : (List Int)} (h : p_impl_Ring_turnFault r_Table  = some res) :
    Ret Tryd.prog 83 #[(Value.agg #[v_r_Table])] w (fun v w' => ∃ (u0 : Value), v = u0 ∧ NilIff u0 res ∧ Ext w w' ∧ Sep w.heap.size w' [(Ty.sl (Ty.i .i64)).at u0 res]) := by
  unfold p_impl_Ring_turnFault at h
  have hS0 : St w w [] := St.start w
  refine Ret.start (fn := Tryd.f83) Tryd.func83 rfl 80 rfl rfl ?_
  refine W.seq (W.region ?_)
  refine WL.box hS0 rfl (cs := [v_r_Table]) rfl rfl ?_
  intro b1 wd2 hS3 he4 hx5
  replace hS3 : St w wd2 [bx b1 [v_r_Table]] := hS3
  have hx6 := St.boxAt hS3 0 rfl
  have hE7 : Ext w wd2 := hS3.ext
  have hS8 : St wd2 wd2 [] := St.start wd2
  refine WL.val (Value.slice none 0 0) _ (op_assign rfl) rfl ?_
  refine WL.nil ?_
  refine W.seq (W.region ?_)
  refine WL.val (Value.agg #[v_r_Table]) _ (op_loadBox st_26 rfl (BoxAt.lift hS8.ext hx6) rfl rfl) rfl ?_
  obtain ⟨x9, hx10, h⟩ := bs h
  refine WL.call _ (op_call fn_59 (args1 rfl)) (c_impl_Ring_duals (Ty.lift _ (Ext.trans hE7 hS8.ext) r_r_Table) hx10) rfl ?_
  rintro u11 wd12 ⟨_, rfl, he13, hs14⟩
  have hS15 := St.join hS8 he13 hs14
  replace hS15 : St wd2 wd12 [(Ty.sl (Ty.i .i64)).at u11 x9] := hS15
  have hb16 := St.rep (t := (Ty.sl (Ty.i .i64))) hS15 0 rfl
  have hE17 : Ext w wd12 := (Ext.trans hE7 hS15.ext)
  have hE18 : Ext wd2 wd12 := hS15.ext
  have hS19 : St wd12 wd12 [] := St.start wd12
  refine WL.val u11 _ (op_assign rfl) rfl ?_
  refine WL.nil ?_
  refine W.seq (W.seq (W.region ?_))
  refine WL.val (Value.pointer (some ⟨b1, 0, none⟩)) _ (op_fieldAddr fd_26_0 rfl) rfl ?_
  refine WL.val v_r_Table _ (op_load one_22 rfl (BoxAt.cell (BoxAt.lift (Ext.trans hE18 hS19.ext) hx6) rfl)) rfl ?_
  have hr20 := inR_len (Ty.lift _ (Ext.trans hE17 hS19.ext) r_r_Table)
  refine WL.val (Value.int .i64 ((r_Table).length : Int)) _ (op_lenL sl_22 (Ty.lift _ (Ext.trans hE17 hS19.ext) r_r_Table) rfl) rfl ?_
  refine WL.val (Value.int .i64 (0 : Int)) _ (op_move rfl) rfl ?_
  refine WL.nil ?_
  show W _ _ _ _ _ _
  obtain ⟨res21, hres22, h⟩ := bs h
  refine W.blockLoop (fun fq wq => ∃ s, res21 = Res.fin s ∧ St wd12 wq []) ?_ ?_
  · refine W.forN (fun k (s : Unit) fq wq => fq 1 = (Value.pointer (some ⟨b1, 0, none⟩)) ∧ fq 3 = u11 ∧ fq 12 = (Value.int .i64 ((r_Table).length : Int)) ∧ fq 13 = Value.int .i64 (k : Int) ∧ InR .i64 (k : Int) ∧ St wd12 wq []) hres22 ⟨rfl, rfl, rfl, rfl, (inL rfl), hS19⟩ ?_ ?_
    · intro k23 s852 ct24 f25 wd26 hk27 hb28 hI29 hbrk30 hret31
      obtain ⟨⟩ := s852
      replace hI29 : f25 1 = (Value.pointer (some ⟨b1, 0, none⟩)) ∧ f25 3 = u11 ∧ f25 12 = (Value.int .i64 ((r_Table).length : Int)) ∧ f25 13 = Value.int .i64 (k23 : Int) ∧ InR .i64 (k23 : Int) ∧ St wd12 wd26 [] := hI29
      replace hb28 : p_impl_Ring_turnFault_L1 r_Table x9 k23  = some ct24 := hb28
      unfold p_impl_Ring_turnFault_L1 at hb28
      obtain ⟨hf32, hf33, hf34, hf35, hr36, hS37⟩ := hI29
      refine W.seq (W.region ?_)
      refine WL.val (Value.bool (decide ((k23 : Int) < ((r_Table).length : Int)))) _ (op_lss hf35 hf34) rfl ?_
      have hl38 : (k23 : Int) < ((r_Table).length : Int) := by omega
      refine WL.nil ?_
      refine W.seq ?_
      refine W.condT (decide ((k23 : Int) < ((r_Table).length : Int))) rfl (decide_eq_true hl38) ?_
      refine W.skip ?_
      refine W.seq ?_
      refine W.block ?_
      refine W.seq (W.region ?_)
      refine WL.val (Value.int .i64 (k23 : Int)) _ (op_move hf35) rfl ?_
      refine WL.val (Value.int .i64 (k23 : Int)) _ (op_assign rfl) rfl ?_
      refine WL.nil ?_
      refine W.seq (W.region ?_)
      refine WL.val (Value.pointer (some ⟨b1, 0, none⟩)) _ (op_fieldAddr fd_26_0 hf32) rfl ?_
      refine WL.val v_r_Table _ (op_load one_22 rfl (BoxAt.cell (BoxAt.lift (Ext.trans hE18 hS37.ext) hx6) rfl)) rfl ?_
      have hr40 := inR_len (Ty.lift _ (Ext.trans hE17 hS37.ext) r_r_Table)
      refine WL.val (Value.int .i64 ((r_Table).length : Int)) _ (op_lenL sl_22 (Ty.lift _ (Ext.trans hE17 hS37.ext) r_r_Table) rfl) rfl ?_
      refine WL.val (Value.int .i64 (0 : Int)) _ (op_move rfl) rfl ?_
      refine WL.nil ?_
      show W _ _ _ _ _ _
      obtain ⟨res41, hres42, hb28⟩ := bs hb28
      refine W.blockLoop (fun fq wq => ∃ s, res41 = Res.fin s ∧ fq 1 = (Value.pointer (some ⟨b1, 0, none⟩)) ∧ fq 3 = u11 ∧ fq 12 = (Value.int .i64 ((r_Table).length : Int)) ∧ fq 13 = (Value.int .i64 (k23 : Int)) ∧ St wd12 wq []) ?_ ?_
      · refine W.forN (fun k (s : Unit) fq wq => fq 1 = (Value.pointer (some ⟨b1, 0, none⟩)) ∧ fq 3 = u11 ∧ fq 4 = (Value.int .i64 (k23 : Int)) ∧ fq 12 = (Value.int .i64 ((r_Table).length : Int)) ∧ fq 13 = (Value.int .i64 (k23 : Int)) ∧ fq 18 = (Value.int .i64 ((r_Table).length : Int)) ∧ fq 19 = Value.int .i64 (k : Int) ∧ InR .i64 (k : Int) ∧ St wd12 wq []) hres42 ⟨hf32, hf33, rfl, hf34, hf35, rfl, rfl, (inL rfl), hS37⟩ ?_ ?_
        · intro k43 s826 ct44 f45 wd46 hk47 hb48 hI49 hbrk50 hret51
          obtain ⟨⟩ := s826
          replace hI49 : f45 1 = (Value.pointer (some ⟨b1, 0, none⟩)) ∧ f45 3 = u11 ∧ f45 4 = (Value.int .i64 (k23 : Int)) ∧ f45 12 = (Value.int .i64 ((r_Table).length : Int)) ∧ f45 13 = (Value.int .i64 (k23 : Int)) ∧ f45 18 = (Value.int .i64 ((r_Table).length : Int)) ∧ f45 19 = Value.int .i64 (k43 : Int) ∧ InR .i64 (k43 : Int) ∧ St wd12 wd46 [] := hI49
          replace hb48 : p_impl_Ring_turnFault_L2 r_Table k23 x9 k43  = some ct44 := hb48
          unfold p_impl_Ring_turnFault_L2 at hb48
          obtain ⟨hf52, hf53, hf54, hf55, hf56, hf57, hf58, hr59, hS60⟩ := hI49
          refine W.seq (W.region ?_)
          refine WL.val (Value.bool (decide ((k43 : Int) < ((r_Table).length : Int)))) _ (op_lss hf58 hf57) rfl ?_
          have hl61 : (k43 : Int) < ((r_Table).length : Int) := by omega
          refine WL.nil ?_
          refine W.seq ?_
          refine W.condT (decide ((k43 : Int) < ((r_Table).length : Int))) rfl (decide_eq_true hl61) ?_
          refine W.skip ?_
          refine W.seq ?_
          refine W.block ?_
          refine W.seq (W.region ?_)
          refine WL.val (Value.int .i64 (k43 : Int)) _ (op_move hf58) rfl ?_
          refine WL.val (Value.int .i64 (k43 : Int)) _ (op_assign rfl) rfl ?_
          refine WL.nil ?_
          refine W.seq (W.region ?_)
          refine WL.val (Value.pointer (some ⟨b1, 0, none⟩)) _ (op_fieldAddr fd_26_0 hf52) rfl ?_
          refine WL.val v_r_Table _ (op_load one_22 rfl (BoxAt.cell (BoxAt.lift (Ext.trans hE18 hS60.ext) hx6) rfl)) rfl ?_
          have hr63 := inR_len (Ty.lift _ (Ext.trans hE17 hS60.ext) r_r_Table)
          refine WL.val (Value.int .i64 ((r_Table).length : Int)) _ (op_lenL sl_22 (Ty.lift _ (Ext.trans hE17 hS60.ext) r_r_Table) rfl) rfl ?_
          refine WL.val (Value.int .i64 (0 : Int)) _ (op_move rfl) rfl ?_
          refine WL.nil ?_
          show W _ _ _ _ _ _
          obtain ⟨res64, hres65, hb48⟩ := bs hb48
          refine W.blockLoop (fun fq wq => ∃ s, res64 = Res.fin s ∧ fq 1 = (Value.pointer (some ⟨b1, 0, none⟩)) ∧ fq 3 = u11 ∧ fq 4 = (Value.int .i64 (k23 : Int)) ∧ fq 12 = (Value.int .i64 ((r_Table).length : Int)) ∧ fq 13 = (Value.int .i64 (k23 : Int)) ∧ fq 18 = (Value.int .i64 ((r_Table).length : Int)) ∧ fq 19 = (Value.int .i64 (k43 : Int)) ∧ St wd12 wq []) ?_ ?_
          · refine W.forN (fun k (s : Unit) fq wq => fq 1 = (Value.pointer (some ⟨b1, 0, none⟩)) ∧ fq 3 = u11 ∧ fq 4 = (Value.int .i64 (k23 : Int)) ∧ fq 5 = (Value.int .i64 (k43 : Int)) ∧ fq 12 = (Value.int .i64 ((r_Table).length : Int)) ∧ fq 13 = (Value.int .i64 (k23 : Int)) ∧ fq 18 = (Value.int .i64 ((r_Table).length : Int)) ∧ fq 19 = (Value.int .i64 (k43 : Int)) ∧ fq 24 = (Value.int .i64 ((r_Table).length : Int)) ∧ fq 25 = Value.int .i64 (k : Int) ∧ InR .i64 (k : Int) ∧ St wd12 wq []) hres65 ⟨hf52, hf53, hf54, rfl, hf55, hf56, hf57, hf58, rfl, rfl, (inL rfl), hS60⟩ ?_ ?_
            · intro k66 s794 ct67 f68 wd69 hk70 hb71 hI72 hbrk73 hret74
              obtain ⟨⟩ := s794
              replace hI72 : f68 1 = (Value.pointer (some ⟨b1, 0, none⟩)) ∧ f68 3 = u11 ∧ f68 4 = (Value.int .i64 (k23 : Int)) ∧ f68 5 = (Value.int .i64 (k43 : Int)) ∧ f68 12 = (Value.int .i64 ((r_Table).length : Int)) ∧ f68 13 = (Value.int .i64 (k23 : Int)) ∧ f68 18 = (Value.int .i64 ((r_Table).length : Int)) ∧ f68 19 = (Value.int .i64 (k43 : Int)) ∧ f68 24 = (Value.int .i64 ((r_Table).length : Int)) ∧ f68 25 = Value.int .i64 (k66 : Int) ∧ InR .i64 (k66 : Int) ∧ St wd12 wd69 [] := hI72
              replace hb71 : p_impl_Ring_turnFault_L3 r_Table k23 k43 x9 k66  = some ct67 := hb71
              unfold p_impl_Ring_turnFault_L3 at hb71
              obtain ⟨hf75, hf76, hf77, hf78, hf79, hf80, hf81, hf82, hf83, hf84, hr85, hS86⟩ := hI72
              refine W.seq (W.region ?_)
              refine WL.val (Value.bool (decide ((k66 : Int) < ((r_Table).length : Int)))) _ (op_lss hf84 hf83) rfl ?_
              have hl87 : (k66 : Int) < ((r_Table).length : Int) := by omega
              refine WL.nil ?_
              refine W.seq ?_
              refine W.condT (decide ((k66 : Int) < ((r_Table).length : Int))) rfl (decide_eq_true hl87) ?_
              refine W.skip ?_
              refine W.seq ?_
              refine W.block ?_
              refine W.seq (W.region ?_)
              refine WL.val (Value.int .i64 (k66 : Int)) _ (op_move hf84) rfl ?_
              refine WL.val (Value.int .i64 (k66 : Int)) _ (op_assign rfl) rfl ?_
              refine WL.nil ?_
              refine W.seq (W.region ?_)
              refine WL.val (Value.pointer (some ⟨b1, 0, none⟩)) _ (op_fieldAddr fd_26_0 hf75) rfl ?_
              refine WL.val v_r_Table _ (op_load one_22 rfl (BoxAt.cell (BoxAt.lift (Ext.trans hE18 hS86.ext) hx6) rfl)) rfl ?_
              refine WL.val (Value.int .i64 (k23 : Int)) _ (op_move hf77) rfl ?_
              obtain ⟨x89, hx92, hb71⟩ := bs hb71
              obtain ⟨ha90, hb91, hx92⟩ := idx_some hx92
              refine WL.val (Value.pointer (some (elA v_r_Table ((k23 : Int)).toNat))) _ (op_idx sl_22 (Ty.lift _ (Ext.trans hE17 hS86.ext) r_r_Table) rfl rfl ha90 hb91) rfl ?_
              obtain ⟨u93, hc94, hr95⟩ := repSl.el r_r_Table hx92
              refine WL.val u93 _ (op_load one_41 rfl (Ext.cell (Ext.trans hE17 hS86.ext) hc94)) rfl ?_
              refine WL.val (Value.int .i64 (k43 : Int)) _ (op_move hf78) rfl ?_
              obtain ⟨x96, hx99, hb71⟩ := bs hb71
              obtain ⟨ha97, hb98, hx99⟩ := idx_some hx99
              refine WL.val (Value.pointer (some (elA u93 ((k43 : Int)).toNat))) _ (op_idx sl_41 (Ty.lift _ (Ext.trans hE17 hS86.ext) hr95) rfl rfl ha97 hb98) rfl ?_
              obtain ⟨u100, hc101, hr102⟩ := repSl.el hr95 hx99
              refine WL.val u100 _ (op_load one_33 rfl (Ext.cell (Ext.trans hE17 hS86.ext) hc101)) rfl ?_
              refine WL.val (Value.int .i64 (k66 : Int)) _ (op_move rfl) rfl ?_
              obtain ⟨x103, hx106, hb71⟩ := bs hb71
              obtain ⟨ha104, hb105, hx106⟩ := idx_some hx106
              refine WL.val (Value.pointer (some (elA u100 ((k66 : Int)).toNat))) _ (op_idx sl_33 (Ty.lift _ (Ext.trans hE17 hS86.ext) hr102) rfl rfl ha104 hb105) rfl ?_
              obtain ⟨u107, hc108, hr109⟩ := repSl.el hr102 hx106
              obtain ⟨rfl, hr109⟩ := hr109
              refine WL.val (Value.int .i64 x103) _ (op_load one_2 rfl (Ext.cell (Ext.trans hE17 hS86.ext) hc108)) rfl ?_
              refine WL.val (Value.int .i64 x103) _ (op_assign rfl) rfl ?_
              refine WL.nil ?_
              refine W.seq ?_
              obtain ⟨x163, hx166, hb71⟩ := bs hb71
              obtain ⟨ha164, hb165, hx166⟩ := idx_some hx166
              obtain ⟨u177, hc178, hr179⟩ := repSl.el hb16 hx166
              obtain ⟨rfl, hr179⟩ := hr179
              obtain ⟨x195, hx198, hb71⟩ := bs hb71
              obtain ⟨ha196, hb197, hx198⟩ := idx_some hx198
              obtain ⟨u209, hc210, hr211⟩ := repSl.el r_r_Table hx198
              obtain ⟨x234, hx237, hb71⟩ := bs hb71
              obtain ⟨ha235, hb236, hx237⟩ := idx_some hx237
              obtain ⟨u248, hc249, hr250⟩ := repSl.el hr211 hx237
              obtain ⟨x273, hx276, hb71⟩ := bs hb71
              obtain ⟨ha274, hb275, hx276⟩ := idx_some hx276
              obtain ⟨u287, hc288, hr289⟩ := repSl.el hr250 hx276
              obtain ⟨rfl, hr289⟩ := hr289
              obtain ⟨x316, hj317, hb71⟩ := bs hb71
              refine W.cutCode (fun fq wq => fq 1 = (Value.pointer (some ⟨b1, 0, none⟩)) ∧ fq 3 = u11 ∧ fq 4 = (Value.int .i64 (k23 : Int)) ∧ fq 5 = (Value.int .i64 (k43 : Int)) ∧ fq 6 = (Value.int .i64 (k66 : Int)) ∧ fq 12 = (Value.int .i64 ((r_Table).length : Int)) ∧ fq 13 = (Value.int .i64 (k23 : Int)) ∧ fq 18 = (Value.int .i64 ((r_Table).length : Int)) ∧ fq 19 = (Value.int .i64 (k43 : Int)) ∧ fq 24 = (Value.int .i64 ((r_Table).length : Int)) ∧ fq 25 = (Value.int .i64 (k66 : Int)) ∧ fq 72 = Value.bool x316 ∧ St wd12 wq []) ?_ ?_
              · rcases Bool.eq_false_or_eq_true (x103 != x273) with hc318 | hc318
                · replace hj317 := ip hj317 hc318
                  refine W.drawR mixo 32 [] [fun _ v _ _ => v = (Value.int .i64 x103) ∧ InR .i64 x103, fun _ v _ _ => v = (Value.pointer (some ⟨b1, 0, none⟩)), fun _ v _ _ => v = v_r_Table, fun _ v _ _ => v = u11, fun _ v _ _ => v = (Value.int .i64 (k23 : Int)) ∧ InR .i64 (k23 : Int), fun _ v _ _ => v = (Value.pointer (some (elA u11 ((k23 : Int)).toNat))), fun _ v _ _ => v = (Value.int .i64 x163) ∧ InR .i64 x163, fun _ v _ _ => v = (Value.pointer (some (elA v_r_Table (x163).toNat))), fun _ v _ _ => v = u209, fun _ v _ _ => v = (Value.int .i64 (k66 : Int)) ∧ InR .i64 (k66 : Int), fun _ v _ _ => v = (Value.pointer (some (elA u209 ((k66 : Int)).toNat))), fun _ v _ _ => v = u248, fun _ v _ _ => v = (Value.int .i64 (k43 : Int)) ∧ InR .i64 (k43 : Int), fun _ v _ _ => v = (Value.pointer (some (elA u248 ((k43 : Int)).toNat))), fun _ v _ _ => v = (Value.int .i64 x273) ∧ InR .i64 x273, fun _ v _ _ => v = (Value.bool (x103 != x273)), fun _ v _ _ => v = (Value.bool (x103 != x273)), fun _ v _ _ => v = undef, fun _ v _ _ => v = undef, fun _ v _ _ => v = undef, fun _ v _ _ => v = undef, fun _ v _ _ => v = undef, fun _ v _ _ => v = undef, fun _ v _ _ => v = undef, fun _ v _ _ => v = undef, fun _ v _ _ => v = undef, fun _ v _ _ => v = undef, fun _ v _ _ => v = undef, fun _ v _ _ => v = undef, fun _ v _ _ => v = undef, fun _ v _ _ => v = undef, fun _ v _ _ => v = undef] (by kernel_rfl) (by kernel_rfl) ⟨pk, pk, pk, pk, pk, pk, pk, pk, pk, pk, pk, pk, pk, pk, pk, pk, pk, pk, pk, pk, pk, pk, pk, pk, pk, pk, pk, pk, pk, pk, pk, pk, trivial⟩ ⟨?_, ?_, ?_, ?_, ?_, ?_, ?_, ?_, ?_, ?_, ?_, ?_, ?_, ?_, ?_, ?_, ?_, ?_, ?_, ?_, ?_, ?_, ?_, ?_, ?_, ?_, ?_, ?_, ?_, ?_, ?_, ?_, trivial⟩ ?_
                  · refine ObX.op rfl fun f110 wd111 he112 hout113 hphi114 => ?_
                    have hS115 := St.extend hS86 he112
                    have e116 : f110 7 = (Value.int .i64 x103) := (hout113 7 rfl).trans rfl
                    exact OpX.val (Value.int .i64 x103) wd111 rfl (op_move e116) (Ext.refl _) ⟨rfl, hr109⟩
                  · refine ObX.op rfl fun f117 wd118 he119 hout120 hphi121 => ?_
                    have hS122 := St.extend hS86 he119
                    have e123 : f117 1 = (Value.pointer (some ⟨b1, 0, none⟩)) := (hout120 1 rfl).trans hf75
                    exact OpX.val (Value.pointer (some ⟨b1, 0, none⟩)) wd118 rfl (op_fieldAddr fd_26_0 e123) (Ext.refl _) rfl
                  · refine ObX.op rfl fun f124 wd125 he126 hout127 hphi128 => ?_
                    have hS129 := St.extend hS86 he126
                    obtain ⟨S130, hS131, hf132⟩ := hphi128 1 40 _ rfl rfl rfl
                    have e133 : f124 40 = (Value.pointer (some ⟨b1, 0, none⟩)) := hf132
                    exact OpX.val v_r_Table wd125 rfl (op_load one_22 e133 (BoxAt.cell (BoxAt.lift (Ext.trans hE18 hS129.ext) hx6) rfl)) (Ext.refl _) rfl
                  · refine ObX.op rfl fun f134 wd135 he136 hout137 hphi138 => ?_
                    have hS139 := St.extend hS86 he136
                    have e140 : f134 3 = u11 := (hout137 3 rfl).trans hf76
                    exact OpX.val u11 wd135 rfl (op_move e140) (Ext.refl _) rfl
                  · refine ObX.op rfl fun f141 wd142 he143 hout144 hphi145 => ?_
                    have hS146 := St.extend hS86 he143
                    have e147 : f141 4 = (Value.int .i64 (k23 : Int)) := (hout144 4 rfl).trans hf77
                    exact OpX.val (Value.int .i64 (k23 : Int)) wd142 rfl (op_move e147) (Ext.refl _) ⟨rfl, hr36⟩
                  · refine ObX.op rfl fun f148 wd149 he150 hout151 hphi152 => ?_
                    have hS153 := St.extend hS86 he150
                    obtain ⟨S154, hS155, hf156⟩ := hphi152 3 42 _ rfl rfl rfl
                    have e157 : f148 42 = u11 := hf156
                    obtain ⟨S158, hS159, hf160⟩ := hphi152 4 43 _ rfl rfl rfl
                    obtain ⟨e161, hr162⟩ := hf160
                    exact OpX.val (Value.pointer (some (elA u11 ((k23 : Int)).toNat))) wd149 rfl (op_idx sl_61 (Ty.lift _ hS153.ext hb16) e157 e161 ha164 hb165) (Ext.refl _) rfl
                  · refine ObX.op rfl fun f167 wd168 he169 hout170 hphi171 => ?_
                    have hS172 := St.extend hS86 he169
                    obtain ⟨S173, hS174, hf175⟩ := hphi171 5 44 _ rfl rfl rfl
                    have e176 : f167 44 = (Value.pointer (some (elA u11 ((k23 : Int)).toNat))) := hf175
                    exact OpX.val (Value.int .i64 x163) wd168 rfl (op_load one_3 e176 (Ext.cell hS172.ext hc178)) (Ext.refl _) ⟨rfl, hr179⟩
                  · refine ObX.op rfl fun f180 wd181 he182 hout183 hphi184 => ?_
                    have hS185 := St.extend hS86 he182
                    obtain ⟨S186, hS187, hf188⟩ := hphi184 2 41 _ rfl rfl rfl
                    have e189 : f180 41 = v_r_Table := hf188
                    obtain ⟨S190, hS191, hf192⟩ := hphi184 6 45 _ rfl rfl rfl
                    obtain ⟨e193, hr194⟩ := hf192
                    exact OpX.val (Value.pointer (some (elA v_r_Table (x163).toNat))) wd181 rfl (op_idx sl_22 (Ty.lift _ (Ext.trans hE17 hS185.ext) r_r_Table) e189 e193 ha196 hb197) (Ext.refl _) rfl
                  · refine ObX.op rfl fun f199 wd200 he201 hout202 hphi203 => ?_
                    have hS204 := St.extend hS86 he201
                    obtain ⟨S205, hS206, hf207⟩ := hphi203 7 46 _ rfl rfl rfl
                    have e208 : f199 46 = (Value.pointer (some (elA v_r_Table (x163).toNat))) := hf207
                    exact OpX.val u209 wd200 rfl (op_load one_41 e208 (Ext.cell (Ext.trans hE17 hS204.ext) hc210)) (Ext.refl _) rfl
                  · refine ObX.op rfl fun f212 wd213 he214 hout215 hphi216 => ?_
                    have hS217 := St.extend hS86 he214
                    have e218 : f212 6 = (Value.int .i64 (k66 : Int)) := (hout215 6 rfl).trans rfl
                    exact OpX.val (Value.int .i64 (k66 : Int)) wd213 rfl (op_move e218) (Ext.refl _) ⟨rfl, hr85⟩
                  · refine ObX.op rfl fun f219 wd220 he221 hout222 hphi223 => ?_
                    have hS224 := St.extend hS86 he221
                    obtain ⟨S225, hS226, hf227⟩ := hphi223 8 47 _ rfl rfl rfl
                    have e228 : f219 47 = u209 := hf227
                    obtain ⟨S229, hS230, hf231⟩ := hphi223 9 48 _ rfl rfl rfl
                    obtain ⟨e232, hr233⟩ := hf231
                    exact OpX.val (Value.pointer (some (elA u209 ((k66 : Int)).toNat))) wd220 rfl (op_idx sl_41 (Ty.lift _ (Ext.trans hE17 hS224.ext) hr211) e228 e232 ha235 hb236) (Ext.refl _) rfl
                  · refine ObX.op rfl fun f238 wd239 he240 hout241 hphi242 => ?_
                    have hS243 := St.extend hS86 he240
                    obtain ⟨S244, hS245, hf246⟩ := hphi242 10 49 _ rfl rfl rfl
                    have e247 : f238 49 = (Value.pointer (some (elA u209 ((k66 : Int)).toNat))) := hf246
                    exact OpX.val u248 wd239 rfl (op_load one_33 e247 (Ext.cell (Ext.trans hE17 hS243.ext) hc249)) (Ext.refl _) rfl
                  · refine ObX.op rfl fun f251 wd252 he253 hout254 hphi255 => ?_
                    have hS256 := St.extend hS86 he253
                    have e257 : f251 5 = (Value.int .i64 (k43 : Int)) := (hout254 5 rfl).trans hf78
                    exact OpX.val (Value.int .i64 (k43 : Int)) wd252 rfl (op_move e257) (Ext.refl _) ⟨rfl, hr59⟩
                  · refine ObX.op rfl fun f258 wd259 he260 hout261 hphi262 => ?_
                    have hS263 := St.extend hS86 he260
                    obtain ⟨S264, hS265, hf266⟩ := hphi262 11 50 _ rfl rfl rfl
                    have e267 : f258 50 = u248 := hf266
                    obtain ⟨S268, hS269, hf270⟩ := hphi262 12 51 _ rfl rfl rfl
                    obtain ⟨e271, hr272⟩ := hf270
                    exact OpX.val (Value.pointer (some (elA u248 ((k43 : Int)).toNat))) wd259 rfl (op_idx sl_33 (Ty.lift _ (Ext.trans hE17 hS263.ext) hr250) e267 e271 ha274 hb275) (Ext.refl _) rfl
                  · refine ObX.op rfl fun f277 wd278 he279 hout280 hphi281 => ?_
                    have hS282 := St.extend hS86 he279
                    obtain ⟨S283, hS284, hf285⟩ := hphi281 13 52 _ rfl rfl rfl
                    have e286 : f277 52 = (Value.pointer (some (elA u248 ((k43 : Int)).toNat))) := hf285
                    exact OpX.val (Value.int .i64 x273) wd278 rfl (op_load one_2 e286 (Ext.cell (Ext.trans hE17 hS282.ext) hc288)) (Ext.refl _) ⟨rfl, hr289⟩
                  · refine ObX.op rfl fun f290 wd291 he292 hout293 hphi294 => ?_
                    have hS295 := St.extend hS86 he292
                    obtain ⟨S296, hS297, hf298⟩ := hphi294 0 39 _ rfl rfl rfl
                    obtain ⟨e299, hr300⟩ := hf298
                    obtain ⟨S301, hS302, hf303⟩ := hphi294 14 53 _ rfl rfl rfl
                    obtain ⟨e304, hr305⟩ := hf303
                    exact OpX.val (Value.bool (x103 != x273)) wd291 rfl (op_neq e299 e304) (Ext.refl _) rfl
                  · refine ObX.op rfl fun f306 wd307 he308 hout309 hphi310 => ?_
                    have hS311 := St.extend hS86 he308
                    obtain ⟨S312, hS313, hf314⟩ := hphi310 15 54 _ rfl rfl rfl
                    have e315 : f306 54 = (Value.bool (x103 != x273)) := hf314
                    exact OpX.val (Value.bool (x103 != x273)) wd307 rfl (op_move e315) (Ext.refl _) rfl
                  · refine ObX.op rfl fun f319 wd320 he321 hout322 hphi323 => ?_
                    obtain ⟨S324, hS325, hf326⟩ := hphi323 16 55 _ rfl rfl rfl
                    have e327 : f319 55 = (Value.bool (x103 != x273)) := hf326
                    exact OpX.skip (wanted_skip rfl rfl e327 hc318) rfl
                  · refine ObX.op rfl fun f328 wd329 he330 hout331 hphi332 => ?_
                    obtain ⟨S333, hS334, hf335⟩ := hphi332 16 55 _ rfl rfl rfl
                    have e336 : f328 55 = (Value.bool (x103 != x273)) := hf335
                    exact OpX.skip (wanted_skip rfl rfl e336 hc318) rfl
                  · refine ObX.op rfl fun f337 wd338 he339 hout340 hphi341 => ?_
                    obtain ⟨S342, hS343, hf344⟩ := hphi341 16 55 _ rfl rfl rfl
                    have e345 : f337 55 = (Value.bool (x103 != x273)) := hf344
                    exact OpX.skip (wanted_skip rfl rfl e345 hc318) rfl
                  · refine ObX.op rfl fun f346 wd347 he348 hout349 hphi350 => ?_
                    obtain ⟨S351, hS352, hf353⟩ := hphi350 16 55 _ rfl rfl rfl
                    have e354 : f346 55 = (Value.bool (x103 != x273)) := hf353
                    exact OpX.skip (wanted_skip rfl rfl e354 hc318) rfl
                  · refine ObX.op rfl fun f355 wd356 he357 hout358 hphi359 => ?_
                    obtain ⟨S360, hS361, hf362⟩ := hphi359 16 55 _ rfl rfl rfl
                    have e363 : f355 55 = (Value.bool (x103 != x273)) := hf362
                    exact OpX.skip (wanted_skip rfl rfl e363 hc318) rfl
                  · refine ObX.op rfl fun f364 wd365 he366 hout367 hphi368 => ?_
                    obtain ⟨S369, hS370, hf371⟩ := hphi368 16 55 _ rfl rfl rfl
                    have e372 : f364 55 = (Value.bool (x103 != x273)) := hf371
                    exact OpX.skip (wanted_skip rfl rfl e372 hc318) rfl
                  · refine ObX.op rfl fun f373 wd374 he375 hout376 hphi377 => ?_
                    obtain ⟨S378, hS379, hf380⟩ := hphi377 16 55 _ rfl rfl rfl
                    have e381 : f373 55 = (Value.bool (x103 != x273)) := hf380
                    exact OpX.skip (wanted_skip rfl rfl e381 hc318) rfl
                  · refine ObX.op rfl fun f382 wd383 he384 hout385 hphi386 => ?_
                    obtain ⟨S387, hS388, hf389⟩ := hphi386 16 55 _ rfl rfl rfl
                    have e390 : f382 55 = (Value.bool (x103 != x273)) := hf389
                    exact OpX.skip (wanted_skip rfl rfl e390 hc318) rfl
                  · refine ObX.op rfl fun f391 wd392 he393 hout394 hphi395 => ?_
                    obtain ⟨S396, hS397, hf398⟩ := hphi395 16 55 _ rfl rfl rfl
                    have e399 : f391 55 = (Value.bool (x103 != x273)) := hf398
                    exact OpX.skip (wanted_skip rfl rfl e399 hc318) rfl
                  · refine ObX.op rfl fun f400 wd401 he402 hout403 hphi404 => ?_
                    obtain ⟨S405, hS406, hf407⟩ := hphi404 16 55 _ rfl rfl rfl
                    have e408 : f400 55 = (Value.bool (x103 != x273)) := hf407
                    exact OpX.skip (wanted_skip rfl rfl e408 hc318) rfl
                  · refine ObX.op rfl fun f409 wd410 he411 hout412 hphi413 => ?_
                    obtain ⟨S414, hS415, hf416⟩ := hphi413 16 55 _ rfl rfl rfl
                    have e417 : f409 55 = (Value.bool (x103 != x273)) := hf416
                    exact OpX.skip (wanted_skip rfl rfl e417 hc318) rfl
                  · refine ObX.op rfl fun f418 wd419 he420 hout421 hphi422 => ?_
                    obtain ⟨S423, hS424, hf425⟩ := hphi422 16 55 _ rfl rfl rfl
                    have e426 : f418 55 = (Value.bool (x103 != x273)) := hf425
                    exact OpX.skip (wanted_skip rfl rfl e426 hc318) rfl
                  · refine ObX.op rfl fun f427 wd428 he429 hout430 hphi431 => ?_
                    obtain ⟨S432, hS433, hf434⟩ := hphi431 16 55 _ rfl rfl rfl
                    have e435 : f427 55 = (Value.bool (x103 != x273)) := hf434
                    exact OpX.skip (wanted_skip rfl rfl e435 hc318) rfl
                  · refine ObX.op rfl fun f436 wd437 he438 hout439 hphi440 => ?_
                    obtain ⟨S441, hS442, hf443⟩ := hphi440 16 55 _ rfl rfl rfl
                    have e444 : f436 55 = (Value.bool (x103 != x273)) := hf443
                    exact OpX.skip (wanted_skip rfl rfl e444 hc318) rfl
                  · refine ObX.op rfl fun f445 wd446 he447 hout448 hphi449 => ?_
                    obtain ⟨S450, hS451, hf452⟩ := hphi449 16 55 _ rfl rfl rfl
                    have e453 : f445 55 = (Value.bool (x103 != x273)) := hf452
                    exact OpX.skip (wanted_skip rfl rfl e453 hc318) rfl
                  · intro f454 wd455 Ss456 he457 hout458 hSn459 hSd460 hphi461
                    show WL _ _ _ _ _ _ _
                    have hS462 := St.extend hS86 he457
                    have e463 : f454 55 = (Value.bool (x103 != x273)) := hphi461 16 55 _ (by decide) rfl rfl
                    have e479 : f454 1 = (Value.pointer (some ⟨b1, 0, none⟩)) := (hout458 1 rfl).trans hf75
                    have e480 : f454 3 = u11 := (hout458 3 rfl).trans hf76
                    have e481 : f454 4 = (Value.int .i64 (k23 : Int)) := (hout458 4 rfl).trans hf77
                    have e482 : f454 5 = (Value.int .i64 (k43 : Int)) := (hout458 5 rfl).trans hf78
                    have e483 : f454 6 = (Value.int .i64 (k66 : Int)) := (hout458 6 rfl).trans rfl
                    have e484 : f454 12 = (Value.int .i64 ((r_Table).length : Int)) := (hout458 12 rfl).trans hf79
                    have e485 : f454 13 = (Value.int .i64 (k23 : Int)) := (hout458 13 rfl).trans hf80
                    have e486 : f454 18 = (Value.int .i64 ((r_Table).length : Int)) := (hout458 18 rfl).trans hf81
                    have e487 : f454 19 = (Value.int .i64 (k43 : Int)) := (hout458 19 rfl).trans hf82
                    have e488 : f454 24 = (Value.int .i64 ((r_Table).length : Int)) := (hout458 24 rfl).trans hf83
                    have e489 : f454 25 = (Value.int .i64 (k66 : Int)) := (hout458 25 rfl).trans hf84
                    refine WL.gskip rfl (bool_of e463 hc318) rfl ?_
                    refine WL.val (Value.bool true) _ (op_pick_t (evb_of e463 hc318) rfl) rfl ?_
                    refine WL.nil ?_
                    obtain rfl := Option.some.inj hj317
                    exact ⟨e479, e480, e481, e482, e483, e484, e485, e486, e487, e488, e489, rfl, hS462⟩
                · replace hj317 := inegb hj317 hc318
                  obtain ⟨x556, hx559, hj317⟩ := bs hj317
                  obtain ⟨ha557, hb558, hx559⟩ := idx_some hx559
                  obtain ⟨u574, hc575, hr576⟩ := repSl.el r_r_Table hx559
                  obtain ⟨x618, hx621, hj317⟩ := bs hj317
                  obtain ⟨ha619, hb620, hx621⟩ := idx_some hx621
                  obtain ⟨u636, hc637, hr638⟩ := repSl.el hb16 hx621
                  obtain ⟨rfl, hr638⟩ := hr638
                  obtain ⟨x658, hx661, hj317⟩ := bs hj317
                  obtain ⟨ha659, hb660, hx661⟩ := idx_some hx661
                  obtain ⟨u676, hc677, hr678⟩ := repSl.el hr576 hx661
                  obtain ⟨x709, hx712, hj317⟩ := bs hj317
                  obtain ⟨ha710, hb711, hx712⟩ := idx_some hx712
                  obtain ⟨u727, hc728, hr729⟩ := repSl.el hr678 hx712
                  obtain ⟨rfl, hr729⟩ := hr729
                  refine W.drawR mixo 32 [] [fun _ v _ _ => v = (Value.int .i64 x103) ∧ InR .i64 x103, fun _ v _ _ => v = (Value.pointer (some ⟨b1, 0, none⟩)), fun _ v _ _ => v = v_r_Table, fun _ v _ _ => v = u11, fun _ v _ _ => v = (Value.int .i64 (k23 : Int)) ∧ InR .i64 (k23 : Int), fun _ v _ _ => v = (Value.pointer (some (elA u11 ((k23 : Int)).toNat))), fun _ v _ _ => v = (Value.int .i64 x163) ∧ InR .i64 x163, fun _ v _ _ => v = (Value.pointer (some (elA v_r_Table (x163).toNat))), fun _ v _ _ => v = u209, fun _ v _ _ => v = (Value.int .i64 (k66 : Int)) ∧ InR .i64 (k66 : Int), fun _ v _ _ => v = (Value.pointer (some (elA u209 ((k66 : Int)).toNat))), fun _ v _ _ => v = u248, fun _ v _ _ => v = (Value.int .i64 (k43 : Int)) ∧ InR .i64 (k43 : Int), fun _ v _ _ => v = (Value.pointer (some (elA u248 ((k43 : Int)).toNat))), fun _ v _ _ => v = (Value.int .i64 x273) ∧ InR .i64 x273, fun _ v _ _ => v = (Value.bool (x103 != x273)), fun _ v _ _ => v = (Value.bool (x103 != x273)), fun _ v _ _ => v = (Value.int .i64 x103) ∧ InR .i64 x103, fun _ v _ _ => v = (Value.pointer (some ⟨b1, 0, none⟩)), fun _ v _ _ => v = v_r_Table, fun _ v _ _ => v = (Value.int .i64 (k66 : Int)) ∧ InR .i64 (k66 : Int), fun _ v _ _ => v = (Value.pointer (some (elA v_r_Table ((k66 : Int)).toNat))), fun _ v _ _ => v = u574, fun _ v _ _ => v = u11, fun _ v _ _ => v = (Value.int .i64 (k43 : Int)) ∧ InR .i64 (k43 : Int), fun _ v _ _ => v = (Value.pointer (some (elA u11 ((k43 : Int)).toNat))), fun _ v _ _ => v = (Value.int .i64 x618) ∧ InR .i64 x618, fun _ v _ _ => v = (Value.pointer (some (elA u574 (x618).toNat))), fun _ v _ _ => v = u676, fun _ v _ _ => v = (Value.int .i64 (k23 : Int)) ∧ InR .i64 (k23 : Int), fun _ v _ _ => v = (Value.pointer (some (elA u676 ((k23 : Int)).toNat))), fun _ v _ _ => v = (Value.int .i64 x709) ∧ InR .i64 x709] (by kernel_rfl) (by kernel_rfl) ⟨pk, pk, pk, pk, pk, pk, pk, pk, pk, pk, pk, pk, pk, pk, pk, pk, pk, pk, pk, pk, pk, pk, pk, pk, pk, pk, pk, pk, pk, pk, pk, pk, trivial⟩ ⟨?_, ?_, ?_, ?_, ?_, ?_, ?_, ?_, ?_, ?_, ?_, ?_, ?_, ?_, ?_, ?_, ?_, ?_, ?_, ?_, ?_, ?_, ?_, ?_, ?_, ?_, ?_, ?_, ?_, ?_, ?_, ?_, trivial⟩ ?_
                  · refine ObX.op rfl fun f110 wd111 he112 hout113 hphi114 => ?_
                    have hS115 := St.extend hS86 he112
                    have e116 : f110 7 = (Value.int .i64 x103) := (hout113 7 rfl).trans rfl
                    exact OpX.val (Value.int .i64 x103) wd111 rfl (op_move e116) (Ext.refl _) ⟨rfl, hr109⟩
                  · refine ObX.op rfl fun f117 wd118 he119 hout120 hphi121 => ?_
                    have hS122 := St.extend hS86 he119
                    have e123 : f117 1 = (Value.pointer (some ⟨b1, 0, none⟩)) := (hout120 1 rfl).trans hf75
                    exact OpX.val (Value.pointer (some ⟨b1, 0, none⟩)) wd118 rfl (op_fieldAddr fd_26_0 e123) (Ext.refl _) rfl
                  · refine ObX.op rfl fun f124 wd125 he126 hout127 hphi128 => ?_
                    have hS129 := St.extend hS86 he126
                    obtain ⟨S130, hS131, hf132⟩ := hphi128 1 40 _ rfl rfl rfl
                    have e133 : f124 40 = (Value.pointer (some ⟨b1, 0, none⟩)) := hf132
                    exact OpX.val v_r_Table wd125 rfl (op_load one_22 e133 (BoxAt.cell (BoxAt.lift (Ext.trans hE18 hS129.ext) hx6) rfl)) (Ext.refl _) rfl
                  · refine ObX.op rfl fun f134 wd135 he136 hout137 hphi138 => ?_
                    have hS139 := St.extend hS86 he136
                    have e140 : f134 3 = u11 := (hout137 3 rfl).trans hf76
                    exact OpX.val u11 wd135 rfl (op_move e140) (Ext.refl _) rfl
                  · refine ObX.op rfl fun f141 wd142 he143 hout144 hphi145 => ?_
                    have hS146 := St.extend hS86 he143
                    have e147 : f141 4 = (Value.int .i64 (k23 : Int)) := (hout144 4 rfl).trans hf77
                    exact OpX.val (Value.int .i64 (k23 : Int)) wd142 rfl (op_move e147) (Ext.refl _) ⟨rfl, hr36⟩
                  · refine ObX.op rfl fun f148 wd149 he150 hout151 hphi152 => ?_
                    have hS153 := St.extend hS86 he150
                    obtain ⟨S154, hS155, hf156⟩ := hphi152 3 42 _ rfl rfl rfl
                    have e157 : f148 42 = u11 := hf156
                    obtain ⟨S158, hS159, hf160⟩ := hphi152 4 43 _ rfl rfl rfl
                    obtain ⟨e161, hr162⟩ := hf160
                    exact OpX.val (Value.pointer (some (elA u11 ((k23 : Int)).toNat))) wd149 rfl (op_idx sl_61 (Ty.lift _ hS153.ext hb16) e157 e161 ha164 hb165) (Ext.refl _) rfl
                  · refine ObX.op rfl fun f167 wd168 he169 hout170 hphi171 => ?_
                    have hS172 := St.extend hS86 he169
                    obtain ⟨S173, hS174, hf175⟩ := hphi171 5 44 _ rfl rfl rfl
                    have e176 : f167 44 = (Value.pointer (some (elA u11 ((k23 : Int)).toNat))) := hf175
                    exact OpX.val (Value.int .i64 x163) wd168 rfl (op_load one_3 e176 (Ext.cell hS172.ext hc178)) (Ext.refl _) ⟨rfl, hr179⟩
                  · refine ObX.op rfl fun f180 wd181 he182 hout183 hphi184 => ?_
                    have hS185 := St.extend hS86 he182
                    obtain ⟨S186, hS187, hf188⟩ := hphi184 2 41 _ rfl rfl rfl
                    have e189 : f180 41 = v_r_Table := hf188
                    obtain ⟨S190, hS191, hf192⟩ := hphi184 6 45 _ rfl rfl rfl
                    obtain ⟨e193, hr194⟩ := hf192
                    exact OpX.val (Value.pointer (some (elA v_r_Table (x163).toNat))) wd181 rfl (op_idx sl_22 (Ty.lift _ (Ext.trans hE17 hS185.ext) r_r_Table) e189 e193 ha196 hb197) (Ext.refl _) rfl
                  · refine ObX.op rfl fun f199 wd200 he201 hout202 hphi203 => ?_
                    have hS204 := St.extend hS86 he201
                    obtain ⟨S205, hS206, hf207⟩ := hphi203 7 46 _ rfl rfl rfl
                    have e208 : f199 46 = (Value.pointer (some (elA v_r_Table (x163).toNat))) := hf207
                    exact OpX.val u209 wd200 rfl (op_load one_41 e208 (Ext.cell (Ext.trans hE17 hS204.ext) hc210)) (Ext.refl _) rfl
                  · refine ObX.op rfl fun f212 wd213 he214 hout215 hphi216 => ?_
                    have hS217 := St.extend hS86 he214
                    have e218 : f212 6 = (Value.int .i64 (k66 : Int)) := (hout215 6 rfl).trans rfl
                    exact OpX.val (Value.int .i64 (k66 : Int)) wd213 rfl (op_move e218) (Ext.refl _) ⟨rfl, hr85⟩
                  · refine ObX.op rfl fun f219 wd220 he221 hout222 hphi223 => ?_
                    have hS224 := St.extend hS86 he221
                    obtain ⟨S225, hS226, hf227⟩ := hphi223 8 47 _ rfl rfl rfl
                    have e228 : f219 47 = u209 := hf227
                    obtain ⟨S229, hS230, hf231⟩ := hphi223 9 48 _ rfl rfl rfl
                    obtain ⟨e232, hr233⟩ := hf231
                    exact OpX.val (Value.pointer (some (elA u209 ((k66 : Int)).toNat))) wd220 rfl (op_idx sl_41 (Ty.lift _ (Ext.trans hE17 hS224.ext) hr211) e228 e232 ha235 hb236) (Ext.refl _) rfl
                  · refine ObX.op rfl fun f238 wd239 he240 hout241 hphi242 => ?_
                    have hS243 := St.extend hS86 he240
                    obtain ⟨S244, hS245, hf246⟩ := hphi242 10 49 _ rfl rfl rfl
                    have e247 : f238 49 = (Value.pointer (some (elA u209 ((k66 : Int)).toNat))) := hf246
                    exact OpX.val u248 wd239 rfl (op_load one_33 e247 (Ext.cell (Ext.trans hE17 hS243.ext) hc249)) (Ext.refl _) rfl
                  · refine ObX.op rfl fun f251 wd252 he253 hout254 hphi255 => ?_
                    have hS256 := St.extend hS86 he253
                    have e257 : f251 5 = (Value.int .i64 (k43 : Int)) := (hout254 5 rfl).trans hf78
                    exact OpX.val (Value.int .i64 (k43 : Int)) wd252 rfl (op_move e257) (Ext.refl _) ⟨rfl, hr59⟩
                  · refine ObX.op rfl fun f258 wd259 he260 hout261 hphi262 => ?_
                    have hS263 := St.extend hS86 he260
                    obtain ⟨S264, hS265, hf266⟩ := hphi262 11 50 _ rfl rfl rfl
                    have e267 : f258 50 = u248 := hf266
                    obtain ⟨S268, hS269, hf270⟩ := hphi262 12 51 _ rfl rfl rfl
                    obtain ⟨e271, hr272⟩ := hf270
                    exact OpX.val (Value.pointer (some (elA u248 ((k43 : Int)).toNat))) wd259 rfl (op_idx sl_33 (Ty.lift _ (Ext.trans hE17 hS263.ext) hr250) e267 e271 ha274 hb275) (Ext.refl _) rfl
                  · refine ObX.op rfl fun f277 wd278 he279 hout280 hphi281 => ?_
                    have hS282 := St.extend hS86 he279
                    obtain ⟨S283, hS284, hf285⟩ := hphi281 13 52 _ rfl rfl rfl
                    have e286 : f277 52 = (Value.pointer (some (elA u248 ((k43 : Int)).toNat))) := hf285
                    exact OpX.val (Value.int .i64 x273) wd278 rfl (op_load one_2 e286 (Ext.cell (Ext.trans hE17 hS282.ext) hc288)) (Ext.refl _) ⟨rfl, hr289⟩
                  · refine ObX.op rfl fun f290 wd291 he292 hout293 hphi294 => ?_
                    have hS295 := St.extend hS86 he292
                    obtain ⟨S296, hS297, hf298⟩ := hphi294 0 39 _ rfl rfl rfl
                    obtain ⟨e299, hr300⟩ := hf298
                    obtain ⟨S301, hS302, hf303⟩ := hphi294 14 53 _ rfl rfl rfl
                    obtain ⟨e304, hr305⟩ := hf303
                    exact OpX.val (Value.bool (x103 != x273)) wd291 rfl (op_neq e299 e304) (Ext.refl _) rfl
                  · refine ObX.op rfl fun f306 wd307 he308 hout309 hphi310 => ?_
                    have hS311 := St.extend hS86 he308
                    obtain ⟨S312, hS313, hf314⟩ := hphi310 15 54 _ rfl rfl rfl
                    have e315 : f306 54 = (Value.bool (x103 != x273)) := hf314
                    exact OpX.val (Value.bool (x103 != x273)) wd307 rfl (op_move e315) (Ext.refl _) rfl
                  · refine ObX.op rfl fun f490 wd491 he492 hout493 hphi494 => ?_
                    have e496 : f490 7 = (Value.int .i64 x103) := (hout493 7 rfl).trans rfl
                    obtain ⟨S497, hS498, hf499⟩ := hphi494 16 55 _ rfl rfl rfl
                    have e500 : f490 55 = (Value.bool (x103 != x273)) := hf499
                    exact OpX.val (Value.int .i64 x103) wd491 (wanted_run rfl rfl e500 hc318) (op_move e496) (Ext.refl _) ⟨rfl, hr109⟩
                  · refine ObX.op rfl fun f501 wd502 he503 hout504 hphi505 => ?_
                    have e507 : f501 1 = (Value.pointer (some ⟨b1, 0, none⟩)) := (hout504 1 rfl).trans hf75
                    obtain ⟨S508, hS509, hf510⟩ := hphi505 16 55 _ rfl rfl rfl
                    have e511 : f501 55 = (Value.bool (x103 != x273)) := hf510
                    exact OpX.val (Value.pointer (some ⟨b1, 0, none⟩)) wd502 (wanted_run rfl rfl e511 hc318) (op_fieldAddr fd_26_0 e507) (Ext.refl _) rfl
                  · refine ObX.op rfl fun f512 wd513 he514 hout515 hphi516 => ?_
                    have hS517 := St.extend hS86 he514
                    obtain ⟨S518, hS519, hf520⟩ := hphi516 16 55 _ rfl rfl rfl
                    have e521 : f512 55 = (Value.bool (x103 != x273)) := hf520
                    obtain ⟨S522, hS523, hf524⟩ := hphi516 18 57 _ rfl rfl rfl
                    have e525 : f512 57 = (Value.pointer (some ⟨b1, 0, none⟩)) := hf524
                    exact OpX.val v_r_Table wd513 (wanted_run rfl rfl e521 hc318) (op_load one_22 e525 (BoxAt.cell (BoxAt.lift (Ext.trans hE18 hS517.ext) hx6) rfl)) (Ext.refl _) rfl
                  · refine ObX.op rfl fun f526 wd527 he528 hout529 hphi530 => ?_
                    have e532 : f526 6 = (Value.int .i64 (k66 : Int)) := (hout529 6 rfl).trans rfl
                    obtain ⟨S533, hS534, hf535⟩ := hphi530 16 55 _ rfl rfl rfl
                    have e536 : f526 55 = (Value.bool (x103 != x273)) := hf535
                    exact OpX.val (Value.int .i64 (k66 : Int)) wd527 (wanted_run rfl rfl e536 hc318) (op_move e532) (Ext.refl _) ⟨rfl, hr85⟩
                  · refine ObX.op rfl fun f537 wd538 he539 hout540 hphi541 => ?_
                    have hS542 := St.extend hS86 he539
                    obtain ⟨S543, hS544, hf545⟩ := hphi541 16 55 _ rfl rfl rfl
                    have e546 : f537 55 = (Value.bool (x103 != x273)) := hf545
                    obtain ⟨S547, hS548, hf549⟩ := hphi541 19 58 _ rfl rfl rfl
                    have e550 : f537 58 = v_r_Table := hf549
                    obtain ⟨S551, hS552, hf553⟩ := hphi541 20 59 _ rfl rfl rfl
                    obtain ⟨e554, hr555⟩ := hf553
                    exact OpX.val (Value.pointer (some (elA v_r_Table ((k66 : Int)).toNat))) wd538 (wanted_run rfl rfl e546 hc318) (op_idx sl_22 (Ty.lift _ (Ext.trans hE17 hS542.ext) r_r_Table) e550 e554 ha557 hb558) (Ext.refl _) rfl
                  · refine ObX.op rfl fun f560 wd561 he562 hout563 hphi564 => ?_
                    have hS565 := St.extend hS86 he562
                    obtain ⟨S566, hS567, hf568⟩ := hphi564 16 55 _ rfl rfl rfl
                    have e569 : f560 55 = (Value.bool (x103 != x273)) := hf568
                    obtain ⟨S570, hS571, hf572⟩ := hphi564 21 60 _ rfl rfl rfl
                    have e573 : f560 60 = (Value.pointer (some (elA v_r_Table ((k66 : Int)).toNat))) := hf572
                    exact OpX.val u574 wd561 (wanted_run rfl rfl e569 hc318) (op_load one_41 e573 (Ext.cell (Ext.trans hE17 hS565.ext) hc575)) (Ext.refl _) rfl
                  · refine ObX.op rfl fun f577 wd578 he579 hout580 hphi581 => ?_
                    have e583 : f577 3 = u11 := (hout580 3 rfl).trans hf76
                    obtain ⟨S584, hS585, hf586⟩ := hphi581 16 55 _ rfl rfl rfl
                    have e587 : f577 55 = (Value.bool (x103 != x273)) := hf586
                    exact OpX.val u11 wd578 (wanted_run rfl rfl e587 hc318) (op_move e583) (Ext.refl _) rfl
                  · refine ObX.op rfl fun f588 wd589 he590 hout591 hphi592 => ?_
                    have e594 : f588 5 = (Value.int .i64 (k43 : Int)) := (hout591 5 rfl).trans hf78
                    obtain ⟨S595, hS596, hf597⟩ := hphi592 16 55 _ rfl rfl rfl
                    have e598 : f588 55 = (Value.bool (x103 != x273)) := hf597
                    exact OpX.val (Value.int .i64 (k43 : Int)) wd589 (wanted_run rfl rfl e598 hc318) (op_move e594) (Ext.refl _) ⟨rfl, hr59⟩
                  · refine ObX.op rfl fun f599 wd600 he601 hout602 hphi603 => ?_
                    have hS604 := St.extend hS86 he601
                    obtain ⟨S605, hS606, hf607⟩ := hphi603 16 55 _ rfl rfl rfl
                    have e608 : f599 55 = (Value.bool (x103 != x273)) := hf607
                    obtain ⟨S609, hS610, hf611⟩ := hphi603 23 62 _ rfl rfl rfl
                    have e612 : f599 62 = u11 := hf611
                    obtain ⟨S613, hS614, hf615⟩ := hphi603 24 63 _ rfl rfl rfl
                    obtain ⟨e616, hr617⟩ := hf615
                    exact OpX.val (Value.pointer (some (elA u11 ((k43 : Int)).toNat))) wd600 (wanted_run rfl rfl e608 hc318) (op_idx sl_61 (Ty.lift _ hS604.ext hb16) e612 e616 ha619 hb620) (Ext.refl _) rfl
                  · refine ObX.op rfl fun f622 wd623 he624 hout625 hphi626 => ?_
                    have hS627 := St.extend hS86 he624
                    obtain ⟨S628, hS629, hf630⟩ := hphi626 16 55 _ rfl rfl rfl
                    have e631 : f622 55 = (Value.bool (x103 != x273)) := hf630
                    obtain ⟨S632, hS633, hf634⟩ := hphi626 25 64 _ rfl rfl rfl
                    have e635 : f622 64 = (Value.pointer (some (elA u11 ((k43 : Int)).toNat))) := hf634
                    exact OpX.val (Value.int .i64 x618) wd623 (wanted_run rfl rfl e631 hc318) (op_load one_3 e635 (Ext.cell hS627.ext hc637)) (Ext.refl _) ⟨rfl, hr638⟩
                  · refine ObX.op rfl fun f639 wd640 he641 hout642 hphi643 => ?_
                    have hS644 := St.extend hS86 he641
                    obtain ⟨S645, hS646, hf647⟩ := hphi643 16 55 _ rfl rfl rfl
                    have e648 : f639 55 = (Value.bool (x103 != x273)) := hf647
                    obtain ⟨S649, hS650, hf651⟩ := hphi643 22 61 _ rfl rfl rfl
                    have e652 : f639 61 = u574 := hf651
                    obtain ⟨S653, hS654, hf655⟩ := hphi643 26 65 _ rfl rfl rfl
                    obtain ⟨e656, hr657⟩ := hf655
                    exact OpX.val (Value.pointer (some (elA u574 (x618).toNat))) wd640 (wanted_run rfl rfl e648 hc318) (op_idx sl_41 (Ty.lift _ (Ext.trans hE17 hS644.ext) hr576) e652 e656 ha659 hb660) (Ext.refl _) rfl
                  · refine ObX.op rfl fun f662 wd663 he664 hout665 hphi666 => ?_
                    have hS667 := St.extend hS86 he664
                    obtain ⟨S668, hS669, hf670⟩ := hphi666 16 55 _ rfl rfl rfl
                    have e671 : f662 55 = (Value.bool (x103 != x273)) := hf670
                    obtain ⟨S672, hS673, hf674⟩ := hphi666 27 66 _ rfl rfl rfl
                    have e675 : f662 66 = (Value.pointer (some (elA u574 (x618).toNat))) := hf674
                    exact OpX.val u676 wd663 (wanted_run rfl rfl e671 hc318) (op_load one_33 e675 (Ext.cell (Ext.trans hE17 hS667.ext) hc677)) (Ext.refl _) rfl
                  · refine ObX.op rfl fun f679 wd680 he681 hout682 hphi683 => ?_
                    have e685 : f679 4 = (Value.int .i64 (k23 : Int)) := (hout682 4 rfl).trans hf77
                    obtain ⟨S686, hS687, hf688⟩ := hphi683 16 55 _ rfl rfl rfl
                    have e689 : f679 55 = (Value.bool (x103 != x273)) := hf688
                    exact OpX.val (Value.int .i64 (k23 : Int)) wd680 (wanted_run rfl rfl e689 hc318) (op_move e685) (Ext.refl _) ⟨rfl, hr36⟩
                  · refine ObX.op rfl fun f690 wd691 he692 hout693 hphi694 => ?_
                    have hS695 := St.extend hS86 he692
                    obtain ⟨S696, hS697, hf698⟩ := hphi694 16 55 _ rfl rfl rfl
                    have e699 : f690 55 = (Value.bool (x103 != x273)) := hf698
                    obtain ⟨S700, hS701, hf702⟩ := hphi694 28 67 _ rfl rfl rfl
                    have e703 : f690 67 = u676 := hf702
                    obtain ⟨S704, hS705, hf706⟩ := hphi694 29 68 _ rfl rfl rfl
                    obtain ⟨e707, hr708⟩ := hf706
                    exact OpX.val (Value.pointer (some (elA u676 ((k23 : Int)).toNat))) wd691 (wanted_run rfl rfl e699 hc318) (op_idx sl_33 (Ty.lift _ (Ext.trans hE17 hS695.ext) hr678) e703 e707 ha710 hb711) (Ext.refl _) rfl
                  · refine ObX.op rfl fun f713 wd714 he715 hout716 hphi717 => ?_
                    have hS718 := St.extend hS86 he715
                    obtain ⟨S719, hS720, hf721⟩ := hphi717 16 55 _ rfl rfl rfl
                    have e722 : f713 55 = (Value.bool (x103 != x273)) := hf721
                    obtain ⟨S723, hS724, hf725⟩ := hphi717 30 69 _ rfl rfl rfl
                    have e726 : f713 69 = (Value.pointer (some (elA u676 ((k23 : Int)).toNat))) := hf725
                    exact OpX.val (Value.int .i64 x709) wd714 (wanted_run rfl rfl e722 hc318) (op_load one_2 e726 (Ext.cell (Ext.trans hE17 hS718.ext) hc728)) (Ext.refl _) ⟨rfl, hr729⟩
                  · intro f730 wd731 Ss732 he733 hout734 hSn735 hSd736 hphi737
                    show WL _ _ _ _ _ _ _
                    have hS738 := St.extend hS86 he733
                    have e739 : f730 55 = (Value.bool (x103 != x273)) := hphi737 16 55 _ (by decide) rfl rfl
                    obtain ⟨e740, hr741⟩ := hphi737 17 56 _ (by decide) rfl rfl
                    obtain ⟨e744, hr745⟩ := hphi737 20 59 _ (by decide) rfl rfl
                    obtain ⟨e749, hr750⟩ := hphi737 24 63 _ (by decide) rfl rfl
                    obtain ⟨e752, hr753⟩ := hphi737 26 65 _ (by decide) rfl rfl
                    obtain ⟨e756, hr757⟩ := hphi737 29 68 _ (by decide) rfl rfl
                    obtain ⟨e759, hr760⟩ := hphi737 31 70 _ (by decide) rfl rfl
                    have e761 : f730 1 = (Value.pointer (some ⟨b1, 0, none⟩)) := (hout734 1 rfl).trans hf75
                    have e762 : f730 3 = u11 := (hout734 3 rfl).trans hf76
                    have e763 : f730 4 = (Value.int .i64 (k23 : Int)) := (hout734 4 rfl).trans hf77
                    have e764 : f730 5 = (Value.int .i64 (k43 : Int)) := (hout734 5 rfl).trans hf78
                    have e765 : f730 6 = (Value.int .i64 (k66 : Int)) := (hout734 6 rfl).trans rfl
                    have e766 : f730 12 = (Value.int .i64 ((r_Table).length : Int)) := (hout734 12 rfl).trans hf79
                    have e767 : f730 13 = (Value.int .i64 (k23 : Int)) := (hout734 13 rfl).trans hf80
                    have e768 : f730 18 = (Value.int .i64 ((r_Table).length : Int)) := (hout734 18 rfl).trans hf81
                    have e769 : f730 19 = (Value.int .i64 (k43 : Int)) := (hout734 19 rfl).trans hf82
                    have e770 : f730 24 = (Value.int .i64 ((r_Table).length : Int)) := (hout734 24 rfl).trans hf83
                    have e771 : f730 25 = (Value.int .i64 (k66 : Int)) := (hout734 25 rfl).trans hf84
                    refine WL.grun rfl (bool_of e739 hc318) ?_
                    refine WL.val (Value.bool (x103 != x709)) _ (op_neq e740 e759) rfl ?_
                    refine WL.val (Value.bool (x103 != x709)) _ (op_pick_f (evb_of e739 hc318) rfl) rfl ?_
                    refine WL.nil ?_
                    obtain rfl := Option.some.inj hj317
                    exact ⟨e761, e762, e763, e764, e765, e766, e767, e768, e769, e770, e771, rfl, hS738⟩
              · intro f772 wd773 hq774
                obtain ⟨hf775, hf776, hf777, hf778, hf779, hf780, hf781, hf782, hf783, hf784, hf785, hf786, hS787⟩ := hq774
                refine W.cond x316 hf786 (fun hc788 => ?_) (fun hc788 => ?_)
                · replace hb71 := ip hb71 hc788
                  refine W.seq (W.region ?_)
                  refine WL.val (Value.int .i64 (k23 : Int)) _ (op_move hf777) rfl ?_
                  refine WL.val (Value.int .i64 (k43 : Int)) _ (op_move hf778) rfl ?_
                  refine WL.val (Value.int .i64 (k66 : Int)) _ (op_move hf779) rfl ?_
                  refine WL.litFlat (t := (Ty.i .i64)) (flat_i .i64) [(Value.int .i64 (2 : Int)), (Value.int .i64 (k23 : Int)), (Value.int .i64 (k43 : Int)), (Value.int .i64 (k66 : Int))] [(2 : Int), (k23 : Int), (k43 : Int), (k66 : Int)] hS787 sl_33 rfl rfl (fillL rfl ⟨rfl, rfl, rfl, rfl, rfl, rfl, rfl, rfl, rfl, rfl, rfl, rfl, trivial⟩) rfl rfl (litL ⟨⟨rfl, (inL rfl)⟩, ⟨rfl, hr36⟩, ⟨rfl, hr59⟩, ⟨rfl, hr85⟩, trivial⟩) rfl ?_
                  intro u790 wd791 hS792 he793
                  replace hS792 : St wd12 wd791 [(Ty.sl (Ty.i .i64)).at u790 ([(2 : Int), (k23 : Int), (k43 : Int), (k66 : Int)] : (List Int))] := hS792
                  refine WL.val u790 _ (op_assign rfl) rfl ?_
                  refine WL.nil ?_
                  refine W.ret ?_
                  obtain rfl := Option.some.inj hb71
                  obtain rfl := hret74 _ rfl
                  replace hb48 := onRes_ret hb48
                  obtain rfl := Option.some.inj hb48
                  obtain rfl := hret51 _ rfl
                  replace hb28 := onRes_ret hb28
                  obtain rfl := Option.some.inj hb28
                  obtain rfl := hret31 _ rfl
                  replace h := onRes_ret h
                  obtain rfl := Option.some.inj h
                  show FinP _ _ _ _ _ _ _
                  exact FinP.ret _ (res1 rfl rfl) ⟨u790, rfl, (nil_cons), (Ext.trans hE17 hS792.ext), (St.out (St.pick hS792 [0] rfl) (hE17))⟩
                · replace hb71 := inegb hb71 hc788
                  refine W.skip ?_
                  show W _ _ _ _ _ _
                  refine W.region ?_
                  refine WL.val (Value.int .i64 (w64 ((k66 : Int) + (1 : Int)))) _ (op_add hf785 rfl) rfl ?_
                  refine WL.val (Value.int .i64 (w64 ((k66 : Int) + (1 : Int)))) _ (op_move rfl) rfl ?_
                  refine WL.nil ?_
                  obtain rfl := Option.some.inj hb71
                  show ∃ s, _ = Ctl.next s ∧ _
                  exact ⟨_, rfl, hf775, hf776, hf777, hf778, hf780, hf781, hf782, hf783, hf784, (ctr_next hl87 hr63), (ctr_rng hl87 hr63), hS787⟩
            · intro s799 f795 wd796 hs797 hI798
              obtain ⟨⟩ := s799
              replace hI798 : f795 1 = (Value.pointer (some ⟨b1, 0, none⟩)) ∧ f795 3 = u11 ∧ f795 4 = (Value.int .i64 (k23 : Int)) ∧ f795 5 = (Value.int .i64 (k43 : Int)) ∧ f795 12 = (Value.int .i64 ((r_Table).length : Int)) ∧ f795 13 = (Value.int .i64 (k23 : Int)) ∧ f795 18 = (Value.int .i64 ((r_Table).length : Int)) ∧ f795 19 = (Value.int .i64 (k43 : Int)) ∧ f795 24 = (Value.int .i64 ((r_Table).length : Int)) ∧ f795 25 = Value.int .i64 (((r_Table).length : Nat) : Int) ∧ InR .i64 (((r_Table).length : Nat) : Int) ∧ St wd12 wd796 [] := hI798
              obtain ⟨hf800, hf801, hf802, hf803, hf804, hf805, hf806, hf807, hf808, hf809, hr810, hS811⟩ := hI798
              refine W.seq (W.region ?_)
              refine WL.val (Value.bool (decide ((((r_Table).length : Nat) : Int) < ((r_Table).length : Int)))) _ (op_lss hf809 hf808) rfl ?_
              have hl812 : ¬ (((r_Table).length : Nat) : Int) < ((r_Table).length : Int) := by omega
              refine WL.nil ?_
              refine W.seq ?_
              refine W.condF (decide ((((r_Table).length : Nat) : Int) < ((r_Table).length : Int))) rfl (decide_eq_false hl812) ?_
              refine W.exit ?_
              show _ = _ ∧ _
              exact ⟨rfl, _, hs797, hf800, hf801, hf802, hf804, hf805, hf806, hf807, hS811⟩
          · rintro f813 wd814 ⟨s816, rfl, hq815⟩
            replace hb48 := onRes_fin hb48
            obtain ⟨⟩ := s816
            replace hq815 : f813 1 = (Value.pointer (some ⟨b1, 0, none⟩)) ∧ f813 3 = u11 ∧ f813 4 = (Value.int .i64 (k23 : Int)) ∧ f813 12 = (Value.int .i64 ((r_Table).length : Int)) ∧ f813 13 = (Value.int .i64 (k23 : Int)) ∧ f813 18 = (Value.int .i64 ((r_Table).length : Int)) ∧ f813 19 = (Value.int .i64 (k43 : Int)) ∧ St wd12 wd814 [] := hq815
            obtain ⟨hf817, hf818, hf819, hf820, hf821, hf822, hf823, hS824⟩ := hq815
            show W _ _ _ _ _ _
            refine W.region ?_
            refine WL.val (Value.int .i64 (w64 ((k43 : Int) + (1 : Int)))) _ (op_add hf823 rfl) rfl ?_
            refine WL.val (Value.int .i64 (w64 ((k43 : Int) + (1 : Int)))) _ (op_move rfl) rfl ?_
            refine WL.nil ?_
            obtain rfl := Option.some.inj hb48
            show ∃ s, _ = Ctl.next s ∧ _
            exact ⟨_, rfl, hf817, hf818, hf819, hf820, hf821, hf822, (ctr_next hl61 hr40), (ctr_rng hl61 hr40), hS824⟩
        · intro s831 f827 wd828 hs829 hI830
          obtain ⟨⟩ := s831
          replace hI830 : f827 1 = (Value.pointer (some ⟨b1, 0, none⟩)) ∧ f827 3 = u11 ∧ f827 4 = (Value.int .i64 (k23 : Int)) ∧ f827 12 = (Value.int .i64 ((r_Table).length : Int)) ∧ f827 13 = (Value.int .i64 (k23 : Int)) ∧ f827 18 = (Value.int .i64 ((r_Table).length : Int)) ∧ f827 19 = Value.int .i64 (((r_Table).length : Nat) : Int) ∧ InR .i64 (((r_Table).length : Nat) : Int) ∧ St wd12 wd828 [] := hI830
          obtain ⟨hf832, hf833, hf834, hf835, hf836, hf837, hf838, hr839, hS840⟩ := hI830
          refine W.seq (W.region ?_)
          refine WL.val (Value.bool (decide ((((r_Table).length : Nat) : Int) < ((r_Table).length : Int)))) _ (op_lss hf838 hf837) rfl ?_
          have hl841 : ¬ (((r_Table).length : Nat) : Int) < ((r_Table).length : Int) := by omega
          refine WL.nil ?_
          refine W.seq ?_
          refine W.condF (decide ((((r_Table).length : Nat) : Int) < ((r_Table).length : Int))) rfl (decide_eq_false hl841) ?_
          refine W.exit ?_
          show _ = _ ∧ _
          exact ⟨rfl, _, hs829, hf832, hf833, hf835, hf836, hS840⟩
      · rintro f842 wd843 ⟨s845, rfl, hq844⟩
        replace hb28 := onRes_fin hb28
        obtain ⟨⟩ := s845
        replace hq844 : f842 1 = (Value.pointer (some ⟨b1, 0, none⟩)) ∧ f842 3 = u11 ∧ f842 12 = (Value.int .i64 ((r_Table).length : Int)) ∧ f842 13 = (Value.int .i64 (k23 : Int)) ∧ St wd12 wd843 [] := hq844
        obtain ⟨hf846, hf847, hf848, hf849, hS850⟩ := hq844
        show W _ _ _ _ _ _
        refine W.region ?_
        refine WL.val (Value.int .i64 (w64 ((k23 : Int) + (1 : Int)))) _ (op_add hf849 rfl) rfl ?_
        refine WL.val (Value.int .i64 (w64 ((k23 : Int) + (1 : Int)))) _ (op_move rfl) rfl ?_
        refine WL.nil ?_
        obtain rfl := Option.some.inj hb28
        show ∃ s, _ = Ctl.next s ∧ _
        exact ⟨_, rfl, hf846, hf847, hf848, (ctr_next hl38 hr20), (ctr_rng hl38 hr20), hS850⟩
    · intro s857 f853 wd854 hs855 hI856
      obtain ⟨⟩ := s857
      replace hI856 : f853 1 = (Value.pointer (some ⟨b1, 0, none⟩)) ∧ f853 3 = u11 ∧ f853 12 = (Value.int .i64 ((r_Table).length : Int)) ∧ f853 13 = Value.int .i64 (((r_Table).length : Nat) : Int) ∧ InR .i64 (((r_Table).length : Nat) : Int) ∧ St wd12 wd854 [] := hI856
      obtain ⟨hf858, hf859, hf860, hf861, hr862, hS863⟩ := hI856
      refine W.seq (W.region ?_)
      refine WL.val (Value.bool (decide ((((r_Table).length : Nat) : Int) < ((r_Table).length : Int)))) _ (op_lss hf861 hf860) rfl ?_
      have hl864 : ¬ (((r_Table).length : Nat) : Int) < ((r_Table).length : Int) := by omega
      refine WL.nil ?_
      refine W.seq ?_
      refine W.condF (decide ((((r_Table).length : Nat) : Int) < ((r_Table).length : Int))) rfl (decide_eq_false hl864) ?_
      refine W.exit ?_
      show _ = _ ∧ _
      exact ⟨rfl, _, hs855, hS863⟩
  · rintro f865 wd866 ⟨s868, rfl, hq867⟩
    replace h := onRes_fin h
    obtain ⟨⟩ := s868
    replace hq867 : St wd12 wd866 [] := hq867
    have hS869 := hq867
    refine W.seq (W.region ?_)
    refine WL.val (Value.slice none 0 0) _ (op_assign rfl) rfl ?_
    refine WL.nil ?_
    refine W.ret ?_
    obtain rfl := Option.some.inj h
    show FinP _ _ _ _ _ _ _
    exact FinP.ret _ (res1 rfl rfl) ⟨(Value.slice none 0 0), rfl, (fun _ => ⟨0, 0, rfl⟩), (Ext.trans hE17 hS869.ext), (St.out (St.pick (St.addNil (Ty.i .i64) hS869) [0] rfl) (hE17))⟩

theorem c_impl_Ring_bracketFault {w : World} {r_Table : (List (List (List Int)))} {v_r_Table : Value} (r_r_Table : (Ty.sl (Ty.sl (Ty.sl (Ty.i .i64)))).rep w v_r_Table r_Table) {res : (List Int)} (h : p_impl_Ring_bracketFault r_Table  = some res) :
    Ret Tryd.prog 84 #[(Value.agg #[v_r_Table])] w (fun v w' => ∃ (u0 : Value), v = u0 ∧ NilIff u0 res ∧ Ext w w' ∧ Sep w.heap.size w' [(Ty.sl (Ty.i .i64)).at u0 res]) := by
  unfold p_impl_Ring_bracketFault at h
  have hS0 : St w w [] := St.start w
  refine Ret.start (fn := Tryd.f84) Tryd.func84 rfl 97 rfl rfl ?_
  refine W.seq (W.region ?_)
  refine WL.box hS0 rfl (cs := [v_r_Table]) rfl rfl ?_
  intro b1 wd2 hS3 he4 hx5
  replace hS3 : St w wd2 [bx b1 [v_r_Table]] := hS3
  have hx6 := St.boxAt hS3 0 rfl
  have hE7 : Ext w wd2 := hS3.ext
  have hS8 : St wd2 wd2 [] := St.start wd2
  refine WL.val (Value.slice none 0 0) _ (op_assign rfl) rfl ?_
  refine WL.nil ?_
  refine W.seq (W.seq (W.region ?_))
  refine WL.val (Value.pointer (some ⟨b1, 0, none⟩)) _ (op_fieldAddr fd_26_0 rfl) rfl ?_
  refine WL.val v_r_Table _ (op_load one_22 rfl (BoxAt.cell (BoxAt.lift hS8.ext hx6) rfl)) rfl ?_
  have hr9 := inR_len (Ty.lift _ (Ext.trans hE7 hS8.ext) r_r_Table)
  refine WL.val (Value.int .i64 ((r_Table).length : Int)) _ (op_lenL sl_22 (Ty.lift _ (Ext.trans hE7 hS8.ext) r_r_Table) rfl) rfl ?_
  refine WL.val (Value.int .i64 (0 : Int)) _ (op_move rfl) rfl ?_
  refine WL.nil ?_
  show W _ _ _ _ _ _
  obtain ⟨res10, hres11, h⟩ := bs h
  refine W.blockLoop (fun fq wq => ∃ s, res10 = Res.fin s ∧ St wd2 wq []) ?_ ?_
  · refine W.forN (fun k (s : Unit) fq wq => fq 1 = (Value.pointer (some ⟨b1, 0, none⟩)) ∧ fq 13 = v_r_Table ∧ fq 14 = (Value.int .i64 ((r_Table).length : Int)) ∧ fq 15 = Value.int .i64 (k : Int) ∧ InR .i64 (k : Int) ∧ St wd2 wq []) hres11 ⟨rfl, rfl, rfl, rfl, (inL rfl), hS8⟩ ?_ ?_
    · intro k12 s850 ct13 f14 wd15 hk16 hb17 hI18 hbrk19 hret20
      obtain ⟨⟩ := s850
      replace hI18 : f14 1 = (Value.pointer (some ⟨b1, 0, none⟩)) ∧ f14 13 = v_r_Table ∧ f14 14 = (Value.int .i64 ((r_Table).length : Int)) ∧ f14 15 = Value.int .i64 (k12 : Int) ∧ InR .i64 (k12 : Int) ∧ St wd2 wd15 [] := hI18
      replace hb17 : p_impl_Ring_bracketFault_L1 r_Table k12  = some ct13 := hb17
      unfold p_impl_Ring_bracketFault_L1 at hb17
      obtain ⟨hf21, hf22, hf23, hf24, hr25, hS26⟩ := hI18
      refine W.seq (W.region ?_)
      refine WL.val (Value.bool (decide ((k12 : Int) < ((r_Table).length : Int)))) _ (op_lss hf24 hf23) rfl ?_
      have hl27 : (k12 : Int) < ((r_Table).length : Int) := by omega
      refine WL.nil ?_
      refine W.seq ?_
      refine W.condT (decide ((k12 : Int) < ((r_Table).length : Int))) rfl (decide_eq_true hl27) ?_
      refine W.skip ?_
      refine W.seq ?_
      refine W.block ?_
      refine W.seq (W.region ?_)
      refine WL.val (Value.int .i64 (k12 : Int)) _ (op_move hf24) rfl ?_
      obtain ⟨x29, hx32, hb17⟩ := bs hb17
      obtain ⟨ha30, hb31, hx32⟩ := idx_some hx32
      refine WL.val (Value.pointer (some (elA v_r_Table ((k12 : Int)).toNat))) _ (op_idx sl_22 (Ty.lift _ (Ext.trans hE7 hS26.ext) r_r_Table) hf22 hf24 ha30 hb31) rfl ?_
      obtain ⟨u33, hc34, hr35⟩ := repSl.el r_r_Table hx32
      refine WL.val u33 _ (op_load one_41 rfl (Ext.cell (Ext.trans hE7 hS26.ext) hc34)) rfl ?_
      refine WL.val (Value.int .i64 (k12 : Int)) _ (op_assign rfl) rfl ?_
      refine WL.val u33 _ (op_assign rfl) rfl ?_
      refine WL.nil ?_
      refine W.seq (W.region ?_)
      refine WL.val (Value.pointer (some ⟨b1, 0, none⟩)) _ (op_fieldAddr fd_26_0 hf21) rfl ?_
      refine WL.val v_r_Table _ (op_load one_22 rfl (BoxAt.cell (BoxAt.lift hS26.ext hx6) rfl)) rfl ?_
      have hr36 := inR_len (Ty.lift _ (Ext.trans hE7 hS26.ext) r_r_Table)
      refine WL.val (Value.int .i64 ((r_Table).length : Int)) _ (op_lenL sl_22 (Ty.lift _ (Ext.trans hE7 hS26.ext) r_r_Table) rfl) rfl ?_
      refine WL.val (Value.int .i64 (0 : Int)) _ (op_move rfl) rfl ?_
      refine WL.nil ?_
      show W _ _ _ _ _ _
      obtain ⟨res37, hres38, hb17⟩ := bs hb17
      refine W.blockLoop (fun fq wq => ∃ s, res37 = Res.fin s ∧ fq 1 = (Value.pointer (some ⟨b1, 0, none⟩)) ∧ fq 13 = v_r_Table ∧ fq 14 = (Value.int .i64 ((r_Table).length : Int)) ∧ fq 15 = (Value.int .i64 (k12 : Int)) ∧ St wd2 wq []) ?_ ?_
      · refine W.forN (fun k (s : Unit) fq wq => fq 1 = (Value.pointer (some ⟨b1, 0, none⟩)) ∧ fq 3 = (Value.int .i64 (k12 : Int)) ∧ fq 4 = u33 ∧ fq 13 = v_r_Table ∧ fq 14 = (Value.int .i64 ((r_Table).length : Int)) ∧ fq 15 = (Value.int .i64 (k12 : Int)) ∧ fq 21 = v_r_Table ∧ fq 22 = (Value.int .i64 ((r_Table).length : Int)) ∧ fq 23 = Value.int .i64 (k : Int) ∧ InR .i64 (k : Int) ∧ St wd2 wq []) hres38 ⟨hf21, rfl, rfl, hf22, hf23, hf24, rfl, rfl, rfl, (inL rfl), hS26⟩ ?_ ?_
        · intro k39 s822 ct40 f41 wd42 hk43 hb44 hI45 hbrk46 hret47
          obtain ⟨⟩ := s822
          replace hI45 : f41 1 = (Value.pointer (some ⟨b1, 0, none⟩)) ∧ f41 3 = (Value.int .i64 (k12 : Int)) ∧ f41 4 = u33 ∧ f41 13 = v_r_Table ∧ f41 14 = (Value.int .i64 ((r_Table).length : Int)) ∧ f41 15 = (Value.int .i64 (k12 : Int)) ∧ f41 21 = v_r_Table ∧ f41 22 = (Value.int .i64 ((r_Table).length : Int)) ∧ f41 23 = Value.int .i64 (k39 : Int) ∧ InR .i64 (k39 : Int) ∧ St wd2 wd42 [] := hI45
          replace hb44 : p_impl_Ring_bracketFault_L2 r_Table x29 k12 k39  = some ct40 := hb44
          unfold p_impl_Ring_bracketFault_L2 at hb44
          obtain ⟨hf48, hf49, hf50, hf51, hf52, hf53, hf54, hf55, hf56, hr57, hS58⟩ := hI45
          refine W.seq (W.region ?_)
          refine WL.val (Value.bool (decide ((k39 : Int) < ((r_Table).length : Int)))) _ (op_lss hf56 hf55) rfl ?_
          have hl59 : (k39 : Int) < ((r_Table).length : Int) := by omega
          refine WL.nil ?_
          refine W.seq ?_
          refine W.condT (decide ((k39 : Int) < ((r_Table).length : Int))) rfl (decide_eq_true hl59) ?_
          refine W.skip ?_
          refine W.seq ?_
          refine W.block ?_
          refine W.seq (W.region ?_)
          refine WL.val (Value.int .i64 (k39 : Int)) _ (op_move hf56) rfl ?_
          obtain ⟨x61, hx64, hb44⟩ := bs hb44
          obtain ⟨ha62, hb63, hx64⟩ := idx_some hx64
          refine WL.val (Value.pointer (some (elA v_r_Table ((k39 : Int)).toNat))) _ (op_idx sl_22 (Ty.lift _ (Ext.trans hE7 hS58.ext) r_r_Table) hf54 hf56 ha62 hb63) rfl ?_
          obtain ⟨u65, hc66, hr67⟩ := repSl.el r_r_Table hx64
          refine WL.val u65 _ (op_load one_41 rfl (Ext.cell (Ext.trans hE7 hS58.ext) hc66)) rfl ?_
          refine WL.val (Value.int .i64 (k39 : Int)) _ (op_assign rfl) rfl ?_
          refine WL.val u65 _ (op_assign rfl) rfl ?_
          refine WL.nil ?_
          refine W.seq (W.region ?_)
          refine WL.val (Value.pointer (some ⟨b1, 0, none⟩)) _ (op_fieldAddr fd_26_0 hf48) rfl ?_
          refine WL.val v_r_Table _ (op_load one_22 rfl (BoxAt.cell (BoxAt.lift hS58.ext hx6) rfl)) rfl ?_
          have hr68 := inR_len (Ty.lift _ (Ext.trans hE7 hS58.ext) r_r_Table)
          refine WL.val (Value.int .i64 ((r_Table).length : Int)) _ (op_lenL sl_22 (Ty.lift _ (Ext.trans hE7 hS58.ext) r_r_Table) rfl) rfl ?_
          refine WL.val (Value.int .i64 (0 : Int)) _ (op_move rfl) rfl ?_
          refine WL.nil ?_
          show W _ _ _ _ _ _
          obtain ⟨res69, hres70, hb44⟩ := bs hb44
          refine W.blockLoop (fun fq wq => ∃ s, res69 = Res.fin s ∧ fq 1 = (Value.pointer (some ⟨b1, 0, none⟩)) ∧ fq 3 = (Value.int .i64 (k12 : Int)) ∧ fq 4 = u33 ∧ fq 13 = v_r_Table ∧ fq 14 = (Value.int .i64 ((r_Table).length : Int)) ∧ fq 15 = (Value.int .i64 (k12 : Int)) ∧ fq 21 = v_r_Table ∧ fq 22 = (Value.int .i64 ((r_Table).length : Int)) ∧ fq 23 = (Value.int .i64 (k39 : Int)) ∧ St wd2 wq []) ?_ ?_
          · refine W.forN (fun k (s : Unit) fq wq => fq 1 = (Value.pointer (some ⟨b1, 0, none⟩)) ∧ fq 3 = (Value.int .i64 (k12 : Int)) ∧ fq 4 = u33 ∧ fq 5 = (Value.int .i64 (k39 : Int)) ∧ fq 6 = u65 ∧ fq 13 = v_r_Table ∧ fq 14 = (Value.int .i64 ((r_Table).length : Int)) ∧ fq 15 = (Value.int .i64 (k12 : Int)) ∧ fq 21 = v_r_Table ∧ fq 22 = (Value.int .i64 ((r_Table).length : Int)) ∧ fq 23 = (Value.int .i64 (k39 : Int)) ∧ fq 30 = (Value.int .i64 ((r_Table).length : Int)) ∧ fq 31 = Value.int .i64 (k : Int) ∧ InR .i64 (k : Int) ∧ St wd2 wq []) hres70 ⟨hf48, hf49, hf50, rfl, rfl, hf51, hf52, hf53, hf54, hf55, hf56, rfl, rfl, (inL rfl), hS58⟩ ?_ ?_
            · intro k71 s785 ct72 f73 wd74 hk75 hb76 hI77 hbrk78 hret79
              obtain ⟨⟩ := s785
              replace hI77 : f73 1 = (Value.pointer (some ⟨b1, 0, none⟩)) ∧ f73 3 = (Value.int .i64 (k12 : Int)) ∧ f73 4 = u33 ∧ f73 5 = (Value.int .i64 (k39 : Int)) ∧ f73 6 = u65 ∧ f73 13 = v_r_Table ∧ f73 14 = (Value.int .i64 ((r_Table).length : Int)) ∧ f73 15 = (Value.int .i64 (k12 : Int)) ∧ f73 21 = v_r_Table ∧ f73 22 = (Value.int .i64 ((r_Table).length : Int)) ∧ f73 23 = (Value.int .i64 (k39 : Int)) ∧ f73 30 = (Value.int .i64 ((r_Table).length : Int)) ∧ f73 31 = Value.int .i64 (k71 : Int) ∧ InR .i64 (k71 : Int) ∧ St wd2 wd74 [] := hI77
              replace hb76 : p_impl_Ring_bracketFault_L3 x29 k39 r_Table x61 k12 k71  = some ct72 := hb76
              unfold p_impl_Ring_bracketFault_L3 at hb76
              obtain ⟨hf80, hf81, hf82, hf83, hf84, hf85, hf86, hf87, hf88, hf89, hf90, hf91, hf92, hr93, hS94⟩ := hI77
              refine W.seq (W.region ?_)
              refine WL.val (Value.bool (decide ((k71 : Int) < ((r_Table).length : Int)))) _ (op_lss hf92 hf91) rfl ?_
              have hl95 : (k71 : Int) < ((r_Table).length : Int) := by omega
              refine WL.nil ?_
              refine W.seq ?_
              refine W.condT (decide ((k71 : Int) < ((r_Table).length : Int))) rfl (decide_eq_true hl95) ?_
              refine W.skip ?_
              refine W.seq ?_
              refine W.block ?_
              refine W.seq (W.region ?_)
              refine WL.val (Value.int .i64 (k71 : Int)) _ (op_move hf92) rfl ?_
              refine WL.val (Value.int .i64 (k71 : Int)) _ (op_assign rfl) rfl ?_
              refine WL.nil ?_
              refine W.seq (W.region ?_)
              refine WL.val (Value.pointer (some ⟨b1, 0, none⟩)) _ (op_fieldAddr fd_26_0 hf80) rfl ?_
              refine WL.val v_r_Table _ (op_load one_22 rfl (BoxAt.cell (BoxAt.lift hS94.ext hx6) rfl)) rfl ?_
              have hr97 := inR_len (Ty.lift _ (Ext.trans hE7 hS94.ext) r_r_Table)
              refine WL.val (Value.int .i64 ((r_Table).length : Int)) _ (op_lenL sl_22 (Ty.lift _ (Ext.trans hE7 hS94.ext) r_r_Table) rfl) rfl ?_
              refine WL.val (Value.int .i64 (0 : Int)) _ (op_move rfl) rfl ?_
              refine WL.nil ?_
              show W _ _ _ _ _ _
              obtain ⟨res98, hres99, hb76⟩ := bs hb76
              refine W.blockLoop (fun fq wq => ∃ s, res98 = Res.fin s ∧ fq 1 = (Value.pointer (some ⟨b1, 0, none⟩)) ∧ fq 3 = (Value.int .i64 (k12 : Int)) ∧ fq 4 = u33 ∧ fq 5 = (Value.int .i64 (k39 : Int)) ∧ fq 6 = u65 ∧ fq 13 = v_r_Table ∧ fq 14 = (Value.int .i64 ((r_Table).length : Int)) ∧ fq 15 = (Value.int .i64 (k12 : Int)) ∧ fq 21 = v_r_Table ∧ fq 22 = (Value.int .i64 ((r_Table).length : Int)) ∧ fq 23 = (Value.int .i64 (k39 : Int)) ∧ fq 30 = (Value.int .i64 ((r_Table).length : Int)) ∧ fq 31 = (Value.int .i64 (k71 : Int)) ∧ St wd2 wq []) ?_ ?_
              · refine W.forN (fun k (s : Unit) fq wq => fq 1 = (Value.pointer (some ⟨b1, 0, none⟩)) ∧ fq 3 = (Value.int .i64 (k12 : Int)) ∧ fq 4 = u33 ∧ fq 5 = (Value.int .i64 (k39 : Int)) ∧ fq 6 = u65 ∧ fq 7 = (Value.int .i64 (k71 : Int)) ∧ fq 13 = v_r_Table ∧ fq 14 = (Value.int .i64 ((r_Table).length : Int)) ∧ fq 15 = (Value.int .i64 (k12 : Int)) ∧ fq 21 = v_r_Table ∧ fq 22 = (Value.int .i64 ((r_Table).length : Int)) ∧ fq 23 = (Value.int .i64 (k39 : Int)) ∧ fq 30 = (Value.int .i64 ((r_Table).length : Int)) ∧ fq 31 = (Value.int .i64 (k71 : Int)) ∧ fq 36 = (Value.int .i64 ((r_Table).length : Int)) ∧ fq 37 = Value.int .i64 (k : Int) ∧ InR .i64 (k : Int) ∧ St wd2 wq []) hres99 ⟨hf80, hf81, hf82, hf83, hf84, rfl, hf85, hf86, hf87, hf88, hf89, hf90, hf91, hf92, rfl, rfl, (inL rfl), hS94⟩ ?_ ?_
                · intro k100 s741 ct101 f102 wd103 hk104 hb105 hI106 hbrk107 hret108
                  obtain ⟨⟩ := s741
                  replace hI106 : f102 1 = (Value.pointer (some ⟨b1, 0, none⟩)) ∧ f102 3 = (Value.int .i64 (k12 : Int)) ∧ f102 4 = u33 ∧ f102 5 = (Value.int .i64 (k39 : Int)) ∧ f102 6 = u65 ∧ f102 7 = (Value.int .i64 (k71 : Int)) ∧ f102 13 = v_r_Table ∧ f102 14 = (Value.int .i64 ((r_Table).length : Int)) ∧ f102 15 = (Value.int .i64 (k12 : Int)) ∧ f102 21 = v_r_Table ∧ f102 22 = (Value.int .i64 ((r_Table).length : Int)) ∧ f102 23 = (Value.int .i64 (k39 : Int)) ∧ f102 30 = (Value.int .i64 ((r_Table).length : Int)) ∧ f102 31 = (Value.int .i64 (k71 : Int)) ∧ f102 36 = (Value.int .i64 ((r_Table).length : Int)) ∧ f102 37 = Value.int .i64 (k100 : Int) ∧ InR .i64 (k100 : Int) ∧ St wd2 wd103 [] := hI106
                  replace hb105 : p_impl_Ring_bracketFault_L4 x29 k39 r_Table k71 x61 k12 k100  = some ct101 := hb105
                  unfold p_impl_Ring_bracketFault_L4 at hb105
                  obtain ⟨hf109, hf110, hf111, hf112, hf113, hf114, hf115, hf116, hf117, hf118, hf119, hf120, hf121, hf122, hf123, hf124, hr125, hS126⟩ := hI106
                  refine W.seq (W.region ?_)
                  refine WL.val (Value.bool (decide ((k100 : Int) < ((r_Table).length : Int)))) _ (op_lss hf124 hf123) rfl ?_
                  have hl127 : (k100 : Int) < ((r_Table).length : Int) := by omega
                  refine WL.nil ?_
                  refine W.seq ?_
                  refine W.condT (decide ((k100 : Int) < ((r_Table).length : Int))) rfl (decide_eq_true hl127) ?_
                  refine W.skip ?_
                  refine W.seq ?_
                  refine W.block ?_
                  refine W.seq (W.region ?_)
                  refine WL.val (Value.int .i64 (k100 : Int)) _ (op_move hf124) rfl ?_
                  refine WL.val (Value.int .i64 (k100 : Int)) _ (op_assign rfl) rfl ?_
                  refine WL.nil ?_
                  refine W.seq (W.region ?_)
                  refine WL.val (Value.int .i64 (0 : Int)) _ (op_assign rfl) rfl ?_
                  refine WL.val (Value.int .i64 (0 : Int)) _ (op_assign rfl) rfl ?_
                  refine WL.nil ?_
                  refine W.seq (W.seq (W.region ?_))
                  refine WL.val (Value.pointer (some ⟨b1, 0, none⟩)) _ (op_fieldAddr fd_26_0 hf109) rfl ?_
                  refine WL.val v_r_Table _ (op_load one_22 rfl (BoxAt.cell (BoxAt.lift hS126.ext hx6) rfl)) rfl ?_
                  have hr129 := inR_len (Ty.lift _ (Ext.trans hE7 hS126.ext) r_r_Table)
                  refine WL.val (Value.int .i64 ((r_Table).length : Int)) _ (op_lenL sl_22 (Ty.lift _ (Ext.trans hE7 hS126.ext) r_r_Table) rfl) rfl ?_
                  refine WL.val (Value.int .i64 (0 : Int)) _ (op_move rfl) rfl ?_
                  refine WL.nil ?_
                  show W _ _ _ _ _ _
                  obtain ⟨res130, hres131, hb105⟩ := bs hb105
                  refine W.blockLoop (fun fq wq => ∃ s, res130 = Res.fin s ∧ fq 1 = (Value.pointer (some ⟨b1, 0, none⟩)) ∧ fq 3 = (Value.int .i64 (k12 : Int)) ∧ fq 4 = u33 ∧ fq 5 = (Value.int .i64 (k39 : Int)) ∧ fq 6 = u65 ∧ fq 7 = (Value.int .i64 (k71 : Int)) ∧ fq 8 = (Value.int .i64 (k100 : Int)) ∧ fq 9 = Value.int .i64 s.1 ∧ InR .i64 s.1 ∧ fq 10 = Value.int .i64 s.2 ∧ InR .i64 s.2 ∧ fq 13 = v_r_Table ∧ fq 14 = (Value.int .i64 ((r_Table).length : Int)) ∧ fq 15 = (Value.int .i64 (k12 : Int)) ∧ fq 21 = v_r_Table ∧ fq 22 = (Value.int .i64 ((r_Table).length : Int)) ∧ fq 23 = (Value.int .i64 (k39 : Int)) ∧ fq 30 = (Value.int .i64 ((r_Table).length : Int)) ∧ fq 31 = (Value.int .i64 (k71 : Int)) ∧ fq 36 = (Value.int .i64 ((r_Table).length : Int)) ∧ fq 37 = (Value.int .i64 (k100 : Int)) ∧ St wd2 wq []) ?_ ?_
                  · refine W.forN (fun k (s : Int × Int) fq wq => fq 1 = (Value.pointer (some ⟨b1, 0, none⟩)) ∧ fq 3 = (Value.int .i64 (k12 : Int)) ∧ fq 4 = u33 ∧ fq 5 = (Value.int .i64 (k39 : Int)) ∧ fq 6 = u65 ∧ fq 7 = (Value.int .i64 (k71 : Int)) ∧ fq 8 = (Value.int .i64 (k100 : Int)) ∧ fq 9 = Value.int .i64 s.1 ∧ InR .i64 s.1 ∧ fq 10 = Value.int .i64 s.2 ∧ InR .i64 s.2 ∧ fq 13 = v_r_Table ∧ fq 14 = (Value.int .i64 ((r_Table).length : Int)) ∧ fq 15 = (Value.int .i64 (k12 : Int)) ∧ fq 21 = v_r_Table ∧ fq 22 = (Value.int .i64 ((r_Table).length : Int)) ∧ fq 23 = (Value.int .i64 (k39 : Int)) ∧ fq 30 = (Value.int .i64 ((r_Table).length : Int)) ∧ fq 31 = (Value.int .i64 (k71 : Int)) ∧ fq 36 = (Value.int .i64 ((r_Table).length : Int)) ∧ fq 37 = (Value.int .i64 (k100 : Int)) ∧ fq 42 = (Value.int .i64 ((r_Table).length : Int)) ∧ fq 43 = Value.int .i64 (k : Int) ∧ InR .i64 (k : Int) ∧ St wd2 wq []) hres131 ⟨hf109, hf110, hf111, hf112, hf113, hf114, rfl, rfl, (inL rfl), rfl, (inL rfl), hf115, hf116, hf117, hf118, hf119, hf120, hf121, hf122, hf123, hf124, rfl, rfl, (inL rfl), hS126⟩ ?_ ?_
                    · intro k132 s672 ct135 f136 wd137 hk138 hb139 hI140 hbrk141 hret142
                      obtain ⟨x133, x134⟩ := s672
                      replace hI140 : f136 1 = (Value.pointer (some ⟨b1, 0, none⟩)) ∧ f136 3 = (Value.int .i64 (k12 : Int)) ∧ f136 4 = u33 ∧ f136 5 = (Value.int .i64 (k39 : Int)) ∧ f136 6 = u65 ∧ f136 7 = (Value.int .i64 (k71 : Int)) ∧ f136 8 = (Value.int .i64 (k100 : Int)) ∧ f136 9 = Value.int .i64 x133 ∧ InR .i64 x133 ∧ f136 10 = Value.int .i64 x134 ∧ InR .i64 x134 ∧ f136 13 = v_r_Table ∧ f136 14 = (Value.int .i64 ((r_Table).length : Int)) ∧ f136 15 = (Value.int .i64 (k12 : Int)) ∧ f136 21 = v_r_Table ∧ f136 22 = (Value.int .i64 ((r_Table).length : Int)) ∧ f136 23 = (Value.int .i64 (k39 : Int)) ∧ f136 30 = (Value.int .i64 ((r_Table).length : Int)) ∧ f136 31 = (Value.int .i64 (k71 : Int)) ∧ f136 36 = (Value.int .i64 ((r_Table).length : Int)) ∧ f136 37 = (Value.int .i64 (k100 : Int)) ∧ f136 42 = (Value.int .i64 ((r_Table).length : Int)) ∧ f136 43 = Value.int .i64 (k132 : Int) ∧ InR .i64 (k132 : Int) ∧ St wd2 wd137 [] := hI140
                      replace hb139 : p_impl_Ring_bracketFault_L5 x29 k39 r_Table k71 k100 x61 k132 x133 x134 = some ct135 := hb139
                      unfold p_impl_Ring_bracketFault_L5 at hb139
                      obtain ⟨hf143, hf144, hf145, hf146, hf147, hf148, hf149, hf150, hr151, hf152, hr153, hf154, hf155, hf156, hf157, hf158, hf159, hf160, hf161, hf162, hf163, hf164, hf165, hr166, hS167⟩ := hI140
                      refine W.seq (W.region ?_)
                      refine WL.val (Value.bool (decide ((k132 : Int) < ((r_Table).length : Int)))) _ (op_lss hf165 hf164) rfl ?_
                      have hl168 : (k132 : Int) < ((r_Table).length : Int) := by omega
                      refine WL.nil ?_
                      refine W.seq ?_
                      refine W.condT (decide ((k132 : Int) < ((r_Table).length : Int))) rfl (decide_eq_true hl168) ?_
                      refine W.skip ?_
                      refine W.seq ?_
                      refine W.block ?_
                      refine W.seq (W.region ?_)
                      refine WL.val (Value.int .i64 (k132 : Int)) _ (op_move hf165) rfl ?_
                      refine WL.val (Value.int .i64 (k132 : Int)) _ (op_assign rfl) rfl ?_
                      refine WL.nil ?_
                      refine W.seq ?_
                      obtain ⟨x206, hx209, hb139⟩ := bs hb139
                      obtain ⟨ha207, hb208, hx209⟩ := idx_some hx209
                      obtain ⟨u220, hc221, hr222⟩ := repSl.el hr35 hx209
                      obtain ⟨x245, hx248, hb139⟩ := bs hb139
                      obtain ⟨ha246, hb247, hx248⟩ := idx_some hx248
                      obtain ⟨u259, hc260, hr261⟩ := repSl.el hr222 hx248
                      obtain ⟨rfl, hr261⟩ := hr261
                      obtain ⟨x301, hx304, hb139⟩ := bs hb139
                      obtain ⟨ha302, hb303, hx304⟩ := idx_some hx304
                      obtain ⟨u315, hc316, hr317⟩ := repSl.el r_r_Table hx304
                      obtain ⟨x340, hx343, hb139⟩ := bs hb139
                      obtain ⟨ha341, hb342, hx343⟩ := idx_some hx343
                      obtain ⟨u354, hc355, hr356⟩ := repSl.el hr317 hx343
                      obtain ⟨x379, hx382, hb139⟩ := bs hb139
                      obtain ⟨ha380, hb381, hx382⟩ := idx_some hx382
                      obtain ⟨u393, hc394, hr395⟩ := repSl.el hr356 hx382
                      obtain ⟨rfl, hr395⟩ := hr395
                      refine W.drawR mixo 20 [] [fun _ v _ _ => v = (Value.int .i64 x133) ∧ InR .i64 x133, fun _ v _ _ => v = u33, fun _ v _ _ => v = (Value.int .i64 (k39 : Int)) ∧ InR .i64 (k39 : Int), fun _ v _ _ => v = (Value.pointer (some (elA u33 ((k39 : Int)).toNat))), fun _ v _ _ => v = u220, fun _ v _ _ => v = (Value.int .i64 (k132 : Int)) ∧ InR .i64 (k132 : Int), fun _ v _ _ => v = (Value.pointer (some (elA u220 ((k132 : Int)).toNat))), fun _ v _ _ => v = (Value.int .i64 x245) ∧ InR .i64 x245, fun _ v _ _ => v = (Value.pointer (some ⟨b1, 0, none⟩)), fun _ v _ _ => v = v_r_Table, fun _ v _ _ => v = (Value.int .i64 (k132 : Int)) ∧ InR .i64 (k132 : Int), fun _ v _ _ => v = (Value.pointer (some (elA v_r_Table ((k132 : Int)).toNat))), fun _ v _ _ => v = u315, fun _ v _ _ => v = (Value.int .i64 (k71 : Int)) ∧ InR .i64 (k71 : Int), fun _ v _ _ => v = (Value.pointer (some (elA u315 ((k71 : Int)).toNat))), fun _ v _ _ => v = u354, fun _ v _ _ => v = (Value.int .i64 (k100 : Int)) ∧ InR .i64 (k100 : Int), fun _ v _ _ => v = (Value.pointer (some (elA u354 ((k100 : Int)).toNat))), fun _ v _ _ => v = (Value.int .i64 x379) ∧ InR .i64 x379, fun _ v _ _ => v = (Value.int .i64 (w64 (x245 * x379))) ∧ InR .i64 (w64 (x245 * x379))] (by kernel_rfl) (by kernel_rfl) ⟨pk, pk, pk, pk, pk, pk, pk, pk, pk, pk, pk, pk, pk, pk, pk, pk, pk, pk, pk, pk, trivial⟩ ⟨?_, ?_, ?_, ?_, ?_, ?_, ?_, ?_, ?_, ?_, ?_, ?_, ?_, ?_, ?_, ?_, ?_, ?_, ?_, ?_, trivial⟩ ?_
                      · refine ObX.op rfl fun f170 wd171 he172 hout173 hphi174 => ?_
                        have e176 : f170 9 = (Value.int .i64 x133) := (hout173 9 rfl).trans hf150
                        exact OpX.val (Value.int .i64 x133) wd171 rfl (op_move e176) (Ext.refl _) ⟨rfl, hr151⟩
                      · refine ObX.op rfl fun f177 wd178 he179 hout180 hphi181 => ?_
                        have e183 : f177 4 = u33 := (hout180 4 rfl).trans hf145
                        exact OpX.val u33 wd178 rfl (op_move e183) (Ext.refl _) rfl
                      · refine ObX.op rfl fun f184 wd185 he186 hout187 hphi188 => ?_
                        have e190 : f184 5 = (Value.int .i64 (k39 : Int)) := (hout187 5 rfl).trans hf146
                        exact OpX.val (Value.int .i64 (k39 : Int)) wd185 rfl (op_move e190) (Ext.refl _) ⟨rfl, hr57⟩
                      · refine ObX.op rfl fun f191 wd192 he193 hout194 hphi195 => ?_
                        have hS196 := St.extend hS167 he193
                        obtain ⟨S197, hS198, hf199⟩ := hphi195 1 47 _ rfl rfl rfl
                        have e200 : f191 47 = u33 := hf199
                        obtain ⟨S201, hS202, hf203⟩ := hphi195 2 48 _ rfl rfl rfl
                        obtain ⟨e204, hr205⟩ := hf203
                        exact OpX.val (Value.pointer (some (elA u33 ((k39 : Int)).toNat))) wd192 rfl (op_idx sl_41 (Ty.lift _ (Ext.trans hE7 hS196.ext) hr35) e200 e204 ha207 hb208) (Ext.refl _) rfl
                      · refine ObX.op rfl fun f210 wd211 he212 hout213 hphi214 => ?_
                        have hS215 := St.extend hS167 he212
                        obtain ⟨S216, hS217, hf218⟩ := hphi214 3 49 _ rfl rfl rfl
                        have e219 : f210 49 = (Value.pointer (some (elA u33 ((k39 : Int)).toNat))) := hf218
                        exact OpX.val u220 wd211 rfl (op_load one_33 e219 (Ext.cell (Ext.trans hE7 hS215.ext) hc221)) (Ext.refl _) rfl
                      · refine ObX.op rfl fun f223 wd224 he225 hout226 hphi227 => ?_
                        have e229 : f223 11 = (Value.int .i64 (k132 : Int)) := (hout226 11 rfl).trans rfl
                        exact OpX.val (Value.int .i64 (k132 : Int)) wd224 rfl (op_move e229) (Ext.refl _) ⟨rfl, hr166⟩
                      · refine ObX.op rfl fun f230 wd231 he232 hout233 hphi234 => ?_
                        have hS235 := St.extend hS167 he232
                        obtain ⟨S236, hS237, hf238⟩ := hphi234 4 50 _ rfl rfl rfl
                        have e239 : f230 50 = u220 := hf238
                        obtain ⟨S240, hS241, hf242⟩ := hphi234 5 51 _ rfl rfl rfl
                        obtain ⟨e243, hr244⟩ := hf242
                        exact OpX.val (Value.pointer (some (elA u220 ((k132 : Int)).toNat))) wd231 rfl (op_idx sl_33 (Ty.lift _ (Ext.trans hE7 hS235.ext) hr222) e239 e243 ha246 hb247) (Ext.refl _) rfl
                      · refine ObX.op rfl fun f249 wd250 he251 hout252 hphi253 => ?_
                        have hS254 := St.extend hS167 he251
                        obtain ⟨S255, hS256, hf257⟩ := hphi253 6 52 _ rfl rfl rfl
                        have e258 : f249 52 = (Value.pointer (some (elA u220 ((k132 : Int)).toNat))) := hf257
                        exact OpX.val (Value.int .i64 x245) wd250 rfl (op_load one_2 e258 (Ext.cell (Ext.trans hE7 hS254.ext) hc260)) (Ext.refl _) ⟨rfl, hr261⟩
                      · refine ObX.op rfl fun f262 wd263 he264 hout265 hphi266 => ?_
                        have e268 : f262 1 = (Value.pointer (some ⟨b1, 0, none⟩)) := (hout265 1 rfl).trans hf143
                        exact OpX.val (Value.pointer (some ⟨b1, 0, none⟩)) wd263 rfl (op_fieldAddr fd_26_0 e268) (Ext.refl _) rfl
                      · refine ObX.op rfl fun f269 wd270 he271 hout272 hphi273 => ?_
                        have hS274 := St.extend hS167 he271
                        obtain ⟨S275, hS276, hf277⟩ := hphi273 8 54 _ rfl rfl rfl
                        have e278 : f269 54 = (Value.pointer (some ⟨b1, 0, none⟩)) := hf277
                        exact OpX.val v_r_Table wd270 rfl (op_load one_22 e278 (BoxAt.cell (BoxAt.lift hS274.ext hx6) rfl)) (Ext.refl _) rfl
                      · refine ObX.op rfl fun f279 wd280 he281 hout282 hphi283 => ?_
                        have e285 : f279 11 = (Value.int .i64 (k132 : Int)) := (hout282 11 rfl).trans rfl
                        exact OpX.val (Value.int .i64 (k132 : Int)) wd280 rfl (op_move e285) (Ext.refl _) ⟨rfl, hr166⟩
                      · refine ObX.op rfl fun f286 wd287 he288 hout289 hphi290 => ?_
                        have hS291 := St.extend hS167 he288
                        obtain ⟨S292, hS293, hf294⟩ := hphi290 9 55 _ rfl rfl rfl
                        have e295 : f286 55 = v_r_Table := hf294
                        obtain ⟨S296, hS297, hf298⟩ := hphi290 10 56 _ rfl rfl rfl
                        obtain ⟨e299, hr300⟩ := hf298
                        exact OpX.val (Value.pointer (some (elA v_r_Table ((k132 : Int)).toNat))) wd287 rfl (op_idx sl_22 (Ty.lift _ (Ext.trans hE7 hS291.ext) r_r_Table) e295 e299 ha302 hb303) (Ext.refl _) rfl
                      · refine ObX.op rfl fun f305 wd306 he307 hout308 hphi309 => ?_
                        have hS310 := St.extend hS167 he307
                        obtain ⟨S311, hS312, hf313⟩ := hphi309 11 57 _ rfl rfl rfl
                        have e314 : f305 57 = (Value.pointer (some (elA v_r_Table ((k132 : Int)).toNat))) := hf313
                        exact OpX.val u315 wd306 rfl (op_load one_41 e314 (Ext.cell (Ext.trans hE7 hS310.ext) hc316)) (Ext.refl _) rfl
                      · refine ObX.op rfl fun f318 wd319 he320 hout321 hphi322 => ?_
                        have e324 : f318 7 = (Value.int .i64 (k71 : Int)) := (hout321 7 rfl).trans hf148
                        exact OpX.val (Value.int .i64 (k71 : Int)) wd319 rfl (op_move e324) (Ext.refl _) ⟨rfl, hr93⟩
                      · refine ObX.op rfl fun f325 wd326 he327 hout328 hphi329 => ?_
                        have hS330 := St.extend hS167 he327
                        obtain ⟨S331, hS332, hf333⟩ := hphi329 12 58 _ rfl rfl rfl
                        have e334 : f325 58 = u315 := hf333
                        obtain ⟨S335, hS336, hf337⟩ := hphi329 13 59 _ rfl rfl rfl
                        obtain ⟨e338, hr339⟩ := hf337
                        exact OpX.val (Value.pointer (some (elA u315 ((k71 : Int)).toNat))) wd326 rfl (op_idx sl_41 (Ty.lift _ (Ext.trans hE7 hS330.ext) hr317) e334 e338 ha341 hb342) (Ext.refl _) rfl
                      · refine ObX.op rfl fun f344 wd345 he346 hout347 hphi348 => ?_
                        have hS349 := St.extend hS167 he346
                        obtain ⟨S350, hS351, hf352⟩ := hphi348 14 60 _ rfl rfl rfl
                        have e353 : f344 60 = (Value.pointer (some (elA u315 ((k71 : Int)).toNat))) := hf352
                        exact OpX.val u354 wd345 rfl (op_load one_33 e353 (Ext.cell (Ext.trans hE7 hS349.ext) hc355)) (Ext.refl _) rfl
                      · refine ObX.op rfl fun f357 wd358 he359 hout360 hphi361 => ?_
                        have e363 : f357 8 = (Value.int .i64 (k100 : Int)) := (hout360 8 rfl).trans hf149
                        exact OpX.val (Value.int .i64 (k100 : Int)) wd358 rfl (op_move e363) (Ext.refl _) ⟨rfl, hr125⟩
                      · refine ObX.op rfl fun f364 wd365 he366 hout367 hphi368 => ?_
                        have hS369 := St.extend hS167 he366
                        obtain ⟨S370, hS371, hf372⟩ := hphi368 15 61 _ rfl rfl rfl
                        have e373 : f364 61 = u354 := hf372
                        obtain ⟨S374, hS375, hf376⟩ := hphi368 16 62 _ rfl rfl rfl
                        obtain ⟨e377, hr378⟩ := hf376
                        exact OpX.val (Value.pointer (some (elA u354 ((k100 : Int)).toNat))) wd365 rfl (op_idx sl_33 (Ty.lift _ (Ext.trans hE7 hS369.ext) hr356) e373 e377 ha380 hb381) (Ext.refl _) rfl
                      · refine ObX.op rfl fun f383 wd384 he385 hout386 hphi387 => ?_
                        have hS388 := St.extend hS167 he385
                        obtain ⟨S389, hS390, hf391⟩ := hphi387 17 63 _ rfl rfl rfl
                        have e392 : f383 63 = (Value.pointer (some (elA u354 ((k100 : Int)).toNat))) := hf391
                        exact OpX.val (Value.int .i64 x379) wd384 rfl (op_load one_2 e392 (Ext.cell (Ext.trans hE7 hS388.ext) hc394)) (Ext.refl _) ⟨rfl, hr395⟩
                      · refine ObX.op rfl fun f396 wd397 he398 hout399 hphi400 => ?_
                        obtain ⟨S402, hS403, hf404⟩ := hphi400 7 53 _ rfl rfl rfl
                        obtain ⟨e405, hr406⟩ := hf404
                        obtain ⟨S407, hS408, hf409⟩ := hphi400 18 64 _ rfl rfl rfl
                        obtain ⟨e410, hr411⟩ := hf409
                        exact OpX.val (Value.int .i64 (w64 (x245 * x379))) wd397 rfl (op_mul e405 e410) (Ext.refl _) ⟨rfl, (inR_wrap _ _)⟩
                      · intro f412 wd413 Ss414 he415 hout416 hSn417 hSd418 hphi419
                        show WL _ _ _ _ _ _ _
                        have hS420 := St.extend hS167 he415
                        obtain ⟨e421, hr422⟩ := hphi419 0 46 _ (by decide) rfl rfl
                        obtain ⟨e423, hr424⟩ := hphi419 19 65 _ (by decide) rfl rfl
                        have e425 : f412 1 = (Value.pointer (some ⟨b1, 0, none⟩)) := (hout416 1 rfl).trans hf143
                        have e426 : f412 3 = (Value.int .i64 (k12 : Int)) := (hout416 3 rfl).trans hf144
                        have e427 : f412 4 = u33 := (hout416 4 rfl).trans hf145
                        have e428 : f412 5 = (Value.int .i64 (k39 : Int)) := (hout416 5 rfl).trans hf146
                        have e429 : f412 6 = u65 := (hout416 6 rfl).trans hf147
                        have e430 : f412 7 = (Value.int .i64 (k71 : Int)) := (hout416 7 rfl).trans hf148
                        have e431 : f412 8 = (Value.int .i64 (k100 : Int)) := (hout416 8 rfl).trans hf149
                        have e432 : f412 10 = (Value.int .i64 x134) := (hout416 10 rfl).trans hf152
                        have e433 : f412 11 = (Value.int .i64 (k132 : Int)) := (hout416 11 rfl).trans rfl
                        have e434 : f412 13 = v_r_Table := (hout416 13 rfl).trans hf154
                        have e435 : f412 14 = (Value.int .i64 ((r_Table).length : Int)) := (hout416 14 rfl).trans hf155
                        have e436 : f412 15 = (Value.int .i64 (k12 : Int)) := (hout416 15 rfl).trans hf156
                        have e437 : f412 21 = v_r_Table := (hout416 21 rfl).trans hf157
                        have e438 : f412 22 = (Value.int .i64 ((r_Table).length : Int)) := (hout416 22 rfl).trans hf158
                        have e439 : f412 23 = (Value.int .i64 (k39 : Int)) := (hout416 23 rfl).trans hf159
                        have e440 : f412 30 = (Value.int .i64 ((r_Table).length : Int)) := (hout416 30 rfl).trans hf160
                        have e441 : f412 31 = (Value.int .i64 (k71 : Int)) := (hout416 31 rfl).trans hf161
                        have e442 : f412 36 = (Value.int .i64 ((r_Table).length : Int)) := (hout416 36 rfl).trans hf162
                        have e443 : f412 37 = (Value.int .i64 (k100 : Int)) := (hout416 37 rfl).trans hf163
                        have e444 : f412 42 = (Value.int .i64 ((r_Table).length : Int)) := (hout416 42 rfl).trans hf164
                        have e445 : f412 43 = (Value.int .i64 (k132 : Int)) := (hout416 43 rfl).trans hf165
                        refine WL.val (Value.int .i64 (w64 (x133 + (w64 (x245 * x379))))) _ (op_add e421 e423) rfl ?_
                        refine WL.val (Value.int .i64 (w64 (x133 + (w64 (x245 * x379))))) _ (op_assign rfl) rfl ?_
                        refine WL.nil ?_
                        show W _ _ _ _ _ _
                        obtain ⟨x482, hx485, hb139⟩ := bs hb139
                        obtain ⟨ha483, hb484, hx485⟩ := idx_some hx485
                        obtain ⟨u496, hc497, hr498⟩ := repSl.el hr67 hx485
                        obtain ⟨x521, hx524, hb139⟩ := bs hb139
                        obtain ⟨ha522, hb523, hx524⟩ := idx_some hx524
                        obtain ⟨u535, hc536, hr537⟩ := repSl.el hr498 hx524
                        obtain ⟨rfl, hr537⟩ := hr537
                        obtain ⟨x567, hx570, hb139⟩ := bs hb139
                        obtain ⟨ha568, hb569, hx570⟩ := idx_some hx570
                        obtain ⟨u581, hc582, hr583⟩ := repSl.el hr35 hx570
                        obtain ⟨x606, hx609, hb139⟩ := bs hb139
                        obtain ⟨ha607, hb608, hx609⟩ := idx_some hx609
                        obtain ⟨u620, hc621, hr622⟩ := repSl.el hr583 hx609
                        obtain ⟨rfl, hr622⟩ := hr622
                        refine W.drawR mixo 16 [] [fun _ v _ _ => v = (Value.int .i64 x134) ∧ InR .i64 x134, fun _ v _ _ => v = u65, fun _ v _ _ => v = (Value.int .i64 (k71 : Int)) ∧ InR .i64 (k71 : Int), fun _ v _ _ => v = (Value.pointer (some (elA u65 ((k71 : Int)).toNat))), fun _ v _ _ => v = u496, fun _ v _ _ => v = (Value.int .i64 (k132 : Int)) ∧ InR .i64 (k132 : Int), fun _ v _ _ => v = (Value.pointer (some (elA u496 ((k132 : Int)).toNat))), fun _ v _ _ => v = (Value.int .i64 x521) ∧ InR .i64 x521, fun _ v _ _ => v = u33, fun _ v _ _ => v = (Value.int .i64 (k132 : Int)) ∧ InR .i64 (k132 : Int), fun _ v _ _ => v = (Value.pointer (some (elA u33 ((k132 : Int)).toNat))), fun _ v _ _ => v = u581, fun _ v _ _ => v = (Value.int .i64 (k100 : Int)) ∧ InR .i64 (k100 : Int), fun _ v _ _ => v = (Value.pointer (some (elA u581 ((k100 : Int)).toNat))), fun _ v _ _ => v = (Value.int .i64 x606) ∧ InR .i64 x606, fun _ v _ _ => v = (Value.int .i64 (w64 (x521 * x606))) ∧ InR .i64 (w64 (x521 * x606))] (by kernel_rfl) (by kernel_rfl) ⟨pk, pk, pk, pk, pk, pk, pk, pk, pk, pk, pk, pk, pk, pk, pk, pk, trivial⟩ ⟨?_, ?_, ?_, ?_, ?_, ?_, ?_, ?_, ?_, ?_, ?_, ?_, ?_, ?_, ?_, ?_, trivial⟩ ?_
                        · refine ObX.op rfl fun f446 wd447 he448 hout449 hphi450 => ?_
                          have e452 : f446 10 = (Value.int .i64 x134) := (hout449 10 rfl).trans e432
                          exact OpX.val (Value.int .i64 x134) wd447 rfl (op_move e452) (Ext.refl _) ⟨rfl, hr153⟩
                        · refine ObX.op rfl fun f453 wd454 he455 hout456 hphi457 => ?_
                          have e459 : f453 6 = u65 := (hout456 6 rfl).trans e429
                          exact OpX.val u65 wd454 rfl (op_move e459) (Ext.refl _) rfl
                        · refine ObX.op rfl fun f460 wd461 he462 hout463 hphi464 => ?_
                          have e466 : f460 7 = (Value.int .i64 (k71 : Int)) := (hout463 7 rfl).trans e430
                          exact OpX.val (Value.int .i64 (k71 : Int)) wd461 rfl (op_move e466) (Ext.refl _) ⟨rfl, hr93⟩
                        · refine ObX.op rfl fun f467 wd468 he469 hout470 hphi471 => ?_
                          have hS472 := St.extend hS420 he469
                          obtain ⟨S473, hS474, hf475⟩ := hphi471 1 68 _ rfl rfl rfl
                          have e476 : f467 68 = u65 := hf475
                          obtain ⟨S477, hS478, hf479⟩ := hphi471 2 69 _ rfl rfl rfl
                          obtain ⟨e480, hr481⟩ := hf479
                          exact OpX.val (Value.pointer (some (elA u65 ((k71 : Int)).toNat))) wd468 rfl (op_idx sl_41 (Ty.lift _ (Ext.trans hE7 hS472.ext) hr67) e476 e480 ha483 hb484) (Ext.refl _) rfl
                        · refine ObX.op rfl fun f486 wd487 he488 hout489 hphi490 => ?_
                          have hS491 := St.extend hS420 he488
                          obtain ⟨S492, hS493, hf494⟩ := hphi490 3 70 _ rfl rfl rfl
                          have e495 : f486 70 = (Value.pointer (some (elA u65 ((k71 : Int)).toNat))) := hf494
                          exact OpX.val u496 wd487 rfl (op_load one_33 e495 (Ext.cell (Ext.trans hE7 hS491.ext) hc497)) (Ext.refl _) rfl
                        · refine ObX.op rfl fun f499 wd500 he501 hout502 hphi503 => ?_
                          have e505 : f499 11 = (Value.int .i64 (k132 : Int)) := (hout502 11 rfl).trans e433
                          exact OpX.val (Value.int .i64 (k132 : Int)) wd500 rfl (op_move e505) (Ext.refl _) ⟨rfl, hr166⟩
                        · refine ObX.op rfl fun f506 wd507 he508 hout509 hphi510 => ?_
                          have hS511 := St.extend hS420 he508
                          obtain ⟨S512, hS513, hf514⟩ := hphi510 4 71 _ rfl rfl rfl
                          have e515 : f506 71 = u496 := hf514
                          obtain ⟨S516, hS517, hf518⟩ := hphi510 5 72 _ rfl rfl rfl
                          obtain ⟨e519, hr520⟩ := hf518
                          exact OpX.val (Value.pointer (some (elA u496 ((k132 : Int)).toNat))) wd507 rfl (op_idx sl_33 (Ty.lift _ (Ext.trans hE7 hS511.ext) hr498) e515 e519 ha522 hb523) (Ext.refl _) rfl
                        · refine ObX.op rfl fun f525 wd526 he527 hout528 hphi529 => ?_
                          have hS530 := St.extend hS420 he527
                          obtain ⟨S531, hS532, hf533⟩ := hphi529 6 73 _ rfl rfl rfl
                          have e534 : f525 73 = (Value.pointer (some (elA u496 ((k132 : Int)).toNat))) := hf533
                          exact OpX.val (Value.int .i64 x521) wd526 rfl (op_load one_2 e534 (Ext.cell (Ext.trans hE7 hS530.ext) hc536)) (Ext.refl _) ⟨rfl, hr537⟩
                        · refine ObX.op rfl fun f538 wd539 he540 hout541 hphi542 => ?_
                          have e544 : f538 4 = u33 := (hout541 4 rfl).trans e427
                          exact OpX.val u33 wd539 rfl (op_move e544) (Ext.refl _) rfl
                        · refine ObX.op rfl fun f545 wd546 he547 hout548 hphi549 => ?_
                          have e551 : f545 11 = (Value.int .i64 (k132 : Int)) := (hout548 11 rfl).trans e433
                          exact OpX.val (Value.int .i64 (k132 : Int)) wd546 rfl (op_move e551) (Ext.refl _) ⟨rfl, hr166⟩
                        · refine ObX.op rfl fun f552 wd553 he554 hout555 hphi556 => ?_
                          have hS557 := St.extend hS420 he554
                          obtain ⟨S558, hS559, hf560⟩ := hphi556 8 75 _ rfl rfl rfl
                          have e561 : f552 75 = u33 := hf560
                          obtain ⟨S562, hS563, hf564⟩ := hphi556 9 76 _ rfl rfl rfl
                          obtain ⟨e565, hr566⟩ := hf564
                          exact OpX.val (Value.pointer (some (elA u33 ((k132 : Int)).toNat))) wd553 rfl (op_idx sl_41 (Ty.lift _ (Ext.trans hE7 hS557.ext) hr35) e561 e565 ha568 hb569) (Ext.refl _) rfl
                        · refine ObX.op rfl fun f571 wd572 he573 hout574 hphi575 => ?_
                          have hS576 := St.extend hS420 he573
                          obtain ⟨S577, hS578, hf579⟩ := hphi575 10 77 _ rfl rfl rfl
                          have e580 : f571 77 = (Value.pointer (some (elA u33 ((k132 : Int)).toNat))) := hf579
                          exact OpX.val u581 wd572 rfl (op_load one_33 e580 (Ext.cell (Ext.trans hE7 hS576.ext) hc582)) (Ext.refl _) rfl
                        · refine ObX.op rfl fun f584 wd585 he586 hout587 hphi588 => ?_
                          have e590 : f584 8 = (Value.int .i64 (k100 : Int)) := (hout587 8 rfl).trans e431
                          exact OpX.val (Value.int .i64 (k100 : Int)) wd585 rfl (op_move e590) (Ext.refl _) ⟨rfl, hr125⟩
                        · refine ObX.op rfl fun f591 wd592 he593 hout594 hphi595 => ?_
                          have hS596 := St.extend hS420 he593
                          obtain ⟨S597, hS598, hf599⟩ := hphi595 11 78 _ rfl rfl rfl
                          have e600 : f591 78 = u581 := hf599
                          obtain ⟨S601, hS602, hf603⟩ := hphi595 12 79 _ rfl rfl rfl
                          obtain ⟨e604, hr605⟩ := hf603
                          exact OpX.val (Value.pointer (some (elA u581 ((k100 : Int)).toNat))) wd592 rfl (op_idx sl_33 (Ty.lift _ (Ext.trans hE7 hS596.ext) hr583) e600 e604 ha607 hb608) (Ext.refl _) rfl
                        · refine ObX.op rfl fun f610 wd611 he612 hout613 hphi614 => ?_
                          have hS615 := St.extend hS420 he612
                          obtain ⟨S616, hS617, hf618⟩ := hphi614 13 80 _ rfl rfl rfl
                          have e619 : f610 80 = (Value.pointer (some (elA u581 ((k100 : Int)).toNat))) := hf618
                          exact OpX.val (Value.int .i64 x606) wd611 rfl (op_load one_2 e619 (Ext.cell (Ext.trans hE7 hS615.ext) hc621)) (Ext.refl _) ⟨rfl, hr622⟩
                        · refine ObX.op rfl fun f623 wd624 he625 hout626 hphi627 => ?_
                          obtain ⟨S629, hS630, hf631⟩ := hphi627 7 74 _ rfl rfl rfl
                          obtain ⟨e632, hr633⟩ := hf631
                          obtain ⟨S634, hS635, hf636⟩ := hphi627 14 81 _ rfl rfl rfl
                          obtain ⟨e637, hr638⟩ := hf636
                          exact OpX.val (Value.int .i64 (w64 (x521 * x606))) wd624 rfl (op_mul e632 e637) (Ext.refl _) ⟨rfl, (inR_wrap _ _)⟩
                        · intro f639 wd640 Ss641 he642 hout643 hSn644 hSd645 hphi646
                          show WL _ _ _ _ _ _ _
                          have hS647 := St.extend hS420 he642
                          obtain ⟨e648, hr649⟩ := hphi646 0 67 _ (by decide) rfl rfl
                          obtain ⟨e650, hr651⟩ := hphi646 15 82 _ (by decide) rfl rfl
                          have e652 : f639 1 = (Value.pointer (some ⟨b1, 0, none⟩)) := (hout643 1 rfl).trans e425
                          have e653 : f639 3 = (Value.int .i64 (k12 : Int)) := (hout643 3 rfl).trans e426
                          have e654 : f639 4 = u33 := (hout643 4 rfl).trans e427
                          have e655 : f639 5 = (Value.int .i64 (k39 : Int)) := (hout643 5 rfl).trans e428
                          have e656 : f639 6 = u65 := (hout643 6 rfl).trans e429
                          have e657 : f639 7 = (Value.int .i64 (k71 : Int)) := (hout643 7 rfl).trans e430
                          have e658 : f639 8 = (Value.int .i64 (k100 : Int)) := (hout643 8 rfl).trans e431
                          have e659 : f639 9 = (Value.int .i64 (w64 (x133 + (w64 (x245 * x379))))) := (hout643 9 rfl).trans rfl
                          have e660 : f639 13 = v_r_Table := (hout643 13 rfl).trans e434
                          have e661 : f639 14 = (Value.int .i64 ((r_Table).length : Int)) := (hout643 14 rfl).trans e435
                          have e662 : f639 15 = (Value.int .i64 (k12 : Int)) := (hout643 15 rfl).trans e436
                          have e663 : f639 21 = v_r_Table := (hout643 21 rfl).trans e437
                          have e664 : f639 22 = (Value.int .i64 ((r_Table).length : Int)) := (hout643 22 rfl).trans e438
                          have e665 : f639 23 = (Value.int .i64 (k39 : Int)) := (hout643 23 rfl).trans e439
                          have e666 : f639 30 = (Value.int .i64 ((r_Table).length : Int)) := (hout643 30 rfl).trans e440
                          have e667 : f639 31 = (Value.int .i64 (k71 : Int)) := (hout643 31 rfl).trans e441
                          have e668 : f639 36 = (Value.int .i64 ((r_Table).length : Int)) := (hout643 36 rfl).trans e442
                          have e669 : f639 37 = (Value.int .i64 (k100 : Int)) := (hout643 37 rfl).trans e443
                          have e670 : f639 42 = (Value.int .i64 ((r_Table).length : Int)) := (hout643 42 rfl).trans e444
                          have e671 : f639 43 = (Value.int .i64 (k132 : Int)) := (hout643 43 rfl).trans e445
                          refine WL.val (Value.int .i64 (w64 (x134 + (w64 (x521 * x606))))) _ (op_add e648 e650) rfl ?_
                          refine WL.val (Value.int .i64 (w64 (x134 + (w64 (x521 * x606))))) _ (op_assign rfl) rfl ?_
                          refine WL.nil ?_
                          show W _ _ _ _ _ _
                          refine W.region ?_
                          refine WL.val (Value.int .i64 (w64 ((k132 : Int) + (1 : Int)))) _ (op_add e671 rfl) rfl ?_
                          refine WL.val (Value.int .i64 (w64 ((k132 : Int) + (1 : Int)))) _ (op_move rfl) rfl ?_
                          refine WL.nil ?_
                          obtain rfl := Option.some.inj hb139
                          show ∃ s, _ = Ctl.next s ∧ _
                          exact ⟨_, rfl, e652, e653, e654, e655, e656, e657, e658, e659, (inR_wrap _ _), rfl, (inR_wrap _ _), e660, e661, e662, e663, e664, e665, e666, e667, e668, e669, e670, (ctr_next hl168 hr129), (ctr_rng hl168 hr129), hS647⟩
                    · intro s677 f673 wd674 hs675 hI676
                      obtain ⟨x678, x679⟩ := s677
                      replace hI676 : f673 1 = (Value.pointer (some ⟨b1, 0, none⟩)) ∧ f673 3 = (Value.int .i64 (k12 : Int)) ∧ f673 4 = u33 ∧ f673 5 = (Value.int .i64 (k39 : Int)) ∧ f673 6 = u65 ∧ f673 7 = (Value.int .i64 (k71 : Int)) ∧ f673 8 = (Value.int .i64 (k100 : Int)) ∧ f673 9 = Value.int .i64 x678 ∧ InR .i64 x678 ∧ f673 10 = Value.int .i64 x679 ∧ InR .i64 x679 ∧ f673 13 = v_r_Table ∧ f673 14 = (Value.int .i64 ((r_Table).length : Int)) ∧ f673 15 = (Value.int .i64 (k12 : Int)) ∧ f673 21 = v_r_Table ∧ f673 22 = (Value.int .i64 ((r_Table).length : Int)) ∧ f673 23 = (Value.int .i64 (k39 : Int)) ∧ f673 30 = (Value.int .i64 ((r_Table).length : Int)) ∧ f673 31 = (Value.int .i64 (k71 : Int)) ∧ f673 36 = (Value.int .i64 ((r_Table).length : Int)) ∧ f673 37 = (Value.int .i64 (k100 : Int)) ∧ f673 42 = (Value.int .i64 ((r_Table).length : Int)) ∧ f673 43 = Value.int .i64 (((r_Table).length : Nat) : Int) ∧ InR .i64 (((r_Table).length : Nat) : Int) ∧ St wd2 wd674 [] := hI676
                      obtain ⟨hf680, hf681, hf682, hf683, hf684, hf685, hf686, hf687, hr688, hf689, hr690, hf691, hf692, hf693, hf694, hf695, hf696, hf697, hf698, hf699, hf700, hf701, hf702, hr703, hS704⟩ := hI676
                      refine W.seq (W.region ?_)
                      refine WL.val (Value.bool (decide ((((r_Table).length : Nat) : Int) < ((r_Table).length : Int)))) _ (op_lss hf702 hf701) rfl ?_
                      have hl705 : ¬ (((r_Table).length : Nat) : Int) < ((r_Table).length : Int) := by omega
                      refine WL.nil ?_
                      refine W.seq ?_
                      refine W.condF (decide ((((r_Table).length : Nat) : Int) < ((r_Table).length : Int))) rfl (decide_eq_false hl705) ?_
                      refine W.exit ?_
                      show _ = _ ∧ _
                      exact ⟨rfl, _, hs675, hf680, hf681, hf682, hf683, hf684, hf685, hf686, hf687, hr688, hf689, hr690, hf691, hf692, hf693, hf694, hf695, hf696, hf697, hf698, hf699, hf700, hS704⟩
                  · rintro f706 wd707 ⟨s709, rfl, hq708⟩
                    replace hb105 := onRes_fin hb105
                    obtain ⟨x710, x711⟩ := s709
                    replace hq708 : f706 1 = (Value.pointer (some ⟨b1, 0, none⟩)) ∧ f706 3 = (Value.int .i64 (k12 : Int)) ∧ f706 4 = u33 ∧ f706 5 = (Value.int .i64 (k39 : Int)) ∧ f706 6 = u65 ∧ f706 7 = (Value.int .i64 (k71 : Int)) ∧ f706 8 = (Value.int .i64 (k100 : Int)) ∧ f706 9 = Value.int .i64 x710 ∧ InR .i64 x710 ∧ f706 10 = Value.int .i64 x711 ∧ InR .i64 x711 ∧ f706 13 = v_r_Table ∧ f706 14 = (Value.int .i64 ((r_Table).length : Int)) ∧ f706 15 = (Value.int .i64 (k12 : Int)) ∧ f706 21 = v_r_Table ∧ f706 22 = (Value.int .i64 ((r_Table).length : Int)) ∧ f706 23 = (Value.int .i64 (k39 : Int)) ∧ f706 30 = (Value.int .i64 ((r_Table).length : Int)) ∧ f706 31 = (Value.int .i64 (k71 : Int)) ∧ f706 36 = (Value.int .i64 ((r_Table).length : Int)) ∧ f706 37 = (Value.int .i64 (k100 : Int)) ∧ St wd2 wd707 [] := hq708
                    replace hb105 : (_ : Option _) = _ := hb105
                    dsimp only at hb105
                    obtain ⟨hf712, hf713, hf714, hf715, hf716, hf717, hf718, hf719, hr720, hf721, hr722, hf723, hf724, hf725, hf726, hf727, hf728, hf729, hf730, hf731, hf732, hS733⟩ := hq708
                    refine W.seq (W.region ?_)
                    refine WL.val (Value.int .i64 x710) _ (op_move hf719) rfl ?_
                    refine WL.val (Value.int .i64 x711) _ (op_move hf721) rfl ?_
                    refine WL.val (Value.bool (x710 != x711)) _ (op_neq rfl rfl) rfl ?_
                    refine WL.nil ?_
                    refine W.cond (x710 != x711) rfl (fun hc734 => ?_) (fun hc734 => ?_)
                    · replace hb105 := ip hb105 hc734
                      refine W.seq (W.region ?_)
                      refine WL.val (Value.int .i64 (k12 : Int)) _ (op_move hf713) rfl ?_
                      refine WL.val (Value.int .i64 (k39 : Int)) _ (op_move hf715) rfl ?_
                      refine WL.val (Value.int .i64 (k71 : Int)) _ (op_move hf717) rfl ?_
                      refine WL.val (Value.int .i64 (k100 : Int)) _ (op_move hf718) rfl ?_
                      refine WL.litFlat (t := (Ty.i .i64)) (flat_i .i64) [(Value.int .i64 (3 : Int)), (Value.int .i64 (k12 : Int)), (Value.int .i64 (k39 : Int)), (Value.int .i64 (k71 : Int)), (Value.int .i64 (k100 : Int))] [(3 : Int), (k12 : Int), (k39 : Int), (k71 : Int), (k100 : Int)] hS733 sl_33 rfl rfl (fillL rfl ⟨rfl, rfl, rfl, rfl, rfl, rfl, rfl, rfl, rfl, rfl, rfl, rfl, rfl, rfl, rfl, trivial⟩) rfl rfl (litL ⟨⟨rfl, (inL rfl)⟩, ⟨rfl, hr25⟩, ⟨rfl, hr57⟩, ⟨rfl, hr93⟩, ⟨rfl, hr125⟩, trivial⟩) rfl ?_
                      intro u736 wd737 hS738 he739
                      replace hS738 : St wd2 wd737 [(Ty.sl (Ty.i .i64)).at u736 ([(3 : Int), (k12 : Int), (k39 : Int), (k71 : Int), (k100 : Int)] : (List Int))] := hS738
                      refine WL.val u736 _ (op_assign rfl) rfl ?_
                      refine WL.nil ?_
                      refine W.ret ?_
                      obtain rfl := Option.some.inj hb105
                      obtain rfl := hret108 _ rfl
                      replace hb76 := onRes_ret hb76
                      obtain rfl := Option.some.inj hb76
                      obtain rfl := hret79 _ rfl
                      replace hb44 := onRes_ret hb44
                      obtain rfl := Option.some.inj hb44
                      obtain rfl := hret47 _ rfl
                      replace hb17 := onRes_ret hb17
                      obtain rfl := Option.some.inj hb17
                      obtain rfl := hret20 _ rfl
                      replace h := onRes_ret h
                      obtain rfl := Option.some.inj h
                      show FinP _ _ _ _ _ _ _
                      exact FinP.ret _ (res1 rfl rfl) ⟨u736, rfl, (nil_cons), (Ext.trans hE7 hS738.ext), (St.out (St.pick hS738 [0] rfl) (hE7))⟩
                    · replace hb105 := inegb hb105 hc734
                      refine W.skip ?_
                      show W _ _ _ _ _ _
                      refine W.region ?_
                      refine WL.val (Value.int .i64 (w64 ((k100 : Int) + (1 : Int)))) _ (op_add hf732 rfl) rfl ?_
                      refine WL.val (Value.int .i64 (w64 ((k100 : Int) + (1 : Int)))) _ (op_move rfl) rfl ?_
                      refine WL.nil ?_
                      obtain rfl := Option.some.inj hb105
                      show ∃ s, _ = Ctl.next s ∧ _
                      exact ⟨_, rfl, hf712, hf713, hf714, hf715, hf716, hf717, hf723, hf724, hf725, hf726, hf727, hf728, hf729, hf730, hf731, (ctr_next hl127 hr97), (ctr_rng hl127 hr97), hS733⟩
                · intro s746 f742 wd743 hs744 hI745
                  obtain ⟨⟩ := s746
                  replace hI745 : f742 1 = (Value.pointer (some ⟨b1, 0, none⟩)) ∧ f742 3 = (Value.int .i64 (k12 : Int)) ∧ f742 4 = u33 ∧ f742 5 = (Value.int .i64 (k39 : Int)) ∧ f742 6 = u65 ∧ f742 7 = (Value.int .i64 (k71 : Int)) ∧ f742 13 = v_r_Table ∧ f742 14 = (Value.int .i64 ((r_Table).length : Int)) ∧ f742 15 = (Value.int .i64 (k12 : Int)) ∧ f742 21 = v_r_Table ∧ f742 22 = (Value.int .i64 ((r_Table).length : Int)) ∧ f742 23 = (Value.int .i64 (k39 : Int)) ∧ f742 30 = (Value.int .i64 ((r_Table).length : Int)) ∧ f742 31 = (Value.int .i64 (k71 : Int)) ∧ f742 36 = (Value.int .i64 ((r_Table).length : Int)) ∧ f742 37 = Value.int .i64 (((r_Table).length : Nat) : Int) ∧ InR .i64 (((r_Table).length : Nat) : Int) ∧ St wd2 wd743 [] := hI745
                  obtain ⟨hf747, hf748, hf749, hf750, hf751, hf752, hf753, hf754, hf755, hf756, hf757, hf758, hf759, hf760, hf761, hf762, hr763, hS764⟩ := hI745
                  refine W.seq (W.region ?_)
                  refine WL.val (Value.bool (decide ((((r_Table).length : Nat) : Int) < ((r_Table).length : Int)))) _ (op_lss hf762 hf761) rfl ?_
                  have hl765 : ¬ (((r_Table).length : Nat) : Int) < ((r_Table).length : Int) := by omega
                  refine WL.nil ?_
                  refine W.seq ?_
                  refine W.condF (decide ((((r_Table).length : Nat) : Int) < ((r_Table).length : Int))) rfl (decide_eq_false hl765) ?_
                  refine W.exit ?_
                  show _ = _ ∧ _
                  exact ⟨rfl, _, hs744, hf747, hf748, hf749, hf750, hf751, hf753, hf754, hf755, hf756, hf757, hf758, hf759, hf760, hS764⟩
              · rintro f766 wd767 ⟨s769, rfl, hq768⟩
                replace hb76 := onRes_fin hb76
                obtain ⟨⟩ := s769
                replace hq768 : f766 1 = (Value.pointer (some ⟨b1, 0, none⟩)) ∧ f766 3 = (Value.int .i64 (k12 : Int)) ∧ f766 4 = u33 ∧ f766 5 = (Value.int .i64 (k39 : Int)) ∧ f766 6 = u65 ∧ f766 13 = v_r_Table ∧ f766 14 = (Value.int .i64 ((r_Table).length : Int)) ∧ f766 15 = (Value.int .i64 (k12 : Int)) ∧ f766 21 = v_r_Table ∧ f766 22 = (Value.int .i64 ((r_Table).length : Int)) ∧ f766 23 = (Value.int .i64 (k39 : Int)) ∧ f766 30 = (Value.int .i64 ((r_Table).length : Int)) ∧ f766 31 = (Value.int .i64 (k71 : Int)) ∧ St wd2 wd767 [] := hq768
                obtain ⟨hf770, hf771, hf772, hf773, hf774, hf775, hf776, hf777, hf778, hf779, hf780, hf781, hf782, hS783⟩ := hq768
                show W _ _ _ _ _ _
                refine W.region ?_
                refine WL.val (Value.int .i64 (w64 ((k71 : Int) + (1 : Int)))) _ (op_add hf782 rfl) rfl ?_
                refine WL.val (Value.int .i64 (w64 ((k71 : Int) + (1 : Int)))) _ (op_move rfl) rfl ?_
                refine WL.nil ?_
                obtain rfl := Option.some.inj hb76
                show ∃ s, _ = Ctl.next s ∧ _
                exact ⟨_, rfl, hf770, hf771, hf772, hf773, hf774, hf775, hf776, hf777, hf778, hf779, hf780, hf781, (ctr_next hl95 hr68), (ctr_rng hl95 hr68), hS783⟩
            · intro s790 f786 wd787 hs788 hI789
              obtain ⟨⟩ := s790
              replace hI789 : f786 1 = (Value.pointer (some ⟨b1, 0, none⟩)) ∧ f786 3 = (Value.int .i64 (k12 : Int)) ∧ f786 4 = u33 ∧ f786 5 = (Value.int .i64 (k39 : Int)) ∧ f786 6 = u65 ∧ f786 13 = v_r_Table ∧ f786 14 = (Value.int .i64 ((r_Table).length : Int)) ∧ f786 15 = (Value.int .i64 (k12 : Int)) ∧ f786 21 = v_r_Table ∧ f786 22 = (Value.int .i64 ((r_Table).length : Int)) ∧ f786 23 = (Value.int .i64 (k39 : Int)) ∧ f786 30 = (Value.int .i64 ((r_Table).length : Int)) ∧ f786 31 = Value.int .i64 (((r_Table).length : Nat) : Int) ∧ InR .i64 (((r_Table).length : Nat) : Int) ∧ St wd2 wd787 [] := hI789
              obtain ⟨hf791, hf792, hf793, hf794, hf795, hf796, hf797, hf798, hf799, hf800, hf801, hf802, hf803, hr804, hS805⟩ := hI789
              refine W.seq (W.region ?_)
              refine WL.val (Value.bool (decide ((((r_Table).length : Nat) : Int) < ((r_Table).length : Int)))) _ (op_lss hf803 hf802) rfl ?_
              have hl806 : ¬ (((r_Table).length : Nat) : Int) < ((r_Table).length : Int) := by omega
              refine WL.nil ?_
              refine W.seq ?_
              refine W.condF (decide ((((r_Table).length : Nat) : Int) < ((r_Table).length : Int))) rfl (decide_eq_false hl806) ?_
              refine W.exit ?_
              show _ = _ ∧ _
              exact ⟨rfl, _, hs788, hf791, hf792, hf793, hf796, hf797, hf798, hf799, hf800, hf801, hS805⟩
          · rintro f807 wd808 ⟨s810, rfl, hq809⟩
            replace hb44 := onRes_fin hb44
            obtain ⟨⟩ := s810
            replace hq809 : f807 1 = (Value.pointer (some ⟨b1, 0, none⟩)) ∧ f807 3 = (Value.int .i64 (k12 : Int)) ∧ f807 4 = u33 ∧ f807 13 = v_r_Table ∧ f807 14 = (Value.int .i64 ((r_Table).length : Int)) ∧ f807 15 = (Value.int .i64 (k12 : Int)) ∧ f807 21 = v_r_Table ∧ f807 22 = (Value.int .i64 ((r_Table).length : Int)) ∧ f807 23 = (Value.int .i64 (k39 : Int)) ∧ St wd2 wd808 [] := hq809
            obtain ⟨hf811, hf812, hf813, hf814, hf815, hf816, hf817, hf818, hf819, hS820⟩ := hq809
            show W _ _ _ _ _ _
            refine W.region ?_
            refine WL.val (Value.int .i64 (w64 ((k39 : Int) + (1 : Int)))) _ (op_add hf819 rfl) rfl ?_
            refine WL.val (Value.int .i64 (w64 ((k39 : Int) + (1 : Int)))) _ (op_move rfl) rfl ?_
            refine WL.nil ?_
            obtain rfl := Option.some.inj hb44
            show ∃ s, _ = Ctl.next s ∧ _
            exact ⟨_, rfl, hf811, hf812, hf813, hf814, hf815, hf816, hf817, hf818, (ctr_next hl59 hr36), (ctr_rng hl59 hr36), hS820⟩
        · intro s827 f823 wd824 hs825 hI826
          obtain ⟨⟩ := s827
          replace hI826 : f823 1 = (Value.pointer (some ⟨b1, 0, none⟩)) ∧ f823 3 = (Value.int .i64 (k12 : Int)) ∧ f823 4 = u33 ∧ f823 13 = v_r_Table ∧ f823 14 = (Value.int .i64 ((r_Table).length : Int)) ∧ f823 15 = (Value.int .i64 (k12 : Int)) ∧ f823 21 = v_r_Table ∧ f823 22 = (Value.int .i64 ((r_Table).length : Int)) ∧ f823 23 = Value.int .i64 (((r_Table).length : Nat) : Int) ∧ InR .i64 (((r_Table).length : Nat) : Int) ∧ St wd2 wd824 [] := hI826
          obtain ⟨hf828, hf829, hf830, hf831, hf832, hf833, hf834, hf835, hf836, hr837, hS838⟩ := hI826
          refine W.seq (W.region ?_)
          refine WL.val (Value.bool (decide ((((r_Table).length : Nat) : Int) < ((r_Table).length : Int)))) _ (op_lss hf836 hf835) rfl ?_
          have hl839 : ¬ (((r_Table).length : Nat) : Int) < ((r_Table).length : Int) := by omega
          refine WL.nil ?_
          refine W.seq ?_
          refine W.condF (decide ((((r_Table).length : Nat) : Int) < ((r_Table).length : Int))) rfl (decide_eq_false hl839) ?_
          refine W.exit ?_
          show _ = _ ∧ _
          exact ⟨rfl, _, hs825, hf828, hf831, hf832, hf833, hS838⟩
      · rintro f840 wd841 ⟨s843, rfl, hq842⟩
        replace hb17 := onRes_fin hb17
        obtain ⟨⟩ := s843
        replace hq842 : f840 1 = (Value.pointer (some ⟨b1, 0, none⟩)) ∧ f840 13 = v_r_Table ∧ f840 14 = (Value.int .i64 ((r_Table).length : Int)) ∧ f840 15 = (Value.int .i64 (k12 : Int)) ∧ St wd2 wd841 [] := hq842
        obtain ⟨hf844, hf845, hf846, hf847, hS848⟩ := hq842
        show W _ _ _ _ _ _
        refine W.region ?_
        refine WL.val (Value.int .i64 (w64 ((k12 : Int) + (1 : Int)))) _ (op_add hf847 rfl) rfl ?_
        refine WL.val (Value.int .i64 (w64 ((k12 : Int) + (1 : Int)))) _ (op_move rfl) rfl ?_
        refine WL.nil ?_
        obtain rfl := Option.some.inj hb17
        show ∃ s, _ = Ctl.next s ∧ _
        exact ⟨_, rfl, hf844, hf845, hf846, (ctr_next hl27 hr9), (ctr_rng hl27 hr9), hS848⟩
    · intro s855 f851 wd852 hs853 hI854
      obtain ⟨⟩ := s855
      replace hI854 : f851 1 = (Value.pointer (some ⟨b1, 0, none⟩)) ∧ f851 13 = v_r_Table ∧ f851 14 = (Value.int .i64 ((r_Table).length : Int)) ∧ f851 15 = Value.int .i64 (((r_Table).length : Nat) : Int) ∧ InR .i64 (((r_Table).length : Nat) : Int) ∧ St wd2 wd852 [] := hI854
      obtain ⟨hf856, hf857, hf858, hf859, hr860, hS861⟩ := hI854
      refine W.seq (W.region ?_)
      refine WL.val (Value.bool (decide ((((r_Table).length : Nat) : Int) < ((r_Table).length : Int)))) _ (op_lss hf859 hf858) rfl ?_
      have hl862 : ¬ (((r_Table).length : Nat) : Int) < ((r_Table).length : Int) := by omega
      refine WL.nil ?_
      refine W.seq ?_
      refine W.condF (decide ((((r_Table).length : Nat) : Int) < ((r_Table).length : Int))) rfl (decide_eq_false hl862) ?_
      refine W.exit ?_
      show _ = _ ∧ _
      exact ⟨rfl, _, hs853, hS861⟩
  · rintro f863 wd864 ⟨s866, rfl, hq865⟩
    replace h := onRes_fin h
    obtain ⟨⟩ := s866
    replace hq865 : St wd2 wd864 [] := hq865
    have hS867 := hq865
    refine W.seq (W.region ?_)
    refine WL.val (Value.slice none 0 0) _ (op_assign rfl) rfl ?_
    refine WL.nil ?_
    refine W.ret ?_
    obtain rfl := Option.some.inj h
    show FinP _ _ _ _ _ _ _
    exact FinP.ret _ (res1 rfl rfl) ⟨(Value.slice none 0 0), rfl, (fun _ => ⟨0, 0, rfl⟩), (Ext.trans hE7 hS867.ext), (St.out (St.pick (St.addNil (Ty.i .i64) hS867) [0] rfl) (hE7))⟩

theorem c_impl_Ring_fault {w : World} {r_Table : (List (List (List Int)))} {v_r_Table : Value} (r_r_Table : (Ty.sl (Ty.sl (Ty.sl (Ty.i .i64)))).rep w v_r_Table r_Table) {res : (List Int)} (h : p_impl_Ring_fault r_Table  = some res) :
    Ret Tryd.prog 66 #[(Value.agg #[v_r_Table])] w (fun v w' => ∃ (u0 : Value), v = u0 ∧ NilIff u0 res ∧ Ext w w' ∧ Sep w.heap.size w' [(Ty.sl (Ty.i .i64)).at u0 res]) := by
  unfold p_impl_Ring_fault at h
  have hS0 : St w w [] := St.start w
  refine Ret.start (fn := Tryd.f66) Tryd.func66 rfl 24 rfl rfl ?_
  refine W.seq (W.region ?_)
  refine WL.box hS0 rfl (cs := [v_r_Table]) rfl rfl ?_
  intro b1 wd2 hS3 he4 hx5
  replace hS3 : St w wd2 [bx b1 [v_r_Table]] := hS3
  have hx6 := St.boxAt hS3 0 rfl
  have hE7 : Ext w wd2 := hS3.ext
  have hS8 : St wd2 wd2 [] := St.start wd2
  refine WL.val (Value.slice none 0 0) _ (op_assign rfl) rfl ?_
  refine WL.nil ?_
  refine W.seq (W.seq (W.region ?_))
  refine WL.val (Value.agg #[v_r_Table]) _ (op_loadBox st_26 rfl (BoxAt.lift hS8.ext hx6) rfl rfl) rfl ?_
  obtain ⟨x9, hx10, h⟩ := bs h
  refine WL.call _ (op_call fn_81 (args1 rfl)) (c_impl_Ring_unitFault (Ty.lift _ (Ext.trans hE7 hS8.ext) r_r_Table) hx10) rfl ?_
  rintro u11 wd13 ⟨_, rfl, hn12, he14, hs15⟩
  have hS16 := St.join hS8 he14 hs15
  replace hS16 : St wd2 wd13 [(Ty.sl (Ty.i .i64)).at u11 x9] := hS16
  refine WL.val u11 _ (op_assign rfl) rfl ?_
  refine WL.nil ?_
  refine W.seq (W.region ?_)
  refine WL.val u11 _ (op_move rfl) rfl ?_
  refine WL.val (Value.bool (!(x9).isEmpty)) _ (op_neqNilL sl_33 (St.rep (t := (Ty.sl (Ty.i .i64))) hS16 0 rfl) hn12 rfl rfl) rfl ?_
  refine WL.nil ?_
  refine W.cond (!(x9).isEmpty) rfl (fun hc17 => ?_) (fun hc17 => ?_)
  · replace h := ip h hc17
    refine W.seq (W.region ?_)
    refine WL.val u11 _ (op_move rfl) rfl ?_
    refine WL.val u11 _ (op_assign rfl) rfl ?_
    refine WL.nil ?_
    refine W.ret ?_
    obtain rfl := Option.some.inj h
    show FinP _ _ _ _ _ _ _
    exact FinP.ret _ (res1 rfl rfl) ⟨u11, rfl, hn12, (Ext.trans hE7 hS16.ext), (St.out (St.pick hS16 [0] rfl) (hE7))⟩
  · replace h := inegb h hc17
    refine W.skip ?_
    refine W.seq (W.seq (W.region ?_))
    refine WL.val (Value.agg #[v_r_Table]) _ (op_loadBox st_26 rfl (BoxAt.lift hS16.ext hx6) rfl rfl) rfl ?_
    obtain ⟨x19, hx20, h⟩ := bs h
    refine WL.call _ (op_call fn_82 (args1 rfl)) (c_impl_Ring_dualFault (Ty.lift _ (Ext.trans hE7 hS16.ext) r_r_Table) hx20) rfl ?_
    rintro _ wd22 ⟨rfl, hr21, he23⟩
    have hS25 := St.extend hS16 he23
    replace hS25 : St wd2 wd22 [(Ty.sl (Ty.i .i64)).at u11 x9] := hS25
    refine WL.val (Value.int .i64 x19) _ (op_assign rfl) rfl ?_
    refine WL.nil ?_
    refine W.seq (W.region ?_)
    refine WL.val (Value.int .i64 x19) _ (op_move rfl) rfl ?_
    refine WL.val (Value.bool (decide (x19 ≥ (0 : Int)))) _ (op_geq rfl rfl) rfl ?_
    refine WL.nil ?_
    refine W.cond (decide (x19 ≥ (0 : Int))) rfl (fun hc26 => ?_) (fun hc26 => ?_)
    · replace h := ip h hc26
      refine W.seq (W.region ?_)
      refine WL.val (Value.int .i64 x19) _ (op_move rfl) rfl ?_
      refine WL.litFlat (t := (Ty.i .i64)) (flat_i .i64) [(Value.int .i64 (1 : Int)), (Value.int .i64 x19)] [(1 : Int), x19] hS25 sl_33 rfl rfl (fillL rfl ⟨rfl, rfl, rfl, rfl, rfl, rfl, trivial⟩) rfl rfl (litL ⟨⟨rfl, (inL rfl)⟩, ⟨rfl, hr21⟩, trivial⟩) rfl ?_
      intro u28 wd29 hS30 he31
      replace hS30 : St wd2 wd29 [(Ty.sl (Ty.i .i64)).at u11 x9, (Ty.sl (Ty.i .i64)).at u28 ([(1 : Int), x19] : (List Int))] := hS30
      refine WL.val u28 _ (op_assign rfl) rfl ?_
      refine WL.nil ?_
      refine W.ret ?_
      obtain rfl := Option.some.inj h
      show FinP _ _ _ _ _ _ _
      exact FinP.ret _ (res1 rfl rfl) ⟨u28, rfl, (nil_cons), (Ext.trans hE7 hS30.ext), (St.out (St.pick hS30 [1] rfl) (hE7))⟩
    · replace h := inegb h hc26
      refine W.skip ?_
      refine W.seq (W.seq (W.region ?_))
      refine WL.val (Value.agg #[v_r_Table]) _ (op_loadBox st_26 rfl (BoxAt.lift hS25.ext hx6) rfl rfl) rfl ?_
      obtain ⟨x32, hx33, h⟩ := bs h
      refine WL.call _ (op_call fn_83 (args1 rfl)) (c_impl_Ring_turnFault (Ty.lift _ (Ext.trans hE7 hS25.ext) r_r_Table) hx33) rfl ?_
      rintro u34 wd36 ⟨_, rfl, hn35, he37, hs38⟩
      have hS39 := St.join hS25 he37 hs38
      replace hS39 : St wd2 wd36 [(Ty.sl (Ty.i .i64)).at u11 x9, (Ty.sl (Ty.i .i64)).at u34 x32] := hS39
      refine WL.val u34 _ (op_assign rfl) rfl ?_
      refine WL.nil ?_
      refine W.seq (W.region ?_)
      refine WL.val u34 _ (op_move rfl) rfl ?_
      refine WL.val (Value.bool (!(x32).isEmpty)) _ (op_neqNilL sl_33 (St.rep (t := (Ty.sl (Ty.i .i64))) hS39 1 rfl) hn35 rfl rfl) rfl ?_
      refine WL.nil ?_
      refine W.cond (!(x32).isEmpty) rfl (fun hc40 => ?_) (fun hc40 => ?_)
      · replace h := ip h hc40
        refine W.seq (W.region ?_)
        refine WL.val u34 _ (op_move rfl) rfl ?_
        refine WL.val u34 _ (op_assign rfl) rfl ?_
        refine WL.nil ?_
        refine W.ret ?_
        obtain rfl := Option.some.inj h
        show FinP _ _ _ _ _ _ _
        exact FinP.ret _ (res1 rfl rfl) ⟨u34, rfl, hn35, (Ext.trans hE7 hS39.ext), (St.out (St.pick hS39 [1] rfl) (hE7))⟩
      · replace h := inegb h hc40
        refine W.skip ?_
        refine W.seq (W.region ?_)
        refine WL.val (Value.agg #[v_r_Table]) _ (op_loadBox st_26 rfl (BoxAt.lift hS39.ext hx6) rfl rfl) rfl ?_
        obtain ⟨x42, hx43, h⟩ := bs h
        refine WL.call _ (op_call fn_84 (args1 rfl)) (c_impl_Ring_bracketFault (Ty.lift _ (Ext.trans hE7 hS39.ext) r_r_Table) hx43) rfl ?_
        rintro u44 wd46 ⟨_, rfl, hn45, he47, hs48⟩
        have hS49 := St.join hS39 he47 hs48
        replace hS49 : St wd2 wd46 [(Ty.sl (Ty.i .i64)).at u11 x9, (Ty.sl (Ty.i .i64)).at u34 x32, (Ty.sl (Ty.i .i64)).at u44 x42] := hS49
        refine WL.val u44 _ (op_assign rfl) rfl ?_
        refine WL.nil ?_
        refine W.ret ?_
        obtain rfl := Option.some.inj h
        show FinP _ _ _ _ _ _ _
        exact FinP.ret _ (res1 rfl rfl) ⟨u44, rfl, hn45, (Ext.trans hE7 hS49.ext), (St.out (St.pick hS49 [2] rfl) (hE7))⟩

theorem c_impl_IsRing {w : World} {r_Table : (List (List (List Int)))} {v_r_Table : Value} (r_r_Table : (Ty.sl (Ty.sl (Ty.sl (Ty.i .i64)))).rep w v_r_Table r_Table) {res : Bool} (h : p_impl_IsRing r_Table  = some res) :
    Ret Tryd.prog 42 #[(Value.agg #[v_r_Table])] w (fun v w' => v = Value.bool res ∧ Ext w w') := by
  unfold p_impl_IsRing at h
  have hS0 : St w w [] := St.start w
  refine Ret.start (fn := Tryd.f42) Tryd.func42 rfl 10 rfl rfl ?_
  refine W.seq (W.region ?_)
  refine WL.box hS0 rfl (cs := [v_r_Table]) rfl rfl ?_
  intro b1 wd2 hS3 he4 hx5
  replace hS3 : St w wd2 [bx b1 [v_r_Table]] := hS3
  have hx6 := St.boxAt hS3 0 rfl
  have hE7 : Ext w wd2 := hS3.ext
  have hS8 : St wd2 wd2 [] := St.start wd2
  refine WL.val (Value.bool false) _ (op_assign rfl) rfl ?_
  refine WL.nil ?_
  refine W.seq (W.region ?_)
  refine WL.val (Value.agg #[v_r_Table]) _ (op_loadBox st_26 rfl (BoxAt.lift hS8.ext hx6) rfl rfl) rfl ?_
  obtain ⟨x9, hx10, h⟩ := bs h
  refine WL.call _ (op_call fn_65 (args1 rfl)) (c_impl_isCube (Ty.lift _ (Ext.trans hE7 hS8.ext) r_r_Table) hx10) rfl ?_
  rintro _ wd11 ⟨rfl, he12⟩
  have hS14 := St.extend hS8 he12
  replace hS14 : St wd2 wd11 [] := hS14
  refine WL.val (Value.bool x9) _ (op_move rfl) rfl ?_
  obtain ⟨x16, hj17, h⟩ := bs h
  refine WL.cut 4 (fun fq wq => fq 9 = Value.bool x16 ∧ St wd2 wq []) ?_ ?_
  · rcases Bool.eq_false_or_eq_true x9 with hc15 | hc15
    · replace hj17 := ip hj17 hc15
      refine WL.grun rfl (bool_of rfl hc15) ?_
      refine WL.val (Value.agg #[v_r_Table]) _ (op_loadBox st_26 rfl (BoxAt.lift hS14.ext hx6) rfl rfl) rfl ?_
      refine WL.grun rfl (bool_of rfl hc15) ?_
      obtain ⟨x21, hx22, hj17⟩ := bs hj17
      refine WL.call _ (op_call fn_66 (args1 rfl)) (c_impl_Ring_fault (Ty.lift _ (Ext.trans hE7 hS14.ext) r_r_Table) hx22) rfl ?_
      rintro u23 wd25 ⟨_, rfl, hn24, he26, hs27⟩
      have hS28 := St.join hS14 he26 hs27
      replace hS28 : St wd2 wd25 [(Ty.sl (Ty.i .i64)).at u23 x21] := hS28
      refine WL.grun rfl (bool_of rfl hc15) ?_
      refine WL.val (Value.bool (x21).isEmpty) _ (op_eqlNilL sl_33 (St.rep (t := (Ty.sl (Ty.i .i64))) hS28 0 rfl) hn24 rfl rfl) rfl ?_
      refine WL.val (Value.bool (x21).isEmpty) _ (op_pick_t (evb_of rfl hc15) rfl) rfl ?_
      refine WL.nil ?_
      obtain rfl := Option.some.inj hj17
      exact ⟨rfl, rfl, (St.pick hS28 [] rfl)⟩
    · replace hj17 := inegb hj17 hc15
      refine WL.gskip rfl (bool_of rfl hc15) rfl ?_
      refine WL.gskip rfl (bool_of rfl hc15) rfl ?_
      refine WL.gskip rfl (bool_of rfl hc15) rfl ?_
      refine WL.val (Value.bool false) _ (op_pick_f (evb_of rfl hc15) rfl) rfl ?_
      refine WL.nil ?_
      obtain rfl := Option.some.inj hj17
      exact ⟨rfl, rfl, hS14⟩
  · intro f18 wd19 hq20
    obtain ⟨hf29, hS30⟩ := hq20
    refine WL.val (Value.bool x16) _ (op_assign hf29) rfl ?_
    refine WL.nil ?_
    refine W.ret ?_
    obtain rfl := Option.some.inj h
    show FinP _ _ _ _ _ _ _
    exact FinP.ret _ (res1 rfl rfl) ⟨rfl, (Ext.trans hE7 hS30.ext)⟩

theorem c_impl_zeros {w : World} {rows : Int} {columns : Int} (r_rows : InR .i64 rows) (r_columns : InR .i64 columns) {res : (List (List Int))} (h : p_impl_zeros rows columns  = some res) :
    Ret Tryd.prog 48 #[(Value.int .i64 rows), (Value.int .i64 columns)] w (fun v w' => ∃ (u0 : Value), v = u0 ∧ Ext w w' ∧ Sep w.heap.size w' [(Ty.sl (Ty.sl (Ty.i .i64))).at u0 res]) := by
  unfold p_impl_zeros at h
  have hS0 : St w w [] := St.start w
  refine Ret.start (fn := Tryd.f48) Tryd.func48 rfl 17 rfl rfl ?_
  refine W.seq (W.region ?_)
  refine WL.val (Value.slice none 0 0) _ (op_assign rfl) rfl ?_
  refine WL.nil ?_
  refine W.seq (W.region ?_)
  refine WL.lit0 (t := (Ty.sl (Ty.i .i64))) hS0 sl_41 rfl rfl ?_
  intro u1 wd2 hS3 he4
  replace hS3 : St w wd2 [(Ty.sl (Ty.sl (Ty.i .i64))).at u1 ([] : (List (List Int)))] := hS3
  refine WL.val u1 _ (op_assign rfl) rfl ?_
  refine WL.nil ?_
  refine W.seq (W.seq (W.region ?_))
  refine WL.val (Value.int .i64 rows) _ (op_move rfl) rfl ?_
  refine WL.val (Value.int .i64 (0 : Int)) _ (op_move rfl) rfl ?_
  refine WL.nil ?_
  show W _ _ _ _ _ _
  obtain ⟨res5, hres6, h⟩ := bs h
  refine W.blockLoop (fun fq wq => ∃ s, res5 = Res.fin s ∧ ∃ (uu0 : Value), fq 5 = uu0 ∧ St w wq [(Ty.sl (Ty.sl (Ty.i .i64))).at uu0 s]) ?_ ?_
  · refine W.forN (fun k (s : (List (List Int))) fq wq => ∃ (uu0 : Value), fq 1 = (Value.int .i64 columns) ∧ fq 5 = uu0 ∧ fq 7 = (Value.int .i64 rows) ∧ fq 8 = Value.int .i64 (k : Int) ∧ InR .i64 (k : Int) ∧ St w wq [(Ty.sl (Ty.sl (Ty.i .i64))).at uu0 s]) hres6 ⟨u1, rfl, rfl, rfl, rfl, (inL rfl), hS3⟩ ?_ ?_
    · intro k7 x8 ct9 f10 wd11 hk12 hb13 hI14 hbrk15 hret16
      replace hI14 : ∃ (uu0 : Value), f10 1 = (Value.int .i64 columns) ∧ f10 5 = uu0 ∧ f10 7 = (Value.int .i64 rows) ∧ f10 8 = Value.int .i64 (k7 : Int) ∧ InR .i64 (k7 : Int) ∧ St w wd11 [(Ty.sl (Ty.sl (Ty.i .i64))).at uu0 x8] := hI14
      replace hb13 : p_impl_zeros_L1 columns k7 x8 = some ct9 := hb13
      unfold p_impl_zeros_L1 at hb13
      obtain ⟨u17, hf18, hf19, hf20, hf21, hr22, hS23⟩ := hI14
      refine W.seq (W.region ?_)
      refine WL.val (Value.bool (decide ((k7 : Int) < rows))) _ (op_lss hf21 hf20) rfl ?_
      have hl24 : (k7 : Int) < rows := by omega
      refine WL.nil ?_
      refine W.seq ?_
      refine W.condT (decide ((k7 : Int) < rows)) rfl (decide_eq_true hl24) ?_
      refine W.skip ?_
      refine W.seq ?_
      refine W.block ?_
      refine W.region ?_
      refine WL.val u17 _ (op_move hf19) rfl ?_
      refine WL.val (Value.int .i64 columns) _ (op_move hf18) rfl ?_
      obtain ⟨x26, hx27, hb13⟩ := bs hb13
      refine WL.make (t := (Ty.i .i64)) hS23 sl_33 (fun _ _ => ⟨rfl, (inL rfl)⟩) rfl rfl hx27 rfl rfl ?_
      intro u28 wd29 hS30 he31
      replace hS30 : St w wd29 [(Ty.sl (Ty.sl (Ty.i .i64))).at u17 x8, (Ty.sl (Ty.i .i64)).at u28 x26] := hS30
      refine WL.lit [u28] hS30 sl_41 rfl rfl (fillL rfl ⟨rfl, rfl, (cells_rep (St.rep (t := (Ty.sl (Ty.i .i64))) hS30 1 rfl)), trivial⟩) rfl rfl ?_
      intro b36 wd33 hS34 he35 hx37
      replace hS34 : St w wd33 [(Ty.sl (Ty.sl (Ty.i .i64))).at u17 x8, (Ty.sl (Ty.i .i64)).at u28 x26, bx b36 [u28]] := hS34
      obtain ⟨x38, hx39, hb13⟩ := bs hb13
      refine WL.appendRow hS34 (k := 0) (k2 := 1) (k3 := 2) rfl rfl rfl rfl sl_41 rfl rfl rfl rfl hx39 rfl ?_
      intro u40 wd41 hS42 hz43
      replace hS42 : St w wd41 [(Ty.sl (Ty.sl (Ty.i .i64))).at u40 x38, emp, bx b36 [u28]] := hS42
      refine WL.val u40 _ (op_assign rfl) rfl ?_
      refine WL.nil ?_
      show W _ _ _ _ _ _
      refine W.region ?_
      refine WL.val (Value.int .i64 (w64 ((k7 : Int) + (1 : Int)))) _ (op_add hf21 rfl) rfl ?_
      refine WL.val (Value.int .i64 (w64 ((k7 : Int) + (1 : Int)))) _ (op_move rfl) rfl ?_
      refine WL.nil ?_
      obtain rfl := Option.some.inj hb13
      show ∃ s, _ = Ctl.next s ∧ _
      exact ⟨_, rfl, u40, hf18, rfl, hf20, (ctr_next hl24 r_rows), (ctr_rng hl24 r_rows), (St.pick hS42 [0] rfl)⟩
    · intro x50 f45 wd46 hs47 hI48
      replace hI48 : ∃ (uu0 : Value), f45 1 = (Value.int .i64 columns) ∧ f45 5 = uu0 ∧ f45 7 = (Value.int .i64 rows) ∧ f45 8 = Value.int .i64 (((rows).toNat : Nat) : Int) ∧ InR .i64 (((rows).toNat : Nat) : Int) ∧ St w wd46 [(Ty.sl (Ty.sl (Ty.i .i64))).at uu0 x50] := hI48
      obtain ⟨u51, hf52, hf53, hf54, hf55, hr56, hS57⟩ := hI48
      refine W.seq (W.region ?_)
      refine WL.val (Value.bool (decide ((((rows).toNat : Nat) : Int) < rows))) _ (op_lss hf55 hf54) rfl ?_
      have hl58 : ¬ (((rows).toNat : Nat) : Int) < rows := by omega
      refine WL.nil ?_
      refine W.seq ?_
      refine W.condF (decide ((((rows).toNat : Nat) : Int) < rows)) rfl (decide_eq_false hl58) ?_
      refine W.exit ?_
      show _ = _ ∧ _
      exact ⟨rfl, _, hs47, u51, hf53, hS57⟩
  · rintro f59 wd60 ⟨x63, rfl, hq61⟩
    replace h := onRes_fin h
    replace hq61 : ∃ (uu0 : Value), f59 5 = uu0 ∧ St w wd60 [(Ty.sl (Ty.sl (Ty.i .i64))).at uu0 x63] := hq61
    obtain ⟨u64, hf65, hS66⟩ := hq61
    refine W.seq (W.region ?_)
    refine WL.val u64 _ (op_move hf65) rfl ?_
    refine WL.val u64 _ (op_assign rfl) rfl ?_
    refine WL.nil ?_
    refine W.ret ?_
    obtain rfl := Option.some.inj h
    show FinP _ _ _ _ _ _ _
    exact FinP.ret _ (res1 rfl rfl) ⟨u64, rfl, hS66.ext, (St.out (St.pick hS66 [0] rfl) (Ext.refl _))⟩

theorem c_impl_Ring_supports {w : World} {r_Table : (List (List (List Int)))} {v_r_Table : Value} (r_r_Table : (Ty.sl (Ty.sl (Ty.sl (Ty.i .i64)))).rep w v_r_Table r_Table) {res : (List (List Int))} (h : p_impl_Ring_supports r_Table  = some res) :
    Ret Tryd.prog 47 #[(Value.agg #[v_r_Table])] w (fun v w' => ∃ (u0 : Value), v = u0 ∧ Ext w w' ∧ Sep w.heap.size w' [(Ty.sl (Ty.sl (Ty.i .i64))).at u0 res]) := by
  unfold p_impl_Ring_supports at h
  have hS0 : St w w [] := St.start w
  refine Ret.start (fn := Tryd.f47) Tryd.func47 rfl 56 rfl rfl ?_
  refine W.seq (W.region ?_)
  refine WL.box hS0 rfl (cs := [v_r_Table]) rfl rfl ?_
  intro b1 wd2 hS3 he4 hx5
  replace hS3 : St w wd2 [bx b1 [v_r_Table]] := hS3
  have hx6 := St.boxAt hS3 0 rfl
  have hE7 : Ext w wd2 := hS3.ext
  have hS8 : St wd2 wd2 [] := St.start wd2
  refine WL.val (Value.slice none 0 0) _ (op_assign rfl) rfl ?_
  refine WL.nil ?_
  refine W.seq (W.region ?_)
  refine WL.val (Value.pointer (some ⟨b1, 0, none⟩)) _ (op_fieldAddr fd_26_0 rfl) rfl ?_
  refine WL.val v_r_Table _ (op_load one_22 rfl (BoxAt.cell (BoxAt.lift hS8.ext hx6) rfl)) rfl ?_
  have hr9 := inR_len (Ty.lift _ (Ext.trans hE7 hS8.ext) r_r_Table)
  refine WL.val (Value.int .i64 ((r_Table).length : Int)) _ (op_lenL sl_22 (Ty.lift _ (Ext.trans hE7 hS8.ext) r_r_Table) rfl) rfl ?_
  refine WL.val (Value.pointer (some ⟨b1, 0, none⟩)) _ (op_fieldAddr fd_26_0 rfl) rfl ?_
  refine WL.val v_r_Table _ (op_load one_22 rfl (BoxAt.cell (BoxAt.lift hS8.ext hx6) rfl)) rfl ?_
  have hr10 := inR_len (Ty.lift _ (Ext.trans hE7 hS8.ext) r_r_Table)
  refine WL.val (Value.int .i64 ((r_Table).length : Int)) _ (op_lenL sl_22 (Ty.lift _ (Ext.trans hE7 hS8.ext) r_r_Table) rfl) rfl ?_
  obtain ⟨x11, hx12, h⟩ := bs h
  refine WL.call _ (op_call fn_48 (args2 rfl rfl)) (c_impl_zeros hr9 hr10 hx12) rfl ?_
  rintro u13 wd14 ⟨_, rfl, he15, hs16⟩
  have hS17 := St.join hS8 he15 hs16
  replace hS17 : St wd2 wd14 [(Ty.sl (Ty.sl (Ty.i .i64))).at u13 x11] := hS17
  refine WL.val u13 _ (op_assign rfl) rfl ?_
  refine WL.nil ?_
  refine W.seq (W.seq (W.region ?_))
  refine WL.val (Value.pointer (some ⟨b1, 0, none⟩)) _ (op_fieldAddr fd_26_0 rfl) rfl ?_
  refine WL.val v_r_Table _ (op_load one_22 rfl (BoxAt.cell (BoxAt.lift hS17.ext hx6) rfl)) rfl ?_
  have hr18 := inR_len (Ty.lift _ (Ext.trans hE7 hS17.ext) r_r_Table)
  refine WL.val (Value.int .i64 ((r_Table).length : Int)) _ (op_lenL sl_22 (Ty.lift _ (Ext.trans hE7 hS17.ext) r_r_Table) rfl) rfl ?_
  refine WL.val (Value.int .i64 (0 : Int)) _ (op_move rfl) rfl ?_
  refine WL.nil ?_
  show W _ _ _ _ _ _
  obtain ⟨res19, hres20, h⟩ := bs h
  refine W.blockLoop (fun fq wq => ∃ s, res19 = Res.fin s ∧ fq 3 = u13 ∧ St wd2 wq [(Ty.sl (Ty.sl (Ty.i .i64))).at u13 s]) ?_ ?_
  · refine W.forN (fun k (s : (List (List Int))) fq wq => fq 3 = u13 ∧ fq 18 = v_r_Table ∧ fq 19 = (Value.int .i64 ((r_Table).length : Int)) ∧ fq 20 = Value.int .i64 (k : Int) ∧ InR .i64 (k : Int) ∧ St wd2 wq [(Ty.sl (Ty.sl (Ty.i .i64))).at u13 s]) hres20 ⟨rfl, rfl, rfl, rfl, (inL rfl), hS17⟩ ?_ ?_
    · intro k21 x22 ct23 f24 wd25 hk26 hb27 hI28 hbrk29 hret30
      replace hI28 : f24 3 = u13 ∧ f24 18 = v_r_Table ∧ f24 19 = (Value.int .i64 ((r_Table).length : Int)) ∧ f24 20 = Value.int .i64 (k21 : Int) ∧ InR .i64 (k21 : Int) ∧ St wd2 wd25 [(Ty.sl (Ty.sl (Ty.i .i64))).at u13 x22] := hI28
      replace hb27 : p_impl_Ring_supports_L1 r_Table k21 x22 = some ct23 := hb27
      unfold p_impl_Ring_supports_L1 at hb27
      obtain ⟨hf31, hf32, hf33, hf34, hr35, hS36⟩ := hI28
      refine W.seq (W.region ?_)
      refine WL.val (Value.bool (decide ((k21 : Int) < ((r_Table).length : Int)))) _ (op_lss hf34 hf33) rfl ?_
      have hl37 : (k21 : Int) < ((r_Table).length : Int) := by omega
      refine WL.nil ?_
      refine W.seq ?_
      refine W.condT (decide ((k21 : Int) < ((r_Table).length : Int))) rfl (decide_eq_true hl37) ?_
      refine W.skip ?_
      refine W.seq ?_
      refine W.block ?_
      refine W.seq (W.region ?_)
      refine WL.val (Value.int .i64 (k21 : Int)) _ (op_move hf34) rfl ?_
      obtain ⟨x39, hx42, hb27⟩ := bs hb27
      obtain ⟨ha40, hb41, hx42⟩ := idx_some hx42
      refine WL.val (Value.pointer (some (elA v_r_Table ((k21 : Int)).toNat))) _ (op_idx sl_22 (Ty.lift _ (Ext.trans hE7 hS36.ext) r_r_Table) hf32 hf34 ha40 hb41) rfl ?_
      obtain ⟨u43, hc44, hr45⟩ := repSl.el r_r_Table hx42
      refine WL.val u43 _ (op_load one_41 rfl (Ext.cell (Ext.trans hE7 hS36.ext) hc44)) rfl ?_
      refine WL.val (Value.int .i64 (k21 : Int)) _ (op_assign rfl) rfl ?_
      refine WL.val u43 _ (op_assign rfl) rfl ?_
      refine WL.nil ?_
      refine W.seq (W.region ?_)
      refine WL.val u43 _ (op_move rfl) rfl ?_
      have hr46 := inR_len (Ty.lift _ (Ext.trans hE7 hS36.ext) hr45)
      refine WL.val (Value.int .i64 ((x39).length : Int)) _ (op_lenL sl_41 (Ty.lift _ (Ext.trans hE7 hS36.ext) hr45) rfl) rfl ?_
      refine WL.val (Value.int .i64 (0 : Int)) _ (op_move rfl) rfl ?_
      refine WL.nil ?_
      show W _ _ _ _ _ _
      obtain ⟨res47, hres48, hb27⟩ := bs hb27
      refine W.blockLoop (fun fq wq => ∃ s, res47 = Res.fin s ∧ fq 3 = u13 ∧ fq 18 = v_r_Table ∧ fq 19 = (Value.int .i64 ((r_Table).length : Int)) ∧ fq 20 = (Value.int .i64 (k21 : Int)) ∧ St wd2 wq [(Ty.sl (Ty.sl (Ty.i .i64))).at u13 s]) ?_ ?_
      · refine W.forN (fun k (s : (List (List Int))) fq wq => fq 3 = u13 ∧ fq 4 = (Value.int .i64 (k21 : Int)) ∧ fq 18 = v_r_Table ∧ fq 19 = (Value.int .i64 ((r_Table).length : Int)) ∧ fq 20 = (Value.int .i64 (k21 : Int)) ∧ fq 25 = u43 ∧ fq 26 = (Value.int .i64 ((x39).length : Int)) ∧ fq 27 = Value.int .i64 (k : Int) ∧ InR .i64 (k : Int) ∧ St wd2 wq [(Ty.sl (Ty.sl (Ty.i .i64))).at u13 s]) hres48 ⟨hf31, rfl, hf32, hf33, hf34, rfl, rfl, rfl, (inL rfl), hS36⟩ ?_ ?_
        · intro k49 x50 ct51 f52 wd53 hk54 hb55 hI56 hbrk57 hret58
          replace hI56 : f52 3 = u13 ∧ f52 4 = (Value.int .i64 (k21 : Int)) ∧ f52 18 = v_r_Table ∧ f52 19 = (Value.int .i64 ((r_Table).length : Int)) ∧ f52 20 = (Value.int .i64 (k21 : Int)) ∧ f52 25 = u43 ∧ f52 26 = (Value.int .i64 ((x39).length : Int)) ∧ f52 27 = Value.int .i64 (k49 : Int) ∧ InR .i64 (k49 : Int) ∧ St wd2 wd53 [(Ty.sl (Ty.sl (Ty.i .i64))).at u13 x50] := hI56
          replace hb55 : p_impl_Ring_supports_L2 x39 k21 k49 x50 = some ct51 := hb55
          unfold p_impl_Ring_supports_L2 at hb55
          obtain ⟨hf59, hf60, hf61, hf62, hf63, hf64, hf65, hf66, hr67, hS68⟩ := hI56
          refine W.seq (W.region ?_)
          refine WL.val (Value.bool (decide ((k49 : Int) < ((x39).length : Int)))) _ (op_lss hf66 hf65) rfl ?_
          have hl69 : (k49 : Int) < ((x39).length : Int) := by omega
          refine WL.nil ?_
          refine W.seq ?_
          refine W.condT (decide ((k49 : Int) < ((x39).length : Int))) rfl (decide_eq_true hl69) ?_
          refine W.skip ?_
          refine W.seq ?_
          refine W.block ?_
          refine W.seq (W.region ?_)
          refine WL.val (Value.int .i64 (k49 : Int)) _ (op_move hf66) rfl ?_
          obtain ⟨x71, hx74, hb55⟩ := bs hb55
          obtain ⟨ha72, hb73, hx74⟩ := idx_some hx74
          refine WL.val (Value.pointer (some (elA u43 ((k49 : Int)).toNat))) _ (op_idx sl_41 (Ty.lift _ (Ext.trans hE7 hS68.ext) hr45) hf64 hf66 ha72 hb73) rfl ?_
          obtain ⟨u75, hc76, hr77⟩ := repSl.el hr45 hx74
          refine WL.val u75 _ (op_load one_33 rfl (Ext.cell (Ext.trans hE7 hS68.ext) hc76)) rfl ?_
          refine WL.val (Value.int .i64 (k49 : Int)) _ (op_assign rfl) rfl ?_
          refine WL.val u75 _ (op_assign rfl) rfl ?_
          refine WL.nil ?_
          refine W.seq (W.region ?_)
          refine WL.val u75 _ (op_move rfl) rfl ?_
          have hr78 := inR_len (Ty.lift _ (Ext.trans hE7 hS68.ext) hr77)
          refine WL.val (Value.int .i64 ((x71).length : Int)) _ (op_lenL sl_33 (Ty.lift _ (Ext.trans hE7 hS68.ext) hr77) rfl) rfl ?_
          refine WL.val (Value.int .i64 (0 : Int)) _ (op_move rfl) rfl ?_
          refine WL.nil ?_
          show W _ _ _ _ _ _
          obtain ⟨res79, hres80, hb55⟩ := bs hb55
          refine W.blockLoop (fun fq wq => ∃ s, res79 = Res.fin s ∧ fq 3 = u13 ∧ fq 4 = (Value.int .i64 (k21 : Int)) ∧ fq 18 = v_r_Table ∧ fq 19 = (Value.int .i64 ((r_Table).length : Int)) ∧ fq 20 = (Value.int .i64 (k21 : Int)) ∧ fq 25 = u43 ∧ fq 26 = (Value.int .i64 ((x39).length : Int)) ∧ fq 27 = (Value.int .i64 (k49 : Int)) ∧ St wd2 wq [(Ty.sl (Ty.sl (Ty.i .i64))).at u13 s]) ?_ ?_
          · refine W.forN (fun k (s : (List (List Int))) fq wq => fq 3 = u13 ∧ fq 4 = (Value.int .i64 (k21 : Int)) ∧ fq 6 = (Value.int .i64 (k49 : Int)) ∧ fq 18 = v_r_Table ∧ fq 19 = (Value.int .i64 ((r_Table).length : Int)) ∧ fq 20 = (Value.int .i64 (k21 : Int)) ∧ fq 25 = u43 ∧ fq 26 = (Value.int .i64 ((x39).length : Int)) ∧ fq 27 = (Value.int .i64 (k49 : Int)) ∧ fq 32 = u75 ∧ fq 33 = (Value.int .i64 ((x71).length : Int)) ∧ fq 34 = Value.int .i64 (k : Int) ∧ InR .i64 (k : Int) ∧ St wd2 wq [(Ty.sl (Ty.sl (Ty.i .i64))).at u13 s]) hres80 ⟨hf59, hf60, rfl, hf61, hf62, hf63, hf64, hf65, hf66, rfl, rfl, rfl, (inL rfl), hS68⟩ ?_ ?_
            · intro k81 x82 ct83 f84 wd85 hk86 hb87 hI88 hbrk89 hret90
              replace hI88 : f84 3 = u13 ∧ f84 4 = (Value.int .i64 (k21 : Int)) ∧ f84 6 = (Value.int .i64 (k49 : Int)) ∧ f84 18 = v_r_Table ∧ f84 19 = (Value.int .i64 ((r_Table).length : Int)) ∧ f84 20 = (Value.int .i64 (k21 : Int)) ∧ f84 25 = u43 ∧ f84 26 = (Value.int .i64 ((x39).length : Int)) ∧ f84 27 = (Value.int .i64 (k49 : Int)) ∧ f84 32 = u75 ∧ f84 33 = (Value.int .i64 ((x71).length : Int)) ∧ f84 34 = Value.int .i64 (k81 : Int) ∧ InR .i64 (k81 : Int) ∧ St wd2 wd85 [(Ty.sl (Ty.sl (Ty.i .i64))).at u13 x82] := hI88
              replace hb87 : p_impl_Ring_supports_L3 x71 k21 k49 k81 x82 = some ct83 := hb87
              unfold p_impl_Ring_supports_L3 at hb87
              obtain ⟨hf91, hf92, hf93, hf94, hf95, hf96, hf97, hf98, hf99, hf100, hf101, hf102, hr103, hS104⟩ := hI88
              refine W.seq (W.region ?_)
              refine WL.val (Value.bool (decide ((k81 : Int) < ((x71).length : Int)))) _ (op_lss hf102 hf101) rfl ?_
              have hl105 : (k81 : Int) < ((x71).length : Int) := by omega
              refine WL.nil ?_
              refine W.seq ?_
              refine W.condT (decide ((k81 : Int) < ((x71).length : Int))) rfl (decide_eq_true hl105) ?_
              refine W.skip ?_
              refine W.seq ?_
              refine W.block ?_
              refine W.seq (W.region ?_)
              refine WL.val (Value.int .i64 (k81 : Int)) _ (op_move hf102) rfl ?_
              obtain ⟨x107, hx110, hb87⟩ := bs hb87
              obtain ⟨ha108, hb109, hx110⟩ := idx_some hx110
              refine WL.val (Value.pointer (some (elA u75 ((k81 : Int)).toNat))) _ (op_idx sl_33 (Ty.lift _ (Ext.trans hE7 hS104.ext) hr77) hf100 hf102 ha108 hb109) rfl ?_
              obtain ⟨u111, hc112, hr113⟩ := repSl.el hr77 hx110
              obtain ⟨rfl, hr113⟩ := hr113
              refine WL.val (Value.int .i64 x107) _ (op_load one_2 rfl (Ext.cell (Ext.trans hE7 hS104.ext) hc112)) rfl ?_
              refine WL.val (Value.int .i64 (k81 : Int)) _ (op_assign rfl) rfl ?_
              refine WL.val (Value.int .i64 x107) _ (op_assign rfl) rfl ?_
              refine WL.nil ?_
              refine W.seq (W.region ?_)
              refine WL.val (Value.int .i64 x107) _ (op_move rfl) rfl ?_
              refine WL.val (Value.bool (decide (x107 > (0 : Int)))) _ (op_gtr rfl rfl) rfl ?_
              refine WL.nil ?_
              show W _ _ _ _ _ _
              obtain ⟨x114, hj115, hb87⟩ := bs hb87
              refine W.cutCode (fun fq wq => fq 3 = u13 ∧ fq 4 = (Value.int .i64 (k21 : Int)) ∧ fq 6 = (Value.int .i64 (k49 : Int)) ∧ fq 18 = v_r_Table ∧ fq 19 = (Value.int .i64 ((r_Table).length : Int)) ∧ fq 20 = (Value.int .i64 (k21 : Int)) ∧ fq 25 = u43 ∧ fq 26 = (Value.int .i64 ((x39).length : Int)) ∧ fq 27 = (Value.int .i64 (k49 : Int)) ∧ fq 32 = u75 ∧ fq 33 = (Value.int .i64 ((x71).length : Int)) ∧ fq 34 = (Value.int .i64 (k81 : Int)) ∧ St wd2 wq [(Ty.sl (Ty.sl (Ty.i .i64))).at u13 x114]) ?_ ?_
              · refine W.cond (decide (x107 > (0 : Int))) rfl (fun hc116 => ?_) (fun hc116 => ?_)
                · replace hj115 := ip hj115 hc116
                  obtain ⟨x146, hx149, hj115⟩ := bs hj115
                  obtain ⟨ha147, hb148, hx149⟩ := idx_some hx149
                  obtain ⟨u160, hc161, hr162⟩ := repSl.el (St.rep (t := (Ty.sl (Ty.sl (Ty.i .i64)))) hS104 0 rfl) hx149
                  obtain ⟨x185, hx188, hj115⟩ := bs hj115
                  obtain ⟨ha186, hb187, hx188⟩ := idx_some hx188
                  obtain ⟨u199, hc200, hr201⟩ := repSl.el hr162 hx188
                  obtain ⟨rfl, hr201⟩ := hr201
                  obtain ⟨x220, hz221, hj115⟩ := bs hj115
                  obtain ⟨h0222, hz221⟩ := shlI_some hz221
                  refine W.drawR mixo 9 [] [fun _ v _ _ => v = u13, fun _ v _ _ => v = (Value.int .i64 (k21 : Int)) ∧ InR .i64 (k21 : Int), fun _ v _ _ => v = (Value.pointer (some (elA u13 ((k21 : Int)).toNat))), fun _ v _ _ => v = u160, fun _ v _ _ => v = (Value.int .i64 (k49 : Int)) ∧ InR .i64 (k49 : Int), fun _ v _ _ => v = (Value.pointer (some (elA u160 ((k49 : Int)).toNat))), fun _ v _ _ => v = (Value.int .i64 x185) ∧ InR .i64 x185, fun _ v _ _ => v = (Value.int .i64 (k81 : Int)) ∧ InR .i64 (k81 : Int), fun _ v _ _ => v = (Value.int .i64 x220) ∧ InR .i64 x220] (by kernel_rfl) (by kernel_rfl) ⟨pk, pk, pk, pk, pk, pk, pk, pk, pk, trivial⟩ ⟨?_, ?_, ?_, ?_, ?_, ?_, ?_, ?_, ?_, trivial⟩ ?_
                  · refine ObX.op rfl fun f117 wd118 he119 hout120 hphi121 => ?_
                    have e123 : f117 3 = u13 := (hout120 3 rfl).trans hf91
                    exact OpX.val u13 wd118 rfl (op_move e123) (Ext.refl _) rfl
                  · refine ObX.op rfl fun f124 wd125 he126 hout127 hphi128 => ?_
                    have e130 : f124 4 = (Value.int .i64 (k21 : Int)) := (hout127 4 rfl).trans hf92
                    exact OpX.val (Value.int .i64 (k21 : Int)) wd125 rfl (op_move e130) (Ext.refl _) ⟨rfl, hr35⟩
                  · refine ObX.op rfl fun f131 wd132 he133 hout134 hphi135 => ?_
                    have hS136 := St.extend hS104 he133
                    obtain ⟨S137, hS138, hf139⟩ := hphi135 0 41 _ rfl rfl rfl
                    have e140 : f131 41 = u13 := hf139
                    obtain ⟨S141, hS142, hf143⟩ := hphi135 1 42 _ rfl rfl rfl
                    obtain ⟨e144, hr145⟩ := hf143
                    exact OpX.val (Value.pointer (some (elA u13 ((k21 : Int)).toNat))) wd132 rfl (op_idx sl_41 (St.rep (t := (Ty.sl (Ty.sl (Ty.i .i64)))) hS136 0 rfl) e140 e144 ha147 hb148) (Ext.refl _) rfl
                  · refine ObX.op rfl fun f150 wd151 he152 hout153 hphi154 => ?_
                    obtain ⟨S156, hS157, hf158⟩ := hphi154 2 43 _ rfl rfl rfl
                    have e159 : f150 43 = (Value.pointer (some (elA u13 ((k21 : Int)).toNat))) := hf158
                    exact OpX.val u160 wd151 rfl (op_load one_33 e159 (Ext.cell he152 hc161)) (Ext.refl _) rfl
                  · refine ObX.op rfl fun f163 wd164 he165 hout166 hphi167 => ?_
                    have e169 : f163 6 = (Value.int .i64 (k49 : Int)) := (hout166 6 rfl).trans hf93
                    exact OpX.val (Value.int .i64 (k49 : Int)) wd164 rfl (op_move e169) (Ext.refl _) ⟨rfl, hr67⟩
                  · refine ObX.op rfl fun f170 wd171 he172 hout173 hphi174 => ?_
                    obtain ⟨S176, hS177, hf178⟩ := hphi174 3 44 _ rfl rfl rfl
                    have e179 : f170 44 = u160 := hf178
                    obtain ⟨S180, hS181, hf182⟩ := hphi174 4 45 _ rfl rfl rfl
                    obtain ⟨e183, hr184⟩ := hf182
                    exact OpX.val (Value.pointer (some (elA u160 ((k49 : Int)).toNat))) wd171 rfl (op_idx sl_33 (Ty.lift _ he172 hr162) e179 e183 ha186 hb187) (Ext.refl _) rfl
                  · refine ObX.op rfl fun f189 wd190 he191 hout192 hphi193 => ?_
                    obtain ⟨S195, hS196, hf197⟩ := hphi193 5 46 _ rfl rfl rfl
                    have e198 : f189 46 = (Value.pointer (some (elA u160 ((k49 : Int)).toNat))) := hf197
                    exact OpX.val (Value.int .i64 x185) wd190 rfl (op_load one_2 e198 (Ext.cell he191 hc200)) (Ext.refl _) ⟨rfl, hr201⟩
                  · refine ObX.op rfl fun f202 wd203 he204 hout205 hphi206 => ?_
                    have e208 : f202 8 = (Value.int .i64 (k81 : Int)) := (hout205 8 rfl).trans rfl
                    exact OpX.val (Value.int .i64 (k81 : Int)) wd203 rfl (op_move e208) (Ext.refl _) ⟨rfl, hr103⟩
                  · refine ObX.op rfl fun f209 wd210 he211 hout212 hphi213 => ?_
                    obtain ⟨S215, hS216, hf217⟩ := hphi213 7 48 _ rfl rfl rfl
                    obtain ⟨e218, hr219⟩ := hf217
                    have hr223 : InR .i64 x220 := by rw [hz221]; exact inR_wrap _ _
                    exact OpX.val (Value.int .i64 x220) wd210 rfl (by rw [hz221]; exact op_shl rfl e218 h0222) (Ext.refl _) ⟨rfl, hr223⟩
                  · intro f224 wd225 Ss226 he227 hout228 hSn229 hSd230 hphi231
                    show WL _ _ _ _ _ _ _
                    have hS232 := St.extend hS104 he227
                    have e233 : f224 44 = u160 := hphi231 3 44 _ (by decide) rfl rfl
                    obtain ⟨e234, hr235⟩ := hphi231 4 45 _ (by decide) rfl rfl
                    obtain ⟨e236, hr237⟩ := hphi231 6 47 _ (by decide) rfl rfl
                    obtain ⟨e238, hr239⟩ := hphi231 8 49 _ (by decide) rfl rfl
                    have e240 : f224 3 = u13 := (hout228 3 rfl).trans hf91
                    have e241 : f224 4 = (Value.int .i64 (k21 : Int)) := (hout228 4 rfl).trans hf92
                    have e242 : f224 6 = (Value.int .i64 (k49 : Int)) := (hout228 6 rfl).trans hf93
                    have e243 : f224 18 = v_r_Table := (hout228 18 rfl).trans hf94
                    have e244 : f224 19 = (Value.int .i64 ((r_Table).length : Int)) := (hout228 19 rfl).trans hf95
                    have e245 : f224 20 = (Value.int .i64 (k21 : Int)) := (hout228 20 rfl).trans hf96
                    have e246 : f224 25 = u43 := (hout228 25 rfl).trans hf97
                    have e247 : f224 26 = (Value.int .i64 ((x39).length : Int)) := (hout228 26 rfl).trans hf98
                    have e248 : f224 27 = (Value.int .i64 (k49 : Int)) := (hout228 27 rfl).trans hf99
                    have e249 : f224 32 = u75 := (hout228 32 rfl).trans hf100
                    have e250 : f224 33 = (Value.int .i64 ((x71).length : Int)) := (hout228 33 rfl).trans hf101
                    have e251 : f224 34 = (Value.int .i64 (k81 : Int)) := (hout228 34 rfl).trans hf102
                    refine WL.val (Value.int .i64 (orI .i64 x185 x220)) _ (op_or e236 e238) rfl ?_
                    refine WL.val (Value.pointer (some (elA u160 ((k49 : Int)).toNat))) _ (op_idx sl_33 (Ty.lift _ he227 hr162) e233 e234 ha186 hb187) rfl ?_
                    refine WL.storeEl2 (flat_i .i64) hS232 (k := 0) rfl sz_2 hx149 (Ext.cell he227 hc161) rfl rfl (lt_of_idx ha186 hb187) ⟨rfl, (inR_wrap _ _)⟩ ?_
                    intro wd252 hS253
                    replace hS253 : St wd2 wd252 [(Ty.sl (Ty.sl (Ty.i .i64))).at u13 ((x82).set ((k21 : Int)).toNat ((x146).set ((k49 : Int)).toNat (orI .i64 x185 x220)))] := hS253
                    refine WL.nil ?_
                    obtain rfl := Option.some.inj hj115
                    exact ⟨e240, e241, e242, e243, e244, e245, e246, e247, e248, e249, e250, e251, hS253⟩
                · replace hj115 := inegb hj115 hc116
                  refine W.skip ?_
                  obtain rfl := Option.some.inj hj115
                  exact ⟨hf91, hf92, hf93, hf94, hf95, hf96, hf97, hf98, hf99, hf100, hf101, hf102, hS104⟩
              · intro f254 wd255 hq256
                obtain ⟨hf257, hf258, hf259, hf260, hf261, hf262, hf263, hf264, hf265, hf266, hf267, hf268, hS269⟩ := hq256
                show W _ _ _ _ _ _
                refine W.region ?_
                refine WL.val (Value.int .i64 (w64 ((k81 : Int) + (1 : Int)))) _ (op_add hf268 rfl) rfl ?_
                refine WL.val (Value.int .i64 (w64 ((k81 : Int) + (1 : Int)))) _ (op_move rfl) rfl ?_
                refine WL.nil ?_
                obtain rfl := Option.some.inj hb87
                show ∃ s, _ = Ctl.next s ∧ _
                exact ⟨_, rfl, hf257, hf258, hf259, hf260, hf261, hf262, hf263, hf264, hf265, hf266, hf267, (ctr_next hl105 hr78), (ctr_rng hl105 hr78), hS269⟩
            · intro x276 f271 wd272 hs273 hI274
              replace hI274 : f271 3 = u13 ∧ f271 4 = (Value.int .i64 (k21 : Int)) ∧ f271 6 = (Value.int .i64 (k49 : Int)) ∧ f271 18 = v_r_Table ∧ f271 19 = (Value.int .i64 ((r_Table).length : Int)) ∧ f271 20 = (Value.int .i64 (k21 : Int)) ∧ f271 25 = u43 ∧ f271 26 = (Value.int .i64 ((x39).length : Int)) ∧ f271 27 = (Value.int .i64 (k49 : Int)) ∧ f271 32 = u75 ∧ f271 33 = (Value.int .i64 ((x71).length : Int)) ∧ f271 34 = Value.int .i64 (((x71).length : Nat) : Int) ∧ InR .i64 (((x71).length : Nat) : Int) ∧ St wd2 wd272 [(Ty.sl (Ty.sl (Ty.i .i64))).at u13 x276] := hI274
              obtain ⟨hf277, hf278, hf279, hf280, hf281, hf282, hf283, hf284, hf285, hf286, hf287, hf288, hr289, hS290⟩ := hI274
              refine W.seq (W.region ?_)
              refine WL.val (Value.bool (decide ((((x71).length : Nat) : Int) < ((x71).length : Int)))) _ (op_lss hf288 hf287) rfl ?_
              have hl291 : ¬ (((x71).length : Nat) : Int) < ((x71).length : Int) := by omega
              refine WL.nil ?_
              refine W.seq ?_
              refine W.condF (decide ((((x71).length : Nat) : Int) < ((x71).length : Int))) rfl (decide_eq_false hl291) ?_
              refine W.exit ?_
              show _ = _ ∧ _
              exact ⟨rfl, _, hs273, hf277, hf278, hf280, hf281, hf282, hf283, hf284, hf285, hS290⟩
          · rintro f292 wd293 ⟨x296, rfl, hq294⟩
            replace hb55 := onRes_fin hb55
            replace hq294 : f292 3 = u13 ∧ f292 4 = (Value.int .i64 (k21 : Int)) ∧ f292 18 = v_r_Table ∧ f292 19 = (Value.int .i64 ((r_Table).length : Int)) ∧ f292 20 = (Value.int .i64 (k21 : Int)) ∧ f292 25 = u43 ∧ f292 26 = (Value.int .i64 ((x39).length : Int)) ∧ f292 27 = (Value.int .i64 (k49 : Int)) ∧ St wd2 wd293 [(Ty.sl (Ty.sl (Ty.i .i64))).at u13 x296] := hq294
            obtain ⟨hf297, hf298, hf299, hf300, hf301, hf302, hf303, hf304, hS305⟩ := hq294
            show W _ _ _ _ _ _
            refine W.region ?_
            refine WL.val (Value.int .i64 (w64 ((k49 : Int) + (1 : Int)))) _ (op_add hf304 rfl) rfl ?_
            refine WL.val (Value.int .i64 (w64 ((k49 : Int) + (1 : Int)))) _ (op_move rfl) rfl ?_
            refine WL.nil ?_
            obtain rfl := Option.some.inj hb55
            show ∃ s, _ = Ctl.next s ∧ _
            exact ⟨_, rfl, hf297, hf298, hf299, hf300, hf301, hf302, hf303, (ctr_next hl69 hr46), (ctr_rng hl69 hr46), hS305⟩
        · intro x313 f308 wd309 hs310 hI311
          replace hI311 : f308 3 = u13 ∧ f308 4 = (Value.int .i64 (k21 : Int)) ∧ f308 18 = v_r_Table ∧ f308 19 = (Value.int .i64 ((r_Table).length : Int)) ∧ f308 20 = (Value.int .i64 (k21 : Int)) ∧ f308 25 = u43 ∧ f308 26 = (Value.int .i64 ((x39).length : Int)) ∧ f308 27 = Value.int .i64 (((x39).length : Nat) : Int) ∧ InR .i64 (((x39).length : Nat) : Int) ∧ St wd2 wd309 [(Ty.sl (Ty.sl (Ty.i .i64))).at u13 x313] := hI311
          obtain ⟨hf314, hf315, hf316, hf317, hf318, hf319, hf320, hf321, hr322, hS323⟩ := hI311
          refine W.seq (W.region ?_)
          refine WL.val (Value.bool (decide ((((x39).length : Nat) : Int) < ((x39).length : Int)))) _ (op_lss hf321 hf320) rfl ?_
          have hl324 : ¬ (((x39).length : Nat) : Int) < ((x39).length : Int) := by omega
          refine WL.nil ?_
          refine W.seq ?_
          refine W.condF (decide ((((x39).length : Nat) : Int) < ((x39).length : Int))) rfl (decide_eq_false hl324) ?_
          refine W.exit ?_
          show _ = _ ∧ _
          exact ⟨rfl, _, hs310, hf314, hf316, hf317, hf318, hS323⟩
      · rintro f325 wd326 ⟨x329, rfl, hq327⟩
        replace hb27 := onRes_fin hb27
        replace hq327 : f325 3 = u13 ∧ f325 18 = v_r_Table ∧ f325 19 = (Value.int .i64 ((r_Table).length : Int)) ∧ f325 20 = (Value.int .i64 (k21 : Int)) ∧ St wd2 wd326 [(Ty.sl (Ty.sl (Ty.i .i64))).at u13 x329] := hq327
        obtain ⟨hf330, hf331, hf332, hf333, hS334⟩ := hq327
        show W _ _ _ _ _ _
        refine W.region ?_
        refine WL.val (Value.int .i64 (w64 ((k21 : Int) + (1 : Int)))) _ (op_add hf333 rfl) rfl ?_
        refine WL.val (Value.int .i64 (w64 ((k21 : Int) + (1 : Int)))) _ (op_move rfl) rfl ?_
        refine WL.nil ?_
        obtain rfl := Option.some.inj hb27
        show ∃ s, _ = Ctl.next s ∧ _
        exact ⟨_, rfl, hf330, hf331, hf332, (ctr_next hl37 hr18), (ctr_rng hl37 hr18), hS334⟩
    · intro x342 f337 wd338 hs339 hI340
      replace hI340 : f337 3 = u13 ∧ f337 18 = v_r_Table ∧ f337 19 = (Value.int .i64 ((r_Table).length : Int)) ∧ f337 20 = Value.int .i64 (((r_Table).length : Nat) : Int) ∧ InR .i64 (((r_Table).length : Nat) : Int) ∧ St wd2 wd338 [(Ty.sl (Ty.sl (Ty.i .i64))).at u13 x342] := hI340
      obtain ⟨hf343, hf344, hf345, hf346, hr347, hS348⟩ := hI340
      refine W.seq (W.region ?_)
      refine WL.val (Value.bool (decide ((((r_Table).length : Nat) : Int) < ((r_Table).length : Int)))) _ (op_lss hf346 hf345) rfl ?_
      have hl349 : ¬ (((r_Table).length : Nat) : Int) < ((r_Table).length : Int) := by omega
      refine WL.nil ?_
      refine W.seq ?_
      refine W.condF (decide ((((r_Table).length : Nat) : Int) < ((r_Table).length : Int))) rfl (decide_eq_false hl349) ?_
      refine W.exit ?_
      show _ = _ ∧ _
      exact ⟨rfl, _, hs339, hf343, hS348⟩
  · rintro f350 wd351 ⟨x354, rfl, hq352⟩
    replace h := onRes_fin h
    replace hq352 : f350 3 = u13 ∧ St wd2 wd351 [(Ty.sl (Ty.sl (Ty.i .i64))).at u13 x354] := hq352
    obtain ⟨hf355, hS356⟩ := hq352
    refine W.seq (W.region ?_)
    refine WL.val u13 _ (op_move hf355) rfl ?_
    refine WL.val u13 _ (op_assign rfl) rfl ?_
    refine WL.nil ?_
    refine W.ret ?_
    obtain rfl := Option.some.inj h
    show FinP _ _ _ _ _ _ _
    exact FinP.ret _ (res1 rfl rfl) ⟨u13, rfl, (Ext.trans hE7 hS356.ext), (St.out (St.pick hS356 [0] rfl) (hE7))⟩

theorem c_math_bits_TrailingZeros64 {w : World} {x : Int} (tb : TabAt w) (r_x : InR .u64 x) {res : Int} (h : p_math_bits_TrailingZeros64 x  = some res) :
    Ret Tryd.prog 72 #[(Value.int .u64 x)] w (fun v w' => v = Value.int .i64 res ∧ InR .i64 res ∧ Ext w w') := by
  unfold p_math_bits_TrailingZeros64 at h
  have hS0 : St w w [] := St.start w
  refine Ret.start (fn := Tryd.f72) Tryd.func72 rfl 14 rfl rfl ?_
  refine W.seq (W.region ?_)
  refine WL.val (Value.int .i64 (0 : Int)) _ (op_assign rfl) rfl ?_
  refine WL.nil ?_
  refine W.seq (W.seq (W.region ?_))
  refine WL.val (Value.int .u64 x) _ (op_move rfl) rfl ?_
  refine WL.val (Value.bool (x == (0 : Int))) _ (op_eql rfl rfl) rfl ?_
  refine WL.nil ?_
  refine W.cond (x == (0 : Int)) rfl (fun hc1 => ?_) (fun hc1 => ?_)
  · replace h := (Option.some.inj h).symm.trans (tz_pos hc1)
    refine W.seq (W.region ?_)
    refine WL.val (Value.int .i64 (64 : Int)) _ (op_assign rfl) rfl ?_
    refine WL.nil ?_
    refine W.ret ?_
    subst h
    show FinP _ _ _ _ _ _ _
    exact FinP.ret _ (res1 rfl rfl) ⟨rfl, (inL rfl), hS0.ext⟩
  · obtain ⟨hi0, hi1, hi2⟩ := tz_ix r_x (tz_ne hc1)
    replace h := (Option.some.inj h).symm.trans (tz_neg r_x hc1)
    refine W.skip ?_
    refine W.seq (W.region ?_)
    refine WL.val (Value.int .u64 x) _ (op_move rfl) rfl ?_
    refine WL.val (Value.int .u64 x) _ (op_move rfl) rfl ?_
    refine WL.val (Value.int .u64 (IntKind.u64.wrap (0 - x))) _ (op_neg rfl) rfl ?_
    refine WL.val (Value.int .u64 (andI .u64 x (IntKind.u64.wrap (0 - x)))) _ (op_and rfl rfl) rfl ?_
    refine WL.val (Value.int .u64 (IntKind.u64.wrap ((andI .u64 x (IntKind.u64.wrap (0 - x))) * (285870213051353865 : Int)))) _ (op_mul rfl rfl) rfl ?_
    refine WL.val (Value.int .u64 (((IntKind.u64.wrap ((andI .u64 x (IntKind.u64.wrap (0 - x))) * (285870213051353865 : Int)))).fdiv (2 ^ 58))) _ (op_shr (b := 58) rfl rfl (by decide)) rfl ?_
    refine WL.val (Value.pointer (some ⟨0, (tzIx x).toNat, none⟩)) _ (op_indexArr (k := .u64) (j := tzIx x) ay_85 rfl rfl hi0 hi1) rfl ?_
    refine WL.val (Value.int .u8 (tzTab.getD (tzIx x).toNat 0)) _ (op_load one_5 rfl (tb _ (tz_lt r_x hc1))) rfl ?_
    refine WL.val (Value.int .i64 (w64 (tzTab.getD (tzIx x).toNat 0))) _ (op_convert rfl it_5 it_3) rfl ?_
    refine WL.val (Value.int .i64 (w64 (tzTab.getD (tzIx x).toNat 0))) _ (op_assign rfl) rfl ?_
    refine WL.nil ?_
    refine W.ret ?_
    subst h
    show FinP _ _ _ _ _ _ _
    exact FinP.ret _ (res1 rfl rfl) ⟨rfl, (inR_wrap _ _), hS0.ext⟩

theorem c_impl_labelsIn {w : World} {set : Int} (tb : TabAt w) (r_set : InR .i64 set) {res : (List Int)} (h : p_impl_labelsIn set  = some res) :
    Ret Tryd.prog 49 #[(Value.int .i64 set)] w (fun v w' => ∃ (u0 : Value), v = u0 ∧ Ext w w' ∧ Sep w.heap.size w' [(Ty.sl (Ty.i .i64)).at u0 res]) := by
  unfold p_impl_labelsIn at h
  have hS0 : St w w [] := St.start w
  refine Ret.start (fn := Tryd.f49) Tryd.func49 rfl 18 rfl rfl ?_
  refine W.seq (W.region ?_)
  refine WL.val (Value.slice none 0 0) _ (op_assign rfl) rfl ?_
  refine WL.nil ?_
  refine W.seq (W.region ?_)
  refine WL.lit0 (t := (Ty.i .i64)) hS0 sl_61 rfl rfl ?_
  intro u1 wd2 hS3 he4
  replace hS3 : St w wd2 [(Ty.sl (Ty.i .i64)).at u1 ([] : (List Int))] := hS3
  refine WL.val u1 _ (op_assign rfl) rfl ?_
  refine WL.nil ?_
  refine W.seq ?_
  obtain ⟨res5, hres6, h⟩ := bs h
  refine W.blockLoop (fun fq wq => ∃ s, res5 = Res.fin s ∧ ∃ (uu0 : Value), fq 3 = uu0 ∧ St w wq [(Ty.sl (Ty.i .i64)).at uu0 s.1]) ?_ ?_
  · refine W.whileC (fun (s : (List Int) × Int) fq wq => ∃ (uu0 : Value), fq 0 = Value.int .i64 s.2 ∧ InR .i64 s.2 ∧ fq 3 = uu0 ∧ St w wq [(Ty.sl (Ty.i .i64)).at uu0 s.1]) hres6 ⟨u1, rfl, r_set, rfl, hS3⟩ ?_
    intro s42 ct10 f11 wd12 hb14 hI15 hbrk16 hret17
    obtain ⟨x8, x9⟩ := s42
    replace hI15 : ∃ (uu0 : Value), f11 0 = Value.int .i64 x9 ∧ InR .i64 x9 ∧ f11 3 = uu0 ∧ St w wd12 [(Ty.sl (Ty.i .i64)).at uu0 x8] := hI15
    replace hb14 : p_impl_labelsIn_L1   x8 x9 = some ct10 := hb14
    unfold p_impl_labelsIn_L1 at hb14
    obtain ⟨u18, hf19, hr20, hf21, hS22⟩ := hI15
    refine W.seq (W.seq (W.region ?_))
    refine WL.val (Value.int .i64 x9) _ (op_move hf19) rfl ?_
    refine WL.val (Value.bool (x9 != (0 : Int))) _ (op_neq rfl rfl) rfl ?_
    refine WL.nil ?_
    refine W.cond (x9 != (0 : Int)) rfl (fun hc23 => ?_) (fun hc23 => ?_)
    · replace hb14 := ip hb14 hc23
      refine W.skip ?_
      refine W.seq ?_
      refine W.block ?_
      refine W.region ?_
      refine WL.val u18 _ (op_move hf21) rfl ?_
      refine WL.val (Value.int .i64 x9) _ (op_move hf19) rfl ?_
      refine WL.val (Value.int .u64 (IntKind.u64.wrap x9)) _ (op_convert rfl it_2 it_69) rfl ?_
      obtain ⟨x25, hx26, hb14⟩ := bs hb14
      refine WL.call _ (op_call fn_72 (args1 rfl)) (c_math_bits_TrailingZeros64 (tb.ext hS22.ext) (inR_wrap _ _) hx26) rfl ?_
      rintro _ wd28 ⟨rfl, hr27, he29⟩
      have hS31 := St.extend hS22 he29
      replace hS31 : St w wd28 [(Ty.sl (Ty.i .i64)).at u18 x8] := hS31
      refine WL.litFlat (t := (Ty.i .i64)) (flat_i .i64) [(Value.int .i64 x25)] [x25] hS31 sl_61 rfl rfl (fillL rfl ⟨rfl, rfl, rfl, trivial⟩) rfl rfl (litL ⟨⟨rfl, hr27⟩, trivial⟩) rfl ?_
      intro u32 wd33 hS34 he35
      replace hS34 : St w wd33 [(Ty.sl (Ty.i .i64)).at u18 x8, (Ty.sl (Ty.i .i64)).at u32 ([x25] : (List Int))] := hS34
      obtain ⟨x36, hx37, hb14⟩ := bs hb14
      refine WL.append (flat_i .i64) hS34 (k := 0) rfl sl_61 rfl rfl rfl rfl (St.rep (t := (Ty.sl (Ty.i .i64))) hS34 1 rfl) hx37 rfl ?_
      intro u38 wd39 hS40 hz41
      replace hS40 : St w wd39 [(Ty.sl (Ty.i .i64)).at u38 x36, (Ty.sl (Ty.i .i64)).at u32 ([x25] : (List Int))] := hS40
      refine WL.val u38 _ (op_assign rfl) rfl ?_
      refine WL.nil ?_
      show W _ _ _ _ _ _
      refine W.region ?_
      refine WL.val (Value.int .i64 x9) _ (op_move hf19) rfl ?_
      refine WL.val (Value.int .i64 x9) _ (op_move hf19) rfl ?_
      refine WL.val (Value.int .i64 (w64 (x9 - (1 : Int)))) _ (op_sub rfl rfl) rfl ?_
      refine WL.val (Value.int .i64 (andI .i64 x9 (w64 (x9 - (1 : Int))))) _ (op_and rfl rfl) rfl ?_
      refine WL.val (Value.int .i64 (andI .i64 x9 (w64 (x9 - (1 : Int))))) _ (op_assign rfl) rfl ?_
      refine WL.nil ?_
      obtain rfl := Option.some.inj hb14
      show ∃ s, _ = Ctl.next s ∧ _
      exact ⟨_, rfl, u38, rfl, (inR_wrap _ _), rfl, (St.pick hS40 [0] rfl)⟩
    · replace hb14 := inegb hb14 hc23
      refine W.exit ?_
      obtain rfl := Option.some.inj hb14
      show _ = _ ∧ _
      exact ⟨rfl, _, hbrk16 _ rfl, u18, hf21, hS22⟩
  · rintro f43 wd44 ⟨s46, rfl, hq45⟩
    replace h := onRes_fin h
    obtain ⟨x47, x48⟩ := s46
    replace hq45 : ∃ (uu0 : Value), f43 3 = uu0 ∧ St w wd44 [(Ty.sl (Ty.i .i64)).at uu0 x47] := hq45
    replace h : (_ : Option _) = _ := h
    dsimp only at h
    obtain ⟨u49, hf50, hS51⟩ := hq45
    refine W.seq (W.region ?_)
    refine WL.val u49 _ (op_move hf50) rfl ?_
    refine WL.val u49 _ (op_assign rfl) rfl ?_
    refine WL.nil ?_
    refine W.ret ?_
    obtain rfl := Option.some.inj h
    show FinP _ _ _ _ _ _ _
    exact FinP.ret _ (res1 rfl rfl) ⟨u49, rfl, hS51.ext, (St.out (St.pick hS51 [0] rfl) (Ext.refl _))⟩

end Go.VG
