/- The walks, part 2: each Go function returns what its plain twin returns. No condition beyond what each names. -/
import Derived.Test.YtljnfhlfejggdaaGWalk1
set_option linter.all false
namespace Go.VG
open Go.Proofs
attribute [local irreducible] W WL Sep FinP

theorem c_slices_IndexFunc_Lint64_int64 {w : World} {s1 : (List Int)} {v_s1 : Value} {f1 : Int → Option Bool} {v_f1 : Value} (r_s1 : (Ty.sl (Ty.i .i64)).rep w v_s1 s1) (r_f1 : FnT_i_to_b Try.prog v_f1 w f1) {res : Int} (h : p_slices_IndexFunc_Lint64_int64 s1 f1  = some res) :
    Ret Try.prog 152 #[v_s1, v_f1] w (fun v w' => v = Value.int .i64 res ∧ InR .i64 res ∧ Ext w w') := by
  unfold p_slices_IndexFunc_Lint64_int64 at h
  have hS0 : St w w [] := St.start w
  have q_f1 := r_f1
  obtain ⟨g_f1, fst_f1, cap_f1, eq_f1, ok_f1, call_f1⟩ := q_f1
  subst eq_f1
  refine Ret.start (fn := Try.f152) Try.func152 rfl 19 rfl rfl ?_
  refine W.seq ?_
  refine W.region ?_
  refine WL.val (Value.int .i64 (0 : Int)) _ (op_assign rfl) rfl ?_
  refine WL.nil ?_
  show W _ _ _ _ _ _
  refine W.seq ?_
  refine W.seq ?_
  refine W.region ?_
  refine WL.val v_s1 _ (op_move rfl) rfl ?_
  have hr1 := inR_len (Ty.lift _ hS0.ext r_s1)
  refine WL.val (Value.int .i64 ((s1).length : Int)) _ (op_lenL sl_23 (Ty.lift _ hS0.ext r_s1) rfl) rfl ?_
  refine WL.val (Value.int .i64 (0 : Int)) _ (op_move rfl) rfl ?_
  refine WL.nil ?_
  show W _ _ _ _ _ _
  obtain ⟨res2, hres3, h⟩ := bs h
  refine W.blockLoop (fun fq wq => ∃ s, res2 = Res.fin s ∧ St w wq []) ?_ ?_
  · refine W.forN (fun k (s : Unit) fq wq => fq 0 = v_s1 ∧ fq 1 = (Value.func (.func g_f1) fst_f1 cap_f1) ∧ fq 7 = (Value.int .i64 ((s1).length : Int)) ∧ fq 8 = Value.int .i64 (k : Int) ∧ InR .i64 (k : Int) ∧ St w wq []) hres3 ⟨rfl, rfl, rfl, rfl, (inR_i64.2 (show (-9223372036854775808 : Int) ≤ 0 ∧ (0 : Int) ≤ 9223372036854775807 from by decide)), hS0⟩ ?_ ?_
    · intro k4 s36 ct5 f6 wd7 hk8 hb9 hI10 hbrk11 hret12
      obtain ⟨⟩ := s36
      replace hI10 : f6 0 = v_s1 ∧ f6 1 = (Value.func (.func g_f1) fst_f1 cap_f1) ∧ f6 7 = (Value.int .i64 ((s1).length : Int)) ∧ f6 8 = Value.int .i64 (k4 : Int) ∧ InR .i64 (k4 : Int) ∧ St w wd7 [] := hI10
      replace hb9 : p_slices_IndexFunc_Lint64_int64_L1 s1 f1 k4  = some ct5 := hb9
      unfold p_slices_IndexFunc_Lint64_int64_L1 at hb9
      obtain ⟨hf13, hf14, hf15, hf16, hr17, hS18⟩ := hI10
      refine W.seq ?_
      refine W.region ?_
      refine WL.val (Value.bool (decide ((k4 : Int) < ((s1).length : Int)))) _ (op_lss hf16 hf15) rfl ?_
      have hl19 : (k4 : Int) < ((s1).length : Int) := by omega
      refine WL.nil ?_
      show W _ _ _ _ _ _
      refine W.seq ?_
      refine W.condT (decide ((k4 : Int) < ((s1).length : Int))) rfl (decide_eq_true hl19) ?_
      refine W.skip ?_
      show W _ _ _ _ _ _
      refine W.seq ?_
      refine W.block ?_
      refine W.seq ?_
      refine W.region ?_
      refine WL.val (Value.int .i64 (k4 : Int)) _ (op_move hf16) rfl ?_
      refine WL.val (Value.int .i64 (k4 : Int)) _ (op_assign rfl) rfl ?_
      refine WL.nil ?_
      show W _ _ _ _ _ _
      refine W.seq ?_
      refine W.region ?_
      refine WL.val (Value.func (.func g_f1) fst_f1 cap_f1) _ (op_move hf14) rfl ?_
      refine WL.val v_s1 _ (op_move hf13) rfl ?_
      refine WL.val (Value.int .i64 (k4 : Int)) _ (op_move rfl) rfl ?_
      obtain ⟨x21, hx24, hb9⟩ := bs hb9
      obtain ⟨ha22, hb23, hx24⟩ := idx_some hx24
      refine WL.val (Value.pointer (some (elA v_s1 ((k4 : Int)).toNat))) _ (op_idx sl_23 (Ty.lift _ hS18.ext r_s1) rfl rfl ha22 hb23) rfl ?_
      obtain ⟨u25, hc26, hr27⟩ := repSl.el r_s1 hx24
      obtain ⟨rfl, hr27⟩ := hr27
      refine WL.val (Value.int .i64 x21) _ (op_load one_2 rfl (Ext.cell hS18.ext hc26)) rfl ?_
      obtain ⟨x28, hx29, hb9⟩ := bs hb9
      refine WL.call _ (op_callV rfl ok_f1 (args1 rfl)) (call_f1 wd7 x21 x28 hS18.ext hr27 hx29) rfl ?_
      rintro _ wd30 ⟨rfl, he31⟩
      have hS33 := St.extend hS18 he31
      refine WL.nil ?_
      show W _ _ _ _ _ _
      refine W.cond x28 rfl (fun hc34 => ?_) (fun hc34 => ?_)
      · replace hb9 := ip hb9 hc34
        refine W.seq ?_
        refine W.region ?_
        refine WL.val (Value.int .i64 (k4 : Int)) _ (op_move rfl) rfl ?_
        refine WL.val (Value.int .i64 (k4 : Int)) _ (op_assign rfl) rfl ?_
        refine WL.nil ?_
        show W _ _ _ _ _ _
        refine W.ret ?_
        obtain rfl := Option.some.inj hb9
        obtain rfl := hret12 _ rfl
        replace h := onRes_ret h
        obtain rfl := Option.some.inj h
        show FinP _ _ _ _ _ _ _
        exact FinP.ret _ (res1 rfl rfl) ⟨rfl, hr17, hS33.ext⟩
      · replace hb9 := inegb hb9 hc34
        refine W.skip ?_
        show W _ _ _ _ _ _
        refine W.region ?_
        refine WL.val (Value.int .i64 (w64 ((k4 : Int) + (1 : Int)))) _ (op_add hf16 rfl) rfl ?_
        refine WL.val (Value.int .i64 (w64 ((k4 : Int) + (1 : Int)))) _ (op_move rfl) rfl ?_
        refine WL.nil ?_
        obtain rfl := Option.some.inj hb9
        show ∃ s, _ = Ctl.next s ∧ _
        exact ⟨_, rfl, hf13, hf14, hf15, (ctr_next hl19 hr1), (ctr_rng hl19 hr1), hS33⟩
    · intro s41 f37 wd38 hs39 hI40
      obtain ⟨⟩ := s41
      replace hI40 : f37 0 = v_s1 ∧ f37 1 = (Value.func (.func g_f1) fst_f1 cap_f1) ∧ f37 7 = (Value.int .i64 ((s1).length : Int)) ∧ f37 8 = Value.int .i64 (((s1).length : Nat) : Int) ∧ InR .i64 (((s1).length : Nat) : Int) ∧ St w wd38 [] := hI40
      obtain ⟨hf42, hf43, hf44, hf45, hr46, hS47⟩ := hI40
      refine W.seq ?_
      refine W.region ?_
      refine WL.val (Value.bool (decide ((((s1).length : Nat) : Int) < ((s1).length : Int)))) _ (op_lss hf45 hf44) rfl ?_
      have hl48 : ¬ (((s1).length : Nat) : Int) < ((s1).length : Int) := by omega
      refine WL.nil ?_
      show W _ _ _ _ _ _
      refine W.seq ?_
      refine W.condF (decide ((((s1).length : Nat) : Int) < ((s1).length : Int))) rfl (decide_eq_false hl48) ?_
      refine W.exit ?_
      show _ = _ ∧ _
      exact ⟨rfl, _, hs39, hS47⟩
  · rintro f49 wd50 ⟨s52, rfl, hq51⟩
    replace h := onRes_fin h
    obtain ⟨⟩ := s52
    replace hq51 : St w wd50 [] := hq51
    have hS53 := hq51
    show W _ _ _ _ _ _
    refine W.seq ?_
    refine W.region ?_
    refine WL.val (Value.int .i64 (-1 : Int)) _ (op_assign rfl) rfl ?_
    refine WL.nil ?_
    show W _ _ _ _ _ _
    refine W.ret ?_
    obtain rfl := Option.some.inj h
    show FinP _ _ _ _ _ _ _
    exact FinP.ret _ (res1 rfl rfl) ⟨rfl, (inR_i64.2 (show (-9223372036854775808 : Int) ≤ -1 ∧ (-1 : Int) ≤ 9223372036854775807 from by decide)), hS53.ext⟩

theorem c_slices_ContainsFunc_Lint64_int64 {w : World} {s1 : (List Int)} {v_s1 : Value} {f1 : Int → Option Bool} {v_f1 : Value} (r_s1 : (Ty.sl (Ty.i .i64)).rep w v_s1 s1) (r_f1 : FnT_i_to_b Try.prog v_f1 w f1) {res : Bool} (h : p_slices_ContainsFunc_Lint64_int64 s1 f1  = some res) :
    Ret Try.prog 137 #[v_s1, v_f1] w (fun v w' => v = Value.bool res ∧ Ext w w') := by
  unfold p_slices_ContainsFunc_Lint64_int64 at h
  have hS0 : St w w [] := St.start w
  have q_f1 := r_f1
  obtain ⟨g_f1, fst_f1, cap_f1, eq_f1, ok_f1, call_f1⟩ := q_f1
  subst eq_f1
  refine Ret.start (fn := Try.f137) Try.func137 rfl 9 rfl rfl ?_
  refine W.seq ?_
  refine W.region ?_
  refine WL.val (Value.bool false) _ (op_assign rfl) rfl ?_
  refine WL.nil ?_
  show W _ _ _ _ _ _
  refine W.seq ?_
  refine W.region ?_
  refine WL.val v_s1 _ (op_move rfl) rfl ?_
  refine WL.val (Value.func (.func g_f1) fst_f1 cap_f1) _ (op_move rfl) rfl ?_
  obtain ⟨x1, hx2, h⟩ := bs h
  refine WL.call _ (op_call fn_152 (args2 rfl rfl)) (c_slices_IndexFunc_Lint64_int64 (Ty.lift _ hS0.ext r_s1) (FnT_i_to_b.lift hS0.ext r_f1) hx2) rfl ?_
  rintro _ wd4 ⟨rfl, hr3, he5⟩
  have hS7 := St.extend hS0 he5
  replace hS7 : St w wd4 [] := hS7
  refine WL.val (Value.bool (decide (x1 ≥ (0 : Int)))) _ (op_geq rfl rfl) rfl ?_
  refine WL.val (Value.bool (decide (x1 ≥ (0 : Int)))) _ (op_assign rfl) rfl ?_
  refine WL.nil ?_
  show W _ _ _ _ _ _
  refine W.ret ?_
  obtain rfl := Option.some.inj h
  show FinP _ _ _ _ _ _ _
  exact FinP.ret _ (res1 rfl rfl) ⟨rfl, hS7.ext⟩

theorem c_impl_allWithin {w : World} {list : (List Int)} {v_list : Value} {low : Int} {high : Int} (r_list : (Ty.sl (Ty.i .i64)).rep w v_list list) (r_low : InR .i64 low) (r_high : InR .i64 high) {res : Bool} (h : p_impl_allWithin list low high  = some res) :
    Ret Try.prog 116 #[v_list, (Value.int .i64 low), (Value.int .i64 high)] w (fun v w' => v = Value.bool res ∧ Ext w w') := by
  unfold p_impl_allWithin at h
  have hS0 : St w w [] := St.start w
  refine Ret.start (fn := Try.f116) Try.func116 rfl 11 rfl rfl ?_
  refine W.seq ?_
  refine W.region ?_
  refine WL.box hS0 rfl (cs := [(Value.int .i64 low)]) rfl rfl ?_
  intro b1 wd2 hS3 he4 hx5
  replace hS3 : St w wd2 [bx b1 [(Value.int .i64 low)]] := hS3
  have hx6 := St.boxAt hS3 0 rfl
  have hE7 : Ext w wd2 := hS3.ext
  have hS8 : St wd2 wd2 [] := St.start wd2
  refine WL.box hS8 rfl (cs := [(Value.int .i64 high)]) rfl rfl ?_
  intro b9 wd10 hS11 he12 hx13
  replace hS11 : St wd2 wd10 [bx b9 [(Value.int .i64 high)]] := hS11
  have hx14 := St.boxAt hS11 0 rfl
  have hE15 : Ext w wd10 := (Ext.trans hE7 hS11.ext)
  have hE16 : Ext wd2 wd10 := hS11.ext
  have hS17 : St wd10 wd10 [] := St.start wd10
  refine WL.val (Value.bool false) _ (op_assign rfl) rfl ?_
  refine WL.nil ?_
  show W _ _ _ _ _ _
  refine W.seq ?_
  refine W.region ?_
  refine WL.val v_list _ (op_move rfl) rfl ?_
  refine WL.val (Value.func (.func 138) #[] #[(Value.pointer (some ⟨b1, 0, none⟩)), (Value.pointer (some ⟨b9, 0, none⟩))]) _ (op_makeFunc (va := #[]) (vb := #[(Value.pointer (some ⟨b1, 0, none⟩)), (Value.pointer (some ⟨b9, 0, none⟩))]) args0 (args2 rfl rfl)) rfl ?_
  obtain ⟨x22, hx23, h⟩ := bs h
  refine WL.call _ (op_call fn_137 (args2 rfl rfl)) (c_slices_ContainsFunc_Lint64_int64 (Ty.lift _ (Ext.trans hE15 hS17.ext) r_list) (⟨138, #[], #[(Value.pointer (some ⟨b1, 0, none⟩)), (Value.pointer (some ⟨b9, 0, none⟩))], rfl, fn_138, fun wd18 a0_19 r20 he19 ra0_19 hq21 => c_impl_allWithin_c1 ra0_19 (BoxAt.lift (Ext.trans (Ext.trans hE16 hS17.ext) he19) hx6) r_low (BoxAt.lift (Ext.trans hS17.ext he19) hx14) r_high hq21⟩) hx23) rfl ?_
  rintro _ wd24 ⟨rfl, he25⟩
  have hS27 := St.extend hS17 he25
  replace hS27 : St wd10 wd24 [] := hS27
  refine WL.val (Value.bool (!x22)) _ (op_not rfl) rfl ?_
  refine WL.val (Value.bool (!x22)) _ (op_assign rfl) rfl ?_
  refine WL.nil ?_
  show W _ _ _ _ _ _
  refine W.ret ?_
  obtain rfl := Option.some.inj h
  show FinP _ _ _ _ _ _ _
  exact FinP.ret _ (res1 rfl rfl) ⟨rfl, (Ext.trans hE15 hS27.ext)⟩

theorem c_slices_IndexFunc_LLint64_Lint64 {w : World} {s1 : (List (List Int))} {v_s1 : Value} {f1 : (List Int) → Option Bool} {v_f1 : Value} (r_s1 : (Ty.sl (Ty.sl (Ty.i .i64))).rep w v_s1 s1) (r_f1 : FnT_li_to_b Try.prog v_f1 w f1) {res : Int} (h : p_slices_IndexFunc_LLint64_Lint64 s1 f1  = some res) :
    Ret Try.prog 117 #[v_s1, v_f1] w (fun v w' => v = Value.int .i64 res ∧ InR .i64 res ∧ Ext w w') := by
  unfold p_slices_IndexFunc_LLint64_Lint64 at h
  have hS0 : St w w [] := St.start w
  have q_f1 := r_f1
  obtain ⟨g_f1, fst_f1, cap_f1, eq_f1, ok_f1, call_f1⟩ := q_f1
  subst eq_f1
  refine Ret.start (fn := Try.f117) Try.func117 rfl 19 rfl rfl ?_
  refine W.seq ?_
  refine W.region ?_
  refine WL.val (Value.int .i64 (0 : Int)) _ (op_assign rfl) rfl ?_
  refine WL.nil ?_
  show W _ _ _ _ _ _
  refine W.seq ?_
  refine W.seq ?_
  refine W.region ?_
  refine WL.val v_s1 _ (op_move rfl) rfl ?_
  have hr1 := inR_len (Ty.lift _ hS0.ext r_s1)
  refine WL.val (Value.int .i64 ((s1).length : Int)) _ (op_lenL sl_22 (Ty.lift _ hS0.ext r_s1) rfl) rfl ?_
  refine WL.val (Value.int .i64 (0 : Int)) _ (op_move rfl) rfl ?_
  refine WL.nil ?_
  show W _ _ _ _ _ _
  obtain ⟨res2, hres3, h⟩ := bs h
  refine W.blockLoop (fun fq wq => ∃ s, res2 = Res.fin s ∧ St w wq []) ?_ ?_
  · refine W.forN (fun k (s : Unit) fq wq => fq 0 = v_s1 ∧ fq 1 = (Value.func (.func g_f1) fst_f1 cap_f1) ∧ fq 7 = (Value.int .i64 ((s1).length : Int)) ∧ fq 8 = Value.int .i64 (k : Int) ∧ InR .i64 (k : Int) ∧ St w wq []) hres3 ⟨rfl, rfl, rfl, rfl, (inR_i64.2 (show (-9223372036854775808 : Int) ≤ 0 ∧ (0 : Int) ≤ 9223372036854775807 from by decide)), hS0⟩ ?_ ?_
    · intro k4 s36 ct5 f6 wd7 hk8 hb9 hI10 hbrk11 hret12
      obtain ⟨⟩ := s36
      replace hI10 : f6 0 = v_s1 ∧ f6 1 = (Value.func (.func g_f1) fst_f1 cap_f1) ∧ f6 7 = (Value.int .i64 ((s1).length : Int)) ∧ f6 8 = Value.int .i64 (k4 : Int) ∧ InR .i64 (k4 : Int) ∧ St w wd7 [] := hI10
      replace hb9 : p_slices_IndexFunc_LLint64_Lint64_L1 s1 f1 k4  = some ct5 := hb9
      unfold p_slices_IndexFunc_LLint64_Lint64_L1 at hb9
      obtain ⟨hf13, hf14, hf15, hf16, hr17, hS18⟩ := hI10
      refine W.seq ?_
      refine W.region ?_
      refine WL.val (Value.bool (decide ((k4 : Int) < ((s1).length : Int)))) _ (op_lss hf16 hf15) rfl ?_
      have hl19 : (k4 : Int) < ((s1).length : Int) := by omega
      refine WL.nil ?_
      show W _ _ _ _ _ _
      refine W.seq ?_
      refine W.condT (decide ((k4 : Int) < ((s1).length : Int))) rfl (decide_eq_true hl19) ?_
      refine W.skip ?_
      show W _ _ _ _ _ _
      refine W.seq ?_
      refine W.block ?_
      refine W.seq ?_
      refine W.region ?_
      refine WL.val (Value.int .i64 (k4 : Int)) _ (op_move hf16) rfl ?_
      refine WL.val (Value.int .i64 (k4 : Int)) _ (op_assign rfl) rfl ?_
      refine WL.nil ?_
      show W _ _ _ _ _ _
      refine W.seq ?_
      refine W.region ?_
      refine WL.val (Value.func (.func g_f1) fst_f1 cap_f1) _ (op_move hf14) rfl ?_
      refine WL.val v_s1 _ (op_move hf13) rfl ?_
      refine WL.val (Value.int .i64 (k4 : Int)) _ (op_move rfl) rfl ?_
      obtain ⟨x21, hx24, hb9⟩ := bs hb9
      obtain ⟨ha22, hb23, hx24⟩ := idx_some hx24
      refine WL.val (Value.pointer (some (elA v_s1 ((k4 : Int)).toNat))) _ (op_idx sl_22 (Ty.lift _ hS18.ext r_s1) rfl rfl ha22 hb23) rfl ?_
      obtain ⟨u25, hc26, hr27⟩ := repSl.el r_s1 hx24
      refine WL.val u25 _ (op_load one_23 rfl (Ext.cell hS18.ext hc26)) rfl ?_
      obtain ⟨x28, hx29, hb9⟩ := bs hb9
      refine WL.call _ (op_callV rfl ok_f1 (args1 rfl)) (call_f1 wd7 u25 x21 x28 hS18.ext (Ty.lift _ hS18.ext hr27) hx29) rfl ?_
      rintro _ wd30 ⟨rfl, he31⟩
      have hS33 := St.extend hS18 he31
      refine WL.nil ?_
      show W _ _ _ _ _ _
      refine W.cond x28 rfl (fun hc34 => ?_) (fun hc34 => ?_)
      · replace hb9 := ip hb9 hc34
        refine W.seq ?_
        refine W.region ?_
        refine WL.val (Value.int .i64 (k4 : Int)) _ (op_move rfl) rfl ?_
        refine WL.val (Value.int .i64 (k4 : Int)) _ (op_assign rfl) rfl ?_
        refine WL.nil ?_
        show W _ _ _ _ _ _
        refine W.ret ?_
        obtain rfl := Option.some.inj hb9
        obtain rfl := hret12 _ rfl
        replace h := onRes_ret h
        obtain rfl := Option.some.inj h
        show FinP _ _ _ _ _ _ _
        exact FinP.ret _ (res1 rfl rfl) ⟨rfl, hr17, hS33.ext⟩
      · replace hb9 := inegb hb9 hc34
        refine W.skip ?_
        show W _ _ _ _ _ _
        refine W.region ?_
        refine WL.val (Value.int .i64 (w64 ((k4 : Int) + (1 : Int)))) _ (op_add hf16 rfl) rfl ?_
        refine WL.val (Value.int .i64 (w64 ((k4 : Int) + (1 : Int)))) _ (op_move rfl) rfl ?_
        refine WL.nil ?_
        obtain rfl := Option.some.inj hb9
        show ∃ s, _ = Ctl.next s ∧ _
        exact ⟨_, rfl, hf13, hf14, hf15, (ctr_next hl19 hr1), (ctr_rng hl19 hr1), hS33⟩
    · intro s41 f37 wd38 hs39 hI40
      obtain ⟨⟩ := s41
      replace hI40 : f37 0 = v_s1 ∧ f37 1 = (Value.func (.func g_f1) fst_f1 cap_f1) ∧ f37 7 = (Value.int .i64 ((s1).length : Int)) ∧ f37 8 = Value.int .i64 (((s1).length : Nat) : Int) ∧ InR .i64 (((s1).length : Nat) : Int) ∧ St w wd38 [] := hI40
      obtain ⟨hf42, hf43, hf44, hf45, hr46, hS47⟩ := hI40
      refine W.seq ?_
      refine W.region ?_
      refine WL.val (Value.bool (decide ((((s1).length : Nat) : Int) < ((s1).length : Int)))) _ (op_lss hf45 hf44) rfl ?_
      have hl48 : ¬ (((s1).length : Nat) : Int) < ((s1).length : Int) := by omega
      refine WL.nil ?_
      show W _ _ _ _ _ _
      refine W.seq ?_
      refine W.condF (decide ((((s1).length : Nat) : Int) < ((s1).length : Int))) rfl (decide_eq_false hl48) ?_
      refine W.exit ?_
      show _ = _ ∧ _
      exact ⟨rfl, _, hs39, hS47⟩
  · rintro f49 wd50 ⟨s52, rfl, hq51⟩
    replace h := onRes_fin h
    obtain ⟨⟩ := s52
    replace hq51 : St w wd50 [] := hq51
    have hS53 := hq51
    show W _ _ _ _ _ _
    refine W.seq ?_
    refine W.region ?_
    refine WL.val (Value.int .i64 (-1 : Int)) _ (op_assign rfl) rfl ?_
    refine WL.nil ?_
    show W _ _ _ _ _ _
    refine W.ret ?_
    obtain rfl := Option.some.inj h
    show FinP _ _ _ _ _ _ _
    exact FinP.ret _ (res1 rfl rfl) ⟨rfl, (inR_i64.2 (show (-9223372036854775808 : Int) ≤ -1 ∧ (-1 : Int) ≤ 9223372036854775807 from by decide)), hS53.ext⟩

theorem c_slices_ContainsFunc_LLint64_Lint64 {w : World} {s1 : (List (List Int))} {v_s1 : Value} {f1 : (List Int) → Option Bool} {v_f1 : Value} (r_s1 : (Ty.sl (Ty.sl (Ty.i .i64))).rep w v_s1 s1) (r_f1 : FnT_li_to_b Try.prog v_f1 w f1) {res : Bool} (h : p_slices_ContainsFunc_LLint64_Lint64 s1 f1  = some res) :
    Ret Try.prog 65 #[v_s1, v_f1] w (fun v w' => v = Value.bool res ∧ Ext w w') := by
  unfold p_slices_ContainsFunc_LLint64_Lint64 at h
  have hS0 : St w w [] := St.start w
  have q_f1 := r_f1
  obtain ⟨g_f1, fst_f1, cap_f1, eq_f1, ok_f1, call_f1⟩ := q_f1
  subst eq_f1
  refine Ret.start (fn := Try.f65) Try.func65 rfl 9 rfl rfl ?_
  refine W.seq ?_
  refine W.region ?_
  refine WL.val (Value.bool false) _ (op_assign rfl) rfl ?_
  refine WL.nil ?_
  show W _ _ _ _ _ _
  refine W.seq ?_
  refine W.region ?_
  refine WL.val v_s1 _ (op_move rfl) rfl ?_
  refine WL.val (Value.func (.func g_f1) fst_f1 cap_f1) _ (op_move rfl) rfl ?_
  obtain ⟨x1, hx2, h⟩ := bs h
  refine WL.call _ (op_call fn_117 (args2 rfl rfl)) (c_slices_IndexFunc_LLint64_Lint64 (Ty.lift _ hS0.ext r_s1) (FnT_li_to_b.lift hS0.ext r_f1) hx2) rfl ?_
  rintro _ wd4 ⟨rfl, hr3, he5⟩
  have hS7 := St.extend hS0 he5
  replace hS7 : St w wd4 [] := hS7
  refine WL.val (Value.bool (decide (x1 ≥ (0 : Int)))) _ (op_geq rfl rfl) rfl ?_
  refine WL.val (Value.bool (decide (x1 ≥ (0 : Int)))) _ (op_assign rfl) rfl ?_
  refine WL.nil ?_
  show W _ _ _ _ _ _
  refine W.ret ?_
  obtain rfl := Option.some.inj h
  show FinP _ _ _ _ _ _ _
  exact FinP.ret _ (res1 rfl rfl) ⟨rfl, hS7.ext⟩

theorem c_impl_isCube_c1 {w : World} {row : (List Int)} {v_row : Value} {b_c0 : Nat} {c0 : Int} (r_row : (Ty.sl (Ty.i .i64)).rep w v_row row) (k_c0 : BoxAt w b_c0 [(Value.int .i64 c0)]) (r_c0 : InR .i64 c0) {res : Bool} (h : p_impl_isCube_c1 row c0 = some res) :
    Ret Try.prog 141 #[v_row, (Value.pointer (some ⟨b_c0, 0, none⟩))] w (fun v w' => v = Value.bool res ∧ Ext w w') := by
  unfold p_impl_isCube_c1 at h
  have hS0 : St w w [] := St.start w
  refine Ret.start (fn := Try.f141) Try.func141 rfl 13 rfl rfl ?_
  refine W.seq ?_
  refine W.region ?_
  refine WL.val (Value.bool false) _ (op_assign rfl) rfl ?_
  refine WL.nil ?_
  show W _ _ _ _ _ _
  refine W.seq ?_
  refine W.region ?_
  refine WL.val v_row _ (op_move rfl) rfl ?_
  have hr1 := inR_len (Ty.lift _ hS0.ext r_row)
  refine WL.val (Value.int .i64 ((row).length : Int)) _ (op_lenL sl_23 (Ty.lift _ hS0.ext r_row) rfl) rfl ?_
  refine WL.val (Value.int .i64 c0) _ (op_load one_3 rfl (BoxAt.cell (BoxAt.lift hS0.ext k_c0) rfl)) rfl ?_
  refine WL.val (Value.bool (((row).length : Int) != c0)) _ (op_neq rfl rfl) rfl ?_
  refine WL.val (Value.bool (((row).length : Int) != c0)) _ (op_move rfl) rfl ?_
  obtain ⟨x3, hj4, h⟩ := bs h
  refine WL.cut 4 (fun fq wq => fq 12 = Value.bool x3 ∧ St w wq []) ?_ ?_
  · rcases Bool.eq_false_or_eq_true (((row).length : Int) != c0) with hc2 | hc2
    · replace hj4 := ip hj4 hc2
      refine WL.gskip rfl (bool_of rfl hc2) rfl ?_
      refine WL.gskip rfl (bool_of rfl hc2) rfl ?_
      refine WL.gskip rfl (bool_of rfl hc2) rfl ?_
      refine WL.val (Value.bool true) _ (op_pick_t (evb_of rfl hc2) rfl) rfl ?_
      refine WL.nil ?_
      obtain rfl := Option.some.inj hj4
      exact ⟨rfl, rfl, hS0⟩
    · replace hj4 := inegb hj4 hc2
      refine WL.grun rfl (bool_of rfl hc2) ?_
      refine WL.val v_row _ (op_move rfl) rfl ?_
      refine WL.grun rfl (bool_of rfl hc2) ?_
      obtain ⟨x8, hx9, hj4⟩ := bs hj4
      refine WL.call _ (op_call fn_116 (args3 rfl rfl rfl)) (c_impl_allWithin (Ty.lift _ hS0.ext r_row) (inR_i64.2 (show (-9223372036854775808 : Int) ≤ 0 ∧ (0 : Int) ≤ 9223372036854775807 from by decide)) (inR_i64.2 (show (-9223372036854775808 : Int) ≤ 1000 ∧ (1000 : Int) ≤ 9223372036854775807 from by decide)) hx9) rfl ?_
      rintro _ wd10 ⟨rfl, he11⟩
      have hS13 := St.extend hS0 he11
      replace hS13 : St w wd10 [] := hS13
      refine WL.grun rfl (bool_of rfl hc2) ?_
      refine WL.val (Value.bool (!x8)) _ (op_not rfl) rfl ?_
      refine WL.val (Value.bool (!x8)) _ (op_pick_f (evb_of rfl hc2) rfl) rfl ?_
      refine WL.nil ?_
      obtain rfl := Option.some.inj hj4
      exact ⟨rfl, rfl, hS13⟩
  · intro f5 wd6 hq7
    obtain ⟨hf14, hS15⟩ := hq7
    refine WL.val (Value.bool x3) _ (op_assign hf14) rfl ?_
    refine WL.nil ?_
    show W _ _ _ _ _ _
    refine W.ret ?_
    obtain rfl := Option.some.inj h
    show FinP _ _ _ _ _ _ _
    exact FinP.ret _ (res1 rfl rfl) ⟨rfl, hS15.ext⟩

theorem c_impl_isCube {w : World} {r_Table : (List (List (List Int)))} {v_r_Table : Value} (r_r_Table : (Ty.sl (Ty.sl (Ty.sl (Ty.i .i64)))).rep w v_r_Table r_Table) {res : Bool} (h : p_impl_isCube r_Table  = some res) :
    Ret Try.prog 120 #[(Value.agg #[v_r_Table])] w (fun v w' => v = Value.bool res ∧ Ext w w') := by
  unfold p_impl_isCube at h
  have hS0 : St w w [] := St.start w
  refine Ret.start (fn := Try.f120) Try.func120 rfl 32 rfl rfl ?_
  refine W.seq ?_
  refine W.region ?_
  refine WL.box hS0 rfl (cs := [v_r_Table]) rfl rfl ?_
  intro b1 wd2 hS3 he4 hx5
  replace hS3 : St w wd2 [bx b1 [v_r_Table]] := hS3
  have hx6 := St.boxAt hS3 0 rfl
  have hE7 : Ext w wd2 := hS3.ext
  have hS8 : St wd2 wd2 [] := St.start wd2
  refine WL.val (Value.bool false) _ (op_assign rfl) rfl ?_
  refine WL.nil ?_
  show W _ _ _ _ _ _
  refine W.seq ?_
  refine W.region ?_
  refine WL.val (Value.pointer (some ⟨b1, 0, none⟩)) _ (op_fieldAddr fd_27_0 rfl) rfl ?_
  refine WL.val v_r_Table _ (op_load one_25 rfl (BoxAt.cell (BoxAt.lift hS8.ext hx6) rfl)) rfl ?_
  have hr9 := inR_len (Ty.lift _ (Ext.trans hE7 hS8.ext) r_r_Table)
  refine WL.val (Value.int .i64 ((r_Table).length : Int)) _ (op_lenL sl_25 (Ty.lift _ (Ext.trans hE7 hS8.ext) r_r_Table) rfl) rfl ?_
  refine WL.alloc hS8 ze_3 (cs := [(Value.int .i64 (0 : Int))]) rfl rfl ?_
  intro b10 wd11 hS12 he13
  replace hS12 : St wd2 wd11 [bx b10 [(Value.int .i64 (0 : Int))]] := hS12
  refine WL.storeBox [(Value.int .i64 ((r_Table).length : Int))] hS12 (k := 0) rfl rfl rfl (us := [(Value.int .i64 ((r_Table).length : Int))]) rfl sz_3 rfl rfl (all_cons rfl all_nil) rfl ?_
  intro wd14 hS15
  replace hS15 : St wd2 wd14 [bx b10 [(Value.int .i64 ((r_Table).length : Int))]] := hS15
  refine WL.nil ?_
  show W _ _ _ _ _ _
  refine W.seq ?_
  refine W.seq ?_
  refine W.region ?_
  refine WL.val (Value.pointer (some ⟨b1, 0, none⟩)) _ (op_fieldAddr fd_27_0 rfl) rfl ?_
  refine WL.val v_r_Table _ (op_load one_25 rfl (BoxAt.cell (BoxAt.lift hS15.ext hx6) rfl)) rfl ?_
  have hr16 := inR_len (Ty.lift _ (Ext.trans hE7 hS15.ext) r_r_Table)
  refine WL.val (Value.int .i64 ((r_Table).length : Int)) _ (op_lenL sl_25 (Ty.lift _ (Ext.trans hE7 hS15.ext) r_r_Table) rfl) rfl ?_
  refine WL.val (Value.int .i64 (0 : Int)) _ (op_move rfl) rfl ?_
  refine WL.nil ?_
  show W _ _ _ _ _ _
  obtain ⟨res17, hres18, h⟩ := bs h
  refine W.blockLoop (fun fq wq => ∃ s, res17 = Res.fin s ∧ fq 3 = (Value.pointer (some ⟨b10, 0, none⟩)) ∧ St wd2 wq [bx b10 [(Value.int .i64 ((r_Table).length : Int))]]) ?_ ?_
  · refine W.forN (fun k (s : Unit) fq wq => fq 3 = (Value.pointer (some ⟨b10, 0, none⟩)) ∧ fq 10 = v_r_Table ∧ fq 11 = (Value.int .i64 ((r_Table).length : Int)) ∧ fq 12 = Value.int .i64 (k : Int) ∧ InR .i64 (k : Int) ∧ St wd2 wq [bx b10 [(Value.int .i64 ((r_Table).length : Int))]]) hres18 ⟨rfl, rfl, rfl, rfl, (inR_i64.2 (show (-9223372036854775808 : Int) ≤ 0 ∧ (0 : Int) ≤ 9223372036854775807 from by decide)), hS15⟩ ?_ ?_
    · intro k19 s68 ct20 f21 wd22 hk23 hb24 hI25 hbrk26 hret27
      obtain ⟨⟩ := s68
      replace hI25 : f21 3 = (Value.pointer (some ⟨b10, 0, none⟩)) ∧ f21 10 = v_r_Table ∧ f21 11 = (Value.int .i64 ((r_Table).length : Int)) ∧ f21 12 = Value.int .i64 (k19 : Int) ∧ InR .i64 (k19 : Int) ∧ St wd2 wd22 [bx b10 [(Value.int .i64 ((r_Table).length : Int))]] := hI25
      replace hb24 : p_impl_isCube_L1 r_Table k19  = some ct20 := hb24
      unfold p_impl_isCube_L1 at hb24
      obtain ⟨hf28, hf29, hf30, hf31, hr32, hS33⟩ := hI25
      refine W.seq ?_
      refine W.region ?_
      refine WL.val (Value.bool (decide ((k19 : Int) < ((r_Table).length : Int)))) _ (op_lss hf31 hf30) rfl ?_
      have hl34 : (k19 : Int) < ((r_Table).length : Int) := by omega
      refine WL.nil ?_
      show W _ _ _ _ _ _
      refine W.seq ?_
      refine W.condT (decide ((k19 : Int) < ((r_Table).length : Int))) rfl (decide_eq_true hl34) ?_
      refine W.skip ?_
      show W _ _ _ _ _ _
      refine W.seq ?_
      refine W.block ?_
      refine W.seq ?_
      refine W.region ?_
      obtain ⟨x36, hx39, hb24⟩ := bs hb24
      obtain ⟨ha37, hb38, hx39⟩ := idx_some hx39
      refine WL.val (Value.pointer (some (elA v_r_Table ((k19 : Int)).toNat))) _ (op_idx sl_25 (Ty.lift _ (Ext.trans hE7 hS33.ext) r_r_Table) hf29 hf31 ha37 hb38) rfl ?_
      obtain ⟨u40, hc41, hr42⟩ := repSl.el r_r_Table hx39
      refine WL.val u40 _ (op_load one_22 rfl (Ext.cell (Ext.trans hE7 hS33.ext) hc41)) rfl ?_
      refine WL.val u40 _ (op_assign rfl) rfl ?_
      refine WL.nil ?_
      show W _ _ _ _ _ _
      refine W.seq ?_
      refine W.region ?_
      refine WL.val u40 _ (op_move rfl) rfl ?_
      have hr43 := inR_len (Ty.lift _ (Ext.trans hE7 hS33.ext) hr42)
      refine WL.val (Value.int .i64 ((x36).length : Int)) _ (op_lenL sl_22 (Ty.lift _ (Ext.trans hE7 hS33.ext) hr42) rfl) rfl ?_
      refine WL.val (Value.int .i64 ((r_Table).length : Int)) _ (op_load one_3 hf28 (BoxAt.cell (St.boxAt hS33 0 rfl) rfl)) rfl ?_
      refine WL.val (Value.bool (((x36).length : Int) != ((r_Table).length : Int))) _ (op_neq rfl rfl) rfl ?_
      refine WL.val (Value.bool (((x36).length : Int) != ((r_Table).length : Int))) _ (op_move rfl) rfl ?_
      obtain ⟨x45, hj46, hb24⟩ := bs hb24
      refine WL.cut 4 (fun fq wq => fq 3 = (Value.pointer (some ⟨b10, 0, none⟩)) ∧ fq 10 = v_r_Table ∧ fq 11 = (Value.int .i64 ((r_Table).length : Int)) ∧ fq 12 = (Value.int .i64 (k19 : Int)) ∧ fq 24 = Value.bool x45 ∧ St wd2 wq [bx b10 [(Value.int .i64 ((r_Table).length : Int))]]) ?_ ?_
      · rcases Bool.eq_false_or_eq_true (((x36).length : Int) != ((r_Table).length : Int)) with hc44 | hc44
        · replace hj46 := ip hj46 hc44
          refine WL.gskip rfl (bool_of rfl hc44) rfl ?_
          refine WL.gskip rfl (bool_of rfl hc44) rfl ?_
          refine WL.gskip rfl (bool_of rfl hc44) rfl ?_
          refine WL.val (Value.bool true) _ (op_pick_t (evb_of rfl hc44) rfl) rfl ?_
          refine WL.nil ?_
          obtain rfl := Option.some.inj hj46
          exact ⟨rfl, hf28, hf29, hf30, hf31, rfl, hS33⟩
        · replace hj46 := inegb hj46 hc44
          refine WL.grun rfl (bool_of rfl hc44) ?_
          refine WL.val u40 _ (op_move rfl) rfl ?_
          refine WL.grun rfl (bool_of rfl hc44) ?_
          refine WL.val (Value.func (.func 141) #[] #[(Value.pointer (some ⟨b10, 0, none⟩))]) _ (op_makeFunc (va := #[]) (vb := #[(Value.pointer (some ⟨b10, 0, none⟩))]) args0 (args1 hf28)) rfl ?_
          refine WL.grun rfl (bool_of rfl hc44) ?_
          obtain ⟨x54, hx55, hj46⟩ := bs hj46
          refine WL.call _ (op_call fn_65 (args2 rfl rfl)) (c_slices_ContainsFunc_LLint64_Lint64 (Ty.lift _ (Ext.trans hE7 hS33.ext) hr42) (⟨141, #[], #[(Value.pointer (some ⟨b10, 0, none⟩))], rfl, fn_141, fun wd50 u0_51 a0_51 r52 he51 ra0_51 hq53 => c_impl_isCube_c1 ra0_51 (BoxAt.lift he51 (St.boxAt hS33 0 rfl)) hr9 hq53⟩) hx55) rfl ?_
          rintro _ wd56 ⟨rfl, he57⟩
          have hS59 := St.extend hS33 he57
          replace hS59 : St wd2 wd56 [bx b10 [(Value.int .i64 ((r_Table).length : Int))]] := hS59
          refine WL.val (Value.bool x54) _ (op_pick_f (evb_of rfl hc44) rfl) rfl ?_
          refine WL.nil ?_
          obtain rfl := Option.some.inj hj46
          exact ⟨rfl, hf28, hf29, hf30, hf31, rfl, hS59⟩
      · intro f47 wd48 hq49
        obtain ⟨hf60, hf61, hf62, hf63, hf64, hS65⟩ := hq49
        refine WL.nil ?_
        show W _ _ _ _ _ _
        refine W.cond x45 hf64 (fun hc66 => ?_) (fun hc66 => ?_)
        · replace hb24 := ip hb24 hc66
          refine W.seq ?_
          refine W.region ?_
          refine WL.val (Value.bool false) _ (op_assign rfl) rfl ?_
          refine WL.nil ?_
          show W _ _ _ _ _ _
          refine W.ret ?_
          obtain rfl := Option.some.inj hb24
          obtain rfl := hret27 _ rfl
          replace h := onRes_ret h
          obtain rfl := Option.some.inj h
          show FinP _ _ _ _ _ _ _
          exact FinP.ret _ (res1 rfl rfl) ⟨rfl, (Ext.trans hE7 hS65.ext)⟩
        · replace hb24 := inegb hb24 hc66
          refine W.skip ?_
          show W _ _ _ _ _ _
          refine W.region ?_
          refine WL.val (Value.int .i64 (w64 ((k19 : Int) + (1 : Int)))) _ (op_add hf63 rfl) rfl ?_
          refine WL.val (Value.int .i64 (w64 ((k19 : Int) + (1 : Int)))) _ (op_move rfl) rfl ?_
          refine WL.nil ?_
          obtain rfl := Option.some.inj hb24
          show ∃ s, _ = Ctl.next s ∧ _
          exact ⟨_, rfl, hf60, hf61, hf62, (ctr_next hl34 hr16), (ctr_rng hl34 hr16), hS65⟩
    · intro s73 f69 wd70 hs71 hI72
      obtain ⟨⟩ := s73
      replace hI72 : f69 3 = (Value.pointer (some ⟨b10, 0, none⟩)) ∧ f69 10 = v_r_Table ∧ f69 11 = (Value.int .i64 ((r_Table).length : Int)) ∧ f69 12 = Value.int .i64 (((r_Table).length : Nat) : Int) ∧ InR .i64 (((r_Table).length : Nat) : Int) ∧ St wd2 wd70 [bx b10 [(Value.int .i64 ((r_Table).length : Int))]] := hI72
      obtain ⟨hf74, hf75, hf76, hf77, hr78, hS79⟩ := hI72
      refine W.seq ?_
      refine W.region ?_
      refine WL.val (Value.bool (decide ((((r_Table).length : Nat) : Int) < ((r_Table).length : Int)))) _ (op_lss hf77 hf76) rfl ?_
      have hl80 : ¬ (((r_Table).length : Nat) : Int) < ((r_Table).length : Int) := by omega
      refine WL.nil ?_
      show W _ _ _ _ _ _
      refine W.seq ?_
      refine W.condF (decide ((((r_Table).length : Nat) : Int) < ((r_Table).length : Int))) rfl (decide_eq_false hl80) ?_
      refine W.exit ?_
      show _ = _ ∧ _
      exact ⟨rfl, _, hs71, hf74, hS79⟩
  · rintro f81 wd82 ⟨s84, rfl, hq83⟩
    replace h := onRes_fin h
    obtain ⟨⟩ := s84
    replace hq83 : f81 3 = (Value.pointer (some ⟨b10, 0, none⟩)) ∧ St wd2 wd82 [bx b10 [(Value.int .i64 ((r_Table).length : Int))]] := hq83
    obtain ⟨hf85, hS86⟩ := hq83
    show W _ _ _ _ _ _
    refine W.seq ?_
    refine W.region ?_
    refine WL.val (Value.int .i64 ((r_Table).length : Int)) _ (op_load one_3 hf85 (BoxAt.cell (St.boxAt hS86 0 rfl) rfl)) rfl ?_
    refine WL.val (Value.bool (decide (((r_Table).length : Int) ≥ (1 : Int)))) _ (op_geq rfl rfl) rfl ?_
    refine WL.val (Value.bool (decide (((r_Table).length : Int) ≥ (1 : Int)))) _ (op_move rfl) rfl ?_
    refine WL.cut 3 (fun fq wq => fq 31 = (Value.bool ((decide (((r_Table).length : Int) ≥ (1 : Int))) && (decide (((r_Table).length : Int) ≤ (16 : Int))))) ∧ St wd2 wq []) ?_ ?_
    · rcases Bool.eq_false_or_eq_true (decide (((r_Table).length : Int) ≥ (1 : Int))) with hc87 | hc87
      · refine WL.grun rfl (bool_of rfl hc87) ?_
        refine WL.val (Value.int .i64 ((r_Table).length : Int)) _ (op_load one_3 hf85 (BoxAt.cell (St.boxAt hS86 0 rfl) rfl)) rfl ?_
        refine WL.grun rfl (bool_of rfl hc87) ?_
        refine WL.val (Value.bool (decide (((r_Table).length : Int) ≤ (16 : Int)))) _ (op_leq rfl rfl) rfl ?_
        refine WL.val (Value.bool (decide (((r_Table).length : Int) ≤ (16 : Int)))) _ (op_pick_t (evb_of rfl hc87) rfl) rfl ?_
        refine WL.nil ?_
        exact ⟨rfl, (andT hc87), (St.pick hS86 [] rfl)⟩
      · refine WL.gskip rfl (bool_of rfl hc87) rfl ?_
        refine WL.gskip rfl (bool_of rfl hc87) rfl ?_
        refine WL.val (Value.bool false) _ (op_pick_f (evb_of rfl hc87) rfl) rfl ?_
        refine WL.nil ?_
        exact ⟨rfl, (andF hc87), (St.pick hS86 [] rfl)⟩
    · intro f88 wd89 hq90
      obtain ⟨hf91, hS92⟩ := hq90
      refine WL.val (Value.bool ((decide (((r_Table).length : Int) ≥ (1 : Int))) && (decide (((r_Table).length : Int) ≤ (16 : Int))))) _ (op_assign hf91) rfl ?_
      refine WL.nil ?_
      show W _ _ _ _ _ _
      refine W.ret ?_
      obtain rfl := Option.some.inj h
      show FinP _ _ _ _ _ _ _
      exact FinP.ret _ (res1 rfl rfl) ⟨rfl, (Ext.trans hE7 hS92.ext)⟩

theorem c_impl_delta {w : World} {i : Int} {k1 : Int} (r_i : InR .i64 i) (r_k1 : InR .i64 k1) {res : Int} (h : p_impl_delta i k1  = some res) :
    Ret Try.prog 153 #[(Value.int .i64 i), (Value.int .i64 k1)] w (fun v w' => v = Value.int .i64 res ∧ InR .i64 res ∧ Ext w w') := by
  unfold p_impl_delta at h
  have hS0 : St w w [] := St.start w
  refine Ret.start (fn := Try.f153) Try.func153 rfl 8 rfl rfl ?_
  refine W.seq ?_
  refine W.region ?_
  refine WL.val (Value.int .i64 (0 : Int)) _ (op_assign rfl) rfl ?_
  refine WL.nil ?_
  show W _ _ _ _ _ _
  refine W.seq ?_
  refine W.seq ?_
  refine W.region ?_
  refine WL.val (Value.int .i64 i) _ (op_move rfl) rfl ?_
  refine WL.val (Value.int .i64 k1) _ (op_move rfl) rfl ?_
  refine WL.val (Value.bool (i == k1)) _ (op_eql rfl rfl) rfl ?_
  refine WL.nil ?_
  show W _ _ _ _ _ _
  refine W.cond (i == k1) rfl (fun hc1 => ?_) (fun hc1 => ?_)
  · replace h := ip h hc1
    refine W.seq ?_
    refine W.region ?_
    refine WL.val (Value.int .i64 (1 : Int)) _ (op_assign rfl) rfl ?_
    refine WL.nil ?_
    show W _ _ _ _ _ _
    refine W.ret ?_
    obtain rfl := Option.some.inj h
    show FinP _ _ _ _ _ _ _
    exact FinP.ret _ (res1 rfl rfl) ⟨rfl, (inR_i64.2 (show (-9223372036854775808 : Int) ≤ 1 ∧ (1 : Int) ≤ 9223372036854775807 from by decide)), hS0.ext⟩
  · replace h := inegb h hc1
    refine W.skip ?_
    show W _ _ _ _ _ _
    refine W.seq ?_
    refine W.region ?_
    refine WL.val (Value.int .i64 (0 : Int)) _ (op_assign rfl) rfl ?_
    refine WL.nil ?_
    show W _ _ _ _ _ _
    refine W.ret ?_
    obtain rfl := Option.some.inj h
    show FinP _ _ _ _ _ _ _
    exact FinP.ret _ (res1 rfl rfl) ⟨rfl, (inR_i64.2 (show (-9223372036854775808 : Int) ≤ 0 ∧ (0 : Int) ≤ 9223372036854775807 from by decide)), hS0.ext⟩

theorem c_impl_Ring_unitFault {w : World} {r_Table : (List (List (List Int)))} {v_r_Table : Value} (r_r_Table : (Ty.sl (Ty.sl (Ty.sl (Ty.i .i64)))).rep w v_r_Table r_Table) {res : (List Int)} (h : p_impl_Ring_unitFault r_Table  = some res) :
    Ret Try.prog 142 #[(Value.agg #[v_r_Table])] w (fun v w' => ∃ (u0 : Value), v = u0 ∧ NilIff u0 res ∧ Ext w w' ∧ Sep w.heap.size w' [(Ty.sl (Ty.i .i64)).at u0 res]) := by
  unfold p_impl_Ring_unitFault at h
  have hS0 : St w w [] := St.start w
  refine Ret.start (fn := Try.f142) Try.func142 rfl 52 rfl rfl ?_
  refine W.seq ?_
  refine W.region ?_
  refine WL.box hS0 rfl (cs := [v_r_Table]) rfl rfl ?_
  intro b1 wd2 hS3 he4 hx5
  replace hS3 : St w wd2 [bx b1 [v_r_Table]] := hS3
  have hx6 := St.boxAt hS3 0 rfl
  have hE7 : Ext w wd2 := hS3.ext
  have hS8 : St wd2 wd2 [] := St.start wd2
  refine WL.val (Value.slice none 0 0) _ (op_assign rfl) rfl ?_
  refine WL.nil ?_
  show W _ _ _ _ _ _
  refine W.seq ?_
  refine W.seq ?_
  refine W.region ?_
  refine WL.val (Value.pointer (some ⟨b1, 0, none⟩)) _ (op_fieldAddr fd_27_0 rfl) rfl ?_
  refine WL.val v_r_Table _ (op_load one_25 rfl (BoxAt.cell (BoxAt.lift hS8.ext hx6) rfl)) rfl ?_
  have hr9 := inR_len (Ty.lift _ (Ext.trans hE7 hS8.ext) r_r_Table)
  refine WL.val (Value.int .i64 ((r_Table).length : Int)) _ (op_lenL sl_25 (Ty.lift _ (Ext.trans hE7 hS8.ext) r_r_Table) rfl) rfl ?_
  refine WL.val (Value.int .i64 (0 : Int)) _ (op_move rfl) rfl ?_
  refine WL.nil ?_
  show W _ _ _ _ _ _
  obtain ⟨res10, hres11, h⟩ := bs h
  refine W.blockLoop (fun fq wq => ∃ s, res10 = Res.fin s ∧ St wd2 wq []) ?_ ?_
  · refine W.forN (fun k (s : Unit) fq wq => fq 1 = (Value.pointer (some ⟨b1, 0, none⟩)) ∧ fq 7 = (Value.int .i64 ((r_Table).length : Int)) ∧ fq 8 = Value.int .i64 (k : Int) ∧ InR .i64 (k : Int) ∧ St wd2 wq []) hres11 ⟨rfl, rfl, rfl, (inR_i64.2 (show (-9223372036854775808 : Int) ≤ 0 ∧ (0 : Int) ≤ 9223372036854775807 from by decide)), hS8⟩ ?_ ?_
    · intro k12 s513 ct13 f14 wd15 hk16 hb17 hI18 hbrk19 hret20
      obtain ⟨⟩ := s513
      replace hI18 : f14 1 = (Value.pointer (some ⟨b1, 0, none⟩)) ∧ f14 7 = (Value.int .i64 ((r_Table).length : Int)) ∧ f14 8 = Value.int .i64 (k12 : Int) ∧ InR .i64 (k12 : Int) ∧ St wd2 wd15 [] := hI18
      replace hb17 : p_impl_Ring_unitFault_L1 r_Table k12  = some ct13 := hb17
      unfold p_impl_Ring_unitFault_L1 at hb17
      obtain ⟨hf21, hf22, hf23, hr24, hS25⟩ := hI18
      refine W.seq ?_
      refine W.region ?_
      refine WL.val (Value.bool (decide ((k12 : Int) < ((r_Table).length : Int)))) _ (op_lss hf23 hf22) rfl ?_
      have hl26 : (k12 : Int) < ((r_Table).length : Int) := by omega
      refine WL.nil ?_
      show W _ _ _ _ _ _
      refine W.seq ?_
      refine W.condT (decide ((k12 : Int) < ((r_Table).length : Int))) rfl (decide_eq_true hl26) ?_
      refine W.skip ?_
      show W _ _ _ _ _ _
      refine W.seq ?_
      refine W.block ?_
      refine W.seq ?_
      refine W.region ?_
      refine WL.val (Value.int .i64 (k12 : Int)) _ (op_move hf23) rfl ?_
      refine WL.val (Value.int .i64 (k12 : Int)) _ (op_assign rfl) rfl ?_
      refine WL.nil ?_
      show W _ _ _ _ _ _
      refine W.seq ?_
      refine W.region ?_
      refine WL.val (Value.pointer (some ⟨b1, 0, none⟩)) _ (op_fieldAddr fd_27_0 hf21) rfl ?_
      refine WL.val v_r_Table _ (op_load one_25 rfl (BoxAt.cell (BoxAt.lift hS25.ext hx6) rfl)) rfl ?_
      have hr28 := inR_len (Ty.lift _ (Ext.trans hE7 hS25.ext) r_r_Table)
      refine WL.val (Value.int .i64 ((r_Table).length : Int)) _ (op_lenL sl_25 (Ty.lift _ (Ext.trans hE7 hS25.ext) r_r_Table) rfl) rfl ?_
      refine WL.val (Value.int .i64 (0 : Int)) _ (op_move rfl) rfl ?_
      refine WL.nil ?_
      show W _ _ _ _ _ _
      obtain ⟨res29, hres30, hb17⟩ := bs hb17
      refine W.blockLoop (fun fq wq => ∃ s, res29 = Res.fin s ∧ fq 1 = (Value.pointer (some ⟨b1, 0, none⟩)) ∧ fq 7 = (Value.int .i64 ((r_Table).length : Int)) ∧ fq 8 = (Value.int .i64 (k12 : Int)) ∧ St wd2 wq []) ?_ ?_
      · refine W.forN (fun k (s : Unit) fq wq => fq 1 = (Value.pointer (some ⟨b1, 0, none⟩)) ∧ fq 3 = (Value.int .i64 (k12 : Int)) ∧ fq 7 = (Value.int .i64 ((r_Table).length : Int)) ∧ fq 8 = (Value.int .i64 (k12 : Int)) ∧ fq 13 = (Value.int .i64 ((r_Table).length : Int)) ∧ fq 14 = Value.int .i64 (k : Int) ∧ InR .i64 (k : Int) ∧ St wd2 wq []) hres30 ⟨hf21, rfl, hf22, hf23, rfl, rfl, (inR_i64.2 (show (-9223372036854775808 : Int) ≤ 0 ∧ (0 : Int) ≤ 9223372036854775807 from by decide)), hS25⟩ ?_ ?_
        · intro k31 s489 ct32 f33 wd34 hk35 hb36 hI37 hbrk38 hret39
          obtain ⟨⟩ := s489
          replace hI37 : f33 1 = (Value.pointer (some ⟨b1, 0, none⟩)) ∧ f33 3 = (Value.int .i64 (k12 : Int)) ∧ f33 7 = (Value.int .i64 ((r_Table).length : Int)) ∧ f33 8 = (Value.int .i64 (k12 : Int)) ∧ f33 13 = (Value.int .i64 ((r_Table).length : Int)) ∧ f33 14 = Value.int .i64 (k31 : Int) ∧ InR .i64 (k31 : Int) ∧ St wd2 wd34 [] := hI37
          replace hb36 : p_impl_Ring_unitFault_L2 r_Table k12 k31  = some ct32 := hb36
          unfold p_impl_Ring_unitFault_L2 at hb36
          obtain ⟨hf40, hf41, hf42, hf43, hf44, hf45, hr46, hS47⟩ := hI37
          refine W.seq ?_
          refine W.region ?_
          refine WL.val (Value.bool (decide ((k31 : Int) < ((r_Table).length : Int)))) _ (op_lss hf45 hf44) rfl ?_
          have hl48 : (k31 : Int) < ((r_Table).length : Int) := by omega
          refine WL.nil ?_
          show W _ _ _ _ _ _
          refine W.seq ?_
          refine W.condT (decide ((k31 : Int) < ((r_Table).length : Int))) rfl (decide_eq_true hl48) ?_
          refine W.skip ?_
          show W _ _ _ _ _ _
          refine W.seq ?_
          refine W.block ?_
          refine W.seq ?_
          refine W.region ?_
          refine WL.val (Value.int .i64 (k31 : Int)) _ (op_move hf45) rfl ?_
          refine WL.val (Value.int .i64 (k31 : Int)) _ (op_assign rfl) rfl ?_
          refine WL.nil ?_
          show W _ _ _ _ _ _
          refine W.seq ?_
          obtain ⟨x71, hx74, hb36⟩ := bs hb36
          obtain ⟨ha72, hb73, hx74⟩ := idx_some hx74
          obtain ⟨u82, hc83, hr84⟩ := repSl.el r_r_Table hx74
          obtain ⟨x101, hx104, hb36⟩ := bs hb36
          obtain ⟨ha102, hb103, hx104⟩ := idx_some hx104
          obtain ⟨u112, hc113, hr114⟩ := repSl.el hr84 hx104
          obtain ⟨x131, hx134, hb36⟩ := bs hb36
          obtain ⟨ha132, hb133, hx134⟩ := idx_some hx134
          obtain ⟨u142, hc143, hr144⟩ := repSl.el hr114 hx134
          obtain ⟨rfl, hr144⟩ := hr144
          obtain ⟨x169, hx170, hb36⟩ := bs hb36
          obtain ⟨x192, hj193, hb36⟩ := bs hb36
          refine W.cutCode (fun fq wq => fq 1 = (Value.pointer (some ⟨b1, 0, none⟩)) ∧ fq 3 = (Value.int .i64 (k12 : Int)) ∧ fq 4 = (Value.int .i64 (k31 : Int)) ∧ fq 7 = (Value.int .i64 ((r_Table).length : Int)) ∧ fq 8 = (Value.int .i64 (k12 : Int)) ∧ fq 13 = (Value.int .i64 ((r_Table).length : Int)) ∧ fq 14 = (Value.int .i64 (k31 : Int)) ∧ fq 46 = Value.bool x192 ∧ St wd2 wq []) ?_ ?_
          · rcases Bool.eq_false_or_eq_true (x131 != x169) with hc194 | hc194
            · replace hj193 := ip hj193 hc194
              refine W.draw mixo 28 [fun v _ => v = (Value.pointer (some ⟨b1, 0, none⟩)), fun v _ => v = v_r_Table, fun v _ => v = (Value.pointer (some (elA v_r_Table ((0 : Int)).toNat))), fun v _ => v = u82, fun v _ => v = (Value.int .i64 (k12 : Int)) ∧ InR .i64 (k12 : Int), fun v _ => v = (Value.pointer (some (elA u82 ((k12 : Int)).toNat))), fun v _ => v = u112, fun v _ => v = (Value.int .i64 (k31 : Int)) ∧ InR .i64 (k31 : Int), fun v _ => v = (Value.pointer (some (elA u112 ((k31 : Int)).toNat))), fun v _ => v = (Value.int .i64 x131) ∧ InR .i64 x131, fun v _ => v = (Value.int .i64 (k12 : Int)) ∧ InR .i64 (k12 : Int), fun v _ => v = (Value.int .i64 (k31 : Int)) ∧ InR .i64 (k31 : Int), fun v _ => v = (Value.int .i64 x169) ∧ InR .i64 x169, fun v _ => v = (Value.bool (x131 != x169)), fun v _ => v = (Value.bool (x131 != x169)), fun v _ => v = undef, fun v _ => v = undef, fun v _ => v = undef, fun v _ => v = undef, fun v _ => v = undef, fun v _ => v = undef, fun v _ => v = undef, fun v _ => v = undef, fun v _ => v = undef, fun v _ => v = undef, fun v _ => v = undef, fun v _ => v = undef, fun v _ => v = undef] (by kernel_rfl) (by kernel_rfl) (stabL ⟨(fun _ _ _ _ h => h), (fun _ _ _ _ h => h), (fun _ _ _ _ h => h), (fun _ _ _ _ h => h), (fun _ _ _ _ h => h), (fun _ _ _ _ h => h), (fun _ _ _ _ h => h), (fun _ _ _ _ h => h), (fun _ _ _ _ h => h), (fun _ _ _ _ h => h), (fun _ _ _ _ h => h), (fun _ _ _ _ h => h), (fun _ _ _ _ h => h), (fun _ _ _ _ h => h), (fun _ _ _ _ h => h), (fun _ _ _ _ h => h), (fun _ _ _ _ h => h), (fun _ _ _ _ h => h), (fun _ _ _ _ h => h), (fun _ _ _ _ h => h), (fun _ _ _ _ h => h), (fun _ _ _ _ h => h), (fun _ _ _ _ h => h), (fun _ _ _ _ h => h), (fun _ _ _ _ h => h), (fun _ _ _ _ h => h), (fun _ _ _ _ h => h), (fun _ _ _ _ h => h), trivial⟩) ⟨?_, ?_, ?_, ?_, ?_, ?_, ?_, ?_, ?_, ?_, ?_, ?_, ?_, ?_, ?_, ?_, ?_, ?_, ?_, ?_, ?_, ?_, ?_, ?_, ?_, ?_, ?_, ?_, trivial⟩ ?_
              · intro f50 wd51 he52 hout53 hphi54
                have hS55 : St wd2 wd51 [] := St.extend hS47 he52
                have e56 : f50 1 = (Value.pointer (some ⟨b1, 0, none⟩)) := (hout53 1 rfl).trans hf40
                exact OpY.val (Value.pointer (some ⟨b1, 0, none⟩)) wd51 rfl (op_fieldAddr fd_27_0 e56) (Ext.refl _) rfl
              · intro f57 wd58 he59 hout60 hphi61
                have hS62 : St wd2 wd58 [] := St.extend hS47 he59
                have e63 : f57 17 = (Value.pointer (some ⟨b1, 0, none⟩)) := hphi61 0 17 _ rfl rfl rfl
                exact OpY.val v_r_Table wd58 rfl (op_load one_25 e63 (BoxAt.cell (BoxAt.lift hS62.ext hx6) rfl)) (Ext.refl _) rfl
              · intro f64 wd65 he66 hout67 hphi68
                have hS69 : St wd2 wd65 [] := St.extend hS47 he66
                have e70 : f64 18 = v_r_Table := hphi68 1 18 _ rfl rfl rfl
                exact OpY.val (Value.pointer (some (elA v_r_Table ((0 : Int)).toNat))) wd65 rfl (op_idx sl_25 (Ty.lift _ (Ext.trans hE7 hS69.ext) r_r_Table) e70 rfl ha72 hb73) (Ext.refl _) rfl
              · intro f75 wd76 he77 hout78 hphi79
                have hS80 : St wd2 wd76 [] := St.extend hS47 he77
                have e81 : f75 19 = (Value.pointer (some (elA v_r_Table ((0 : Int)).toNat))) := hphi79 2 19 _ rfl rfl rfl
                exact OpY.val u82 wd76 rfl (op_load one_22 e81 (Ext.cell (Ext.trans hE7 hS80.ext) hc83)) (Ext.refl _) rfl
              · intro f85 wd86 he87 hout88 hphi89
                have hS90 : St wd2 wd86 [] := St.extend hS47 he87
                have e91 : f85 3 = (Value.int .i64 (k12 : Int)) := (hout88 3 rfl).trans hf41
                exact OpY.val (Value.int .i64 (k12 : Int)) wd86 rfl (op_move e91) (Ext.refl _) ⟨rfl, hr24⟩
              · intro f92 wd93 he94 hout95 hphi96
                have hS97 : St wd2 wd93 [] := St.extend hS47 he94
                have e98 : f92 20 = u82 := hphi96 3 20 _ rfl rfl rfl
                obtain ⟨e99, hr100⟩ : f92 21 = (Value.int .i64 (k12 : Int)) ∧ InR .i64 (k12 : Int) := hphi96 4 21 _ rfl rfl rfl
                exact OpY.val (Value.pointer (some (elA u82 ((k12 : Int)).toNat))) wd93 rfl (op_idx sl_22 (Ty.lift _ (Ext.trans hE7 hS97.ext) hr84) e98 e99 ha102 hb103) (Ext.refl _) rfl
              · intro f105 wd106 he107 hout108 hphi109
                have hS110 : St wd2 wd106 [] := St.extend hS47 he107
                have e111 : f105 22 = (Value.pointer (some (elA u82 ((k12 : Int)).toNat))) := hphi109 5 22 _ rfl rfl rfl
                exact OpY.val u112 wd106 rfl (op_load one_23 e111 (Ext.cell (Ext.trans hE7 hS110.ext) hc113)) (Ext.refl _) rfl
              · intro f115 wd116 he117 hout118 hphi119
                have hS120 : St wd2 wd116 [] := St.extend hS47 he117
                have e121 : f115 4 = (Value.int .i64 (k31 : Int)) := (hout118 4 rfl).trans rfl
                exact OpY.val (Value.int .i64 (k31 : Int)) wd116 rfl (op_move e121) (Ext.refl _) ⟨rfl, hr46⟩
              · intro f122 wd123 he124 hout125 hphi126
                have hS127 : St wd2 wd123 [] := St.extend hS47 he124
                have e128 : f122 23 = u112 := hphi126 6 23 _ rfl rfl rfl
                obtain ⟨e129, hr130⟩ : f122 24 = (Value.int .i64 (k31 : Int)) ∧ InR .i64 (k31 : Int) := hphi126 7 24 _ rfl rfl rfl
                exact OpY.val (Value.pointer (some (elA u112 ((k31 : Int)).toNat))) wd123 rfl (op_idx sl_23 (Ty.lift _ (Ext.trans hE7 hS127.ext) hr114) e128 e129 ha132 hb133) (Ext.refl _) rfl
              · intro f135 wd136 he137 hout138 hphi139
                have hS140 : St wd2 wd136 [] := St.extend hS47 he137
                have e141 : f135 25 = (Value.pointer (some (elA u112 ((k31 : Int)).toNat))) := hphi139 8 25 _ rfl rfl rfl
                exact OpY.val (Value.int .i64 x131) wd136 rfl (op_load one_2 e141 (Ext.cell (Ext.trans hE7 hS140.ext) hc143)) (Ext.refl _) ⟨rfl, hr144⟩
              · intro f145 wd146 he147 hout148 hphi149
                have hS150 : St wd2 wd146 [] := St.extend hS47 he147
                have e151 : f145 3 = (Value.int .i64 (k12 : Int)) := (hout148 3 rfl).trans hf41
                exact OpY.val (Value.int .i64 (k12 : Int)) wd146 rfl (op_move e151) (Ext.refl _) ⟨rfl, hr24⟩
              · intro f152 wd153 he154 hout155 hphi156
                have hS157 : St wd2 wd153 [] := St.extend hS47 he154
                have e158 : f152 4 = (Value.int .i64 (k31 : Int)) := (hout155 4 rfl).trans rfl
                exact OpY.val (Value.int .i64 (k31 : Int)) wd153 rfl (op_move e158) (Ext.refl _) ⟨rfl, hr46⟩
              · intro f159 wd160 he161 hout162 hphi163
                have hS164 : St wd2 wd160 [] := St.extend hS47 he161
                obtain ⟨e165, hr166⟩ : f159 27 = (Value.int .i64 (k12 : Int)) ∧ InR .i64 (k12 : Int) := hphi163 10 27 _ rfl rfl rfl
                obtain ⟨e167, hr168⟩ : f159 28 = (Value.int .i64 (k31 : Int)) ∧ InR .i64 (k31 : Int) := hphi163 11 28 _ rfl rfl rfl
                refine OpY.call rfl (op_call fn_153 (args2 e165 e167)) (Ret.mono (c_impl_delta hr166 hr168 hx170) ?_)
                rintro _ wd172 ⟨rfl, hr171, he173⟩
                exact ⟨he173, ⟨rfl, hr171⟩⟩
              · intro f175 wd176 he177 hout178 hphi179
                have hS180 : St wd2 wd176 [] := St.extend hS47 he177
                obtain ⟨e181, hr182⟩ : f175 26 = (Value.int .i64 x131) ∧ InR .i64 x131 := hphi179 9 26 _ rfl rfl rfl
                obtain ⟨e183, hr184⟩ : f175 29 = (Value.int .i64 x169) ∧ InR .i64 x169 := hphi179 12 29 _ rfl rfl rfl
                exact OpY.val (Value.bool (x131 != x169)) wd176 rfl (op_neq e181 e183) (Ext.refl _) rfl
              · intro f185 wd186 he187 hout188 hphi189
                have hS190 : St wd2 wd186 [] := St.extend hS47 he187
                have e191 : f185 30 = (Value.bool (x131 != x169)) := hphi189 13 30 _ rfl rfl rfl
                exact OpY.val (Value.bool (x131 != x169)) wd186 rfl (op_move e191) (Ext.refl _) rfl
              · intro f195 wd196 he197 hout198 hphi199
                have e200 : f195 31 = (Value.bool (x131 != x169)) := hphi199 14 31 _ rfl rfl rfl
                exact OpY.skip (wanted_skip rfl rfl e200 hc194) rfl
              · intro f201 wd202 he203 hout204 hphi205
                have e206 : f201 31 = (Value.bool (x131 != x169)) := hphi205 14 31 _ rfl rfl rfl
                exact OpY.skip (wanted_skip rfl rfl e206 hc194) rfl
              · intro f207 wd208 he209 hout210 hphi211
                have e212 : f207 31 = (Value.bool (x131 != x169)) := hphi211 14 31 _ rfl rfl rfl
                exact OpY.skip (wanted_skip rfl rfl e212 hc194) rfl
              · intro f213 wd214 he215 hout216 hphi217
                have e218 : f213 31 = (Value.bool (x131 != x169)) := hphi217 14 31 _ rfl rfl rfl
                exact OpY.skip (wanted_skip rfl rfl e218 hc194) rfl
              · intro f219 wd220 he221 hout222 hphi223
                have e224 : f219 31 = (Value.bool (x131 != x169)) := hphi223 14 31 _ rfl rfl rfl
                exact OpY.skip (wanted_skip rfl rfl e224 hc194) rfl
              · intro f225 wd226 he227 hout228 hphi229
                have e230 : f225 31 = (Value.bool (x131 != x169)) := hphi229 14 31 _ rfl rfl rfl
                exact OpY.skip (wanted_skip rfl rfl e230 hc194) rfl
              · intro f231 wd232 he233 hout234 hphi235
                have e236 : f231 31 = (Value.bool (x131 != x169)) := hphi235 14 31 _ rfl rfl rfl
                exact OpY.skip (wanted_skip rfl rfl e236 hc194) rfl
              · intro f237 wd238 he239 hout240 hphi241
                have e242 : f237 31 = (Value.bool (x131 != x169)) := hphi241 14 31 _ rfl rfl rfl
                exact OpY.skip (wanted_skip rfl rfl e242 hc194) rfl
              · intro f243 wd244 he245 hout246 hphi247
                have e248 : f243 31 = (Value.bool (x131 != x169)) := hphi247 14 31 _ rfl rfl rfl
                exact OpY.skip (wanted_skip rfl rfl e248 hc194) rfl
              · intro f249 wd250 he251 hout252 hphi253
                have e254 : f249 31 = (Value.bool (x131 != x169)) := hphi253 14 31 _ rfl rfl rfl
                exact OpY.skip (wanted_skip rfl rfl e254 hc194) rfl
              · intro f255 wd256 he257 hout258 hphi259
                have e260 : f255 31 = (Value.bool (x131 != x169)) := hphi259 14 31 _ rfl rfl rfl
                exact OpY.skip (wanted_skip rfl rfl e260 hc194) rfl
              · intro f261 wd262 he263 hout264 hphi265
                have e266 : f261 31 = (Value.bool (x131 != x169)) := hphi265 14 31 _ rfl rfl rfl
                exact OpY.skip (wanted_skip rfl rfl e266 hc194) rfl
              · intro f267 wd268 he269 hout270 hphi271
                have e272 : f267 31 = (Value.bool (x131 != x169)) := hphi271 14 31 _ rfl rfl rfl
                exact OpY.skip (wanted_skip rfl rfl e272 hc194) rfl
              · intro f273 wd274 he275 hout276 hphi277
                show WL _ _ _ _ _ _ _
                have hS278 : St wd2 wd274 [] := St.extend hS47 he275
                have e279 : f273 31 = (Value.bool (x131 != x169)) := hphi277 14 31 _ (by decide) rfl rfl
                have e280 : f273 32 = undef := hphi277 15 32 _ (by decide) rfl rfl
                have e281 : f273 33 = undef := hphi277 16 33 _ (by decide) rfl rfl
                have e282 : f273 34 = undef := hphi277 17 34 _ (by decide) rfl rfl
                have e283 : f273 35 = undef := hphi277 18 35 _ (by decide) rfl rfl
                have e284 : f273 36 = undef := hphi277 19 36 _ (by decide) rfl rfl
                have e285 : f273 37 = undef := hphi277 20 37 _ (by decide) rfl rfl
                have e286 : f273 38 = undef := hphi277 21 38 _ (by decide) rfl rfl
                have e287 : f273 39 = undef := hphi277 22 39 _ (by decide) rfl rfl
                have e288 : f273 40 = undef := hphi277 23 40 _ (by decide) rfl rfl
                have e289 : f273 41 = undef := hphi277 24 41 _ (by decide) rfl rfl
                have e290 : f273 42 = undef := hphi277 25 42 _ (by decide) rfl rfl
                have e291 : f273 43 = undef := hphi277 26 43 _ (by decide) rfl rfl
                have e292 : f273 44 = undef := hphi277 27 44 _ (by decide) rfl rfl
                have e293 : f273 1 = (Value.pointer (some ⟨b1, 0, none⟩)) := (hout276 1 rfl).trans hf40
                have e294 : f273 3 = (Value.int .i64 (k12 : Int)) := (hout276 3 rfl).trans hf41
                have e295 : f273 4 = (Value.int .i64 (k31 : Int)) := (hout276 4 rfl).trans rfl
                have e296 : f273 7 = (Value.int .i64 ((r_Table).length : Int)) := (hout276 7 rfl).trans hf42
                have e297 : f273 8 = (Value.int .i64 (k12 : Int)) := (hout276 8 rfl).trans hf43
                have e298 : f273 13 = (Value.int .i64 ((r_Table).length : Int)) := (hout276 13 rfl).trans hf44
                have e299 : f273 14 = (Value.int .i64 (k31 : Int)) := (hout276 14 rfl).trans hf45
                refine WL.gskip rfl (bool_of e279 hc194) rfl ?_
                refine WL.val (Value.bool true) _ (op_pick_t (evb_of e279 hc194) rfl) rfl ?_
                refine WL.nil ?_
                obtain rfl := Option.some.inj hj193
                exact ⟨e293, e294, e295, e296, e297, e298, e299, rfl, hS278⟩
            · replace hj193 := inegb hj193 hc194
              obtain ⟨x334, hx337, hj193⟩ := bs hj193
              obtain ⟨ha335, hb336, hx337⟩ := idx_some hx337
              obtain ⟨u346, hc347, hr348⟩ := repSl.el r_r_Table hx337
              obtain ⟨x357, hx360, hj193⟩ := bs hj193
              obtain ⟨ha358, hb359, hx360⟩ := idx_some hx360
              obtain ⟨u369, hc370, hr371⟩ := repSl.el hr348 hx360
              obtain ⟨x390, hx393, hj193⟩ := bs hj193
              obtain ⟨ha391, hb392, hx393⟩ := idx_some hx393
              obtain ⟨u402, hc403, hr404⟩ := repSl.el hr371 hx393
              obtain ⟨rfl, hr404⟩ := hr404
              obtain ⟨x432, hx433, hj193⟩ := bs hj193
              refine W.draw mixo 28 [fun v _ => v = (Value.pointer (some ⟨b1, 0, none⟩)), fun v _ => v = v_r_Table, fun v _ => v = (Value.pointer (some (elA v_r_Table ((0 : Int)).toNat))), fun v _ => v = u82, fun v _ => v = (Value.int .i64 (k12 : Int)) ∧ InR .i64 (k12 : Int), fun v _ => v = (Value.pointer (some (elA u82 ((k12 : Int)).toNat))), fun v _ => v = u112, fun v _ => v = (Value.int .i64 (k31 : Int)) ∧ InR .i64 (k31 : Int), fun v _ => v = (Value.pointer (some (elA u112 ((k31 : Int)).toNat))), fun v _ => v = (Value.int .i64 x131) ∧ InR .i64 x131, fun v _ => v = (Value.int .i64 (k12 : Int)) ∧ InR .i64 (k12 : Int), fun v _ => v = (Value.int .i64 (k31 : Int)) ∧ InR .i64 (k31 : Int), fun v _ => v = (Value.int .i64 x169) ∧ InR .i64 x169, fun v _ => v = (Value.bool (x131 != x169)), fun v _ => v = (Value.bool (x131 != x169)), fun v _ => v = (Value.pointer (some ⟨b1, 0, none⟩)), fun v _ => v = v_r_Table, fun v _ => v = (Value.int .i64 (k12 : Int)) ∧ InR .i64 (k12 : Int), fun v _ => v = (Value.pointer (some (elA v_r_Table ((k12 : Int)).toNat))), fun v _ => v = u346, fun v _ => v = (Value.pointer (some (elA u346 ((0 : Int)).toNat))), fun v _ => v = u369, fun v _ => v = (Value.int .i64 (k31 : Int)) ∧ InR .i64 (k31 : Int), fun v _ => v = (Value.pointer (some (elA u369 ((k31 : Int)).toNat))), fun v _ => v = (Value.int .i64 x390) ∧ InR .i64 x390, fun v _ => v = (Value.int .i64 (k12 : Int)) ∧ InR .i64 (k12 : Int), fun v _ => v = (Value.int .i64 (k31 : Int)) ∧ InR .i64 (k31 : Int), fun v _ => v = (Value.int .i64 x432) ∧ InR .i64 x432] (by kernel_rfl) (by kernel_rfl) (stabL ⟨(fun _ _ _ _ h => h), (fun _ _ _ _ h => h), (fun _ _ _ _ h => h), (fun _ _ _ _ h => h), (fun _ _ _ _ h => h), (fun _ _ _ _ h => h), (fun _ _ _ _ h => h), (fun _ _ _ _ h => h), (fun _ _ _ _ h => h), (fun _ _ _ _ h => h), (fun _ _ _ _ h => h), (fun _ _ _ _ h => h), (fun _ _ _ _ h => h), (fun _ _ _ _ h => h), (fun _ _ _ _ h => h), (fun _ _ _ _ h => h), (fun _ _ _ _ h => h), (fun _ _ _ _ h => h), (fun _ _ _ _ h => h), (fun _ _ _ _ h => h), (fun _ _ _ _ h => h), (fun _ _ _ _ h => h), (fun _ _ _ _ h => h), (fun _ _ _ _ h => h), (fun _ _ _ _ h => h), (fun _ _ _ _ h => h), (fun _ _ _ _ h => h), (fun _ _ _ _ h => h), trivial⟩) ⟨?_, ?_, ?_, ?_, ?_, ?_, ?_, ?_, ?_, ?_, ?_, ?_, ?_, ?_, ?_, ?_, ?_, ?_, ?_, ?_, ?_, ?_, ?_, ?_, ?_, ?_, ?_, ?_, trivial⟩ ?_
              · intro f50 wd51 he52 hout53 hphi54
                have hS55 : St wd2 wd51 [] := St.extend hS47 he52
                have e56 : f50 1 = (Value.pointer (some ⟨b1, 0, none⟩)) := (hout53 1 rfl).trans hf40
                exact OpY.val (Value.pointer (some ⟨b1, 0, none⟩)) wd51 rfl (op_fieldAddr fd_27_0 e56) (Ext.refl _) rfl
              · intro f57 wd58 he59 hout60 hphi61
                have hS62 : St wd2 wd58 [] := St.extend hS47 he59
                have e63 : f57 17 = (Value.pointer (some ⟨b1, 0, none⟩)) := hphi61 0 17 _ rfl rfl rfl
                exact OpY.val v_r_Table wd58 rfl (op_load one_25 e63 (BoxAt.cell (BoxAt.lift hS62.ext hx6) rfl)) (Ext.refl _) rfl
              · intro f64 wd65 he66 hout67 hphi68
                have hS69 : St wd2 wd65 [] := St.extend hS47 he66
                have e70 : f64 18 = v_r_Table := hphi68 1 18 _ rfl rfl rfl
                exact OpY.val (Value.pointer (some (elA v_r_Table ((0 : Int)).toNat))) wd65 rfl (op_idx sl_25 (Ty.lift _ (Ext.trans hE7 hS69.ext) r_r_Table) e70 rfl ha72 hb73) (Ext.refl _) rfl
              · intro f75 wd76 he77 hout78 hphi79
                have hS80 : St wd2 wd76 [] := St.extend hS47 he77
                have e81 : f75 19 = (Value.pointer (some (elA v_r_Table ((0 : Int)).toNat))) := hphi79 2 19 _ rfl rfl rfl
                exact OpY.val u82 wd76 rfl (op_load one_22 e81 (Ext.cell (Ext.trans hE7 hS80.ext) hc83)) (Ext.refl _) rfl
              · intro f85 wd86 he87 hout88 hphi89
                have hS90 : St wd2 wd86 [] := St.extend hS47 he87
                have e91 : f85 3 = (Value.int .i64 (k12 : Int)) := (hout88 3 rfl).trans hf41
                exact OpY.val (Value.int .i64 (k12 : Int)) wd86 rfl (op_move e91) (Ext.refl _) ⟨rfl, hr24⟩
              · intro f92 wd93 he94 hout95 hphi96
                have hS97 : St wd2 wd93 [] := St.extend hS47 he94
                have e98 : f92 20 = u82 := hphi96 3 20 _ rfl rfl rfl
                obtain ⟨e99, hr100⟩ : f92 21 = (Value.int .i64 (k12 : Int)) ∧ InR .i64 (k12 : Int) := hphi96 4 21 _ rfl rfl rfl
                exact OpY.val (Value.pointer (some (elA u82 ((k12 : Int)).toNat))) wd93 rfl (op_idx sl_22 (Ty.lift _ (Ext.trans hE7 hS97.ext) hr84) e98 e99 ha102 hb103) (Ext.refl _) rfl
              · intro f105 wd106 he107 hout108 hphi109
                have hS110 : St wd2 wd106 [] := St.extend hS47 he107
                have e111 : f105 22 = (Value.pointer (some (elA u82 ((k12 : Int)).toNat))) := hphi109 5 22 _ rfl rfl rfl
                exact OpY.val u112 wd106 rfl (op_load one_23 e111 (Ext.cell (Ext.trans hE7 hS110.ext) hc113)) (Ext.refl _) rfl
              · intro f115 wd116 he117 hout118 hphi119
                have hS120 : St wd2 wd116 [] := St.extend hS47 he117
                have e121 : f115 4 = (Value.int .i64 (k31 : Int)) := (hout118 4 rfl).trans rfl
                exact OpY.val (Value.int .i64 (k31 : Int)) wd116 rfl (op_move e121) (Ext.refl _) ⟨rfl, hr46⟩
              · intro f122 wd123 he124 hout125 hphi126
                have hS127 : St wd2 wd123 [] := St.extend hS47 he124
                have e128 : f122 23 = u112 := hphi126 6 23 _ rfl rfl rfl
                obtain ⟨e129, hr130⟩ : f122 24 = (Value.int .i64 (k31 : Int)) ∧ InR .i64 (k31 : Int) := hphi126 7 24 _ rfl rfl rfl
                exact OpY.val (Value.pointer (some (elA u112 ((k31 : Int)).toNat))) wd123 rfl (op_idx sl_23 (Ty.lift _ (Ext.trans hE7 hS127.ext) hr114) e128 e129 ha132 hb133) (Ext.refl _) rfl
              · intro f135 wd136 he137 hout138 hphi139
                have hS140 : St wd2 wd136 [] := St.extend hS47 he137
                have e141 : f135 25 = (Value.pointer (some (elA u112 ((k31 : Int)).toNat))) := hphi139 8 25 _ rfl rfl rfl
                exact OpY.val (Value.int .i64 x131) wd136 rfl (op_load one_2 e141 (Ext.cell (Ext.trans hE7 hS140.ext) hc143)) (Ext.refl _) ⟨rfl, hr144⟩
              · intro f145 wd146 he147 hout148 hphi149
                have hS150 : St wd2 wd146 [] := St.extend hS47 he147
                have e151 : f145 3 = (Value.int .i64 (k12 : Int)) := (hout148 3 rfl).trans hf41
                exact OpY.val (Value.int .i64 (k12 : Int)) wd146 rfl (op_move e151) (Ext.refl _) ⟨rfl, hr24⟩
              · intro f152 wd153 he154 hout155 hphi156
                have hS157 : St wd2 wd153 [] := St.extend hS47 he154
                have e158 : f152 4 = (Value.int .i64 (k31 : Int)) := (hout155 4 rfl).trans rfl
                exact OpY.val (Value.int .i64 (k31 : Int)) wd153 rfl (op_move e158) (Ext.refl _) ⟨rfl, hr46⟩
              · intro f159 wd160 he161 hout162 hphi163
                have hS164 : St wd2 wd160 [] := St.extend hS47 he161
                obtain ⟨e165, hr166⟩ : f159 27 = (Value.int .i64 (k12 : Int)) ∧ InR .i64 (k12 : Int) := hphi163 10 27 _ rfl rfl rfl
                obtain ⟨e167, hr168⟩ : f159 28 = (Value.int .i64 (k31 : Int)) ∧ InR .i64 (k31 : Int) := hphi163 11 28 _ rfl rfl rfl
                refine OpY.call rfl (op_call fn_153 (args2 e165 e167)) (Ret.mono (c_impl_delta hr166 hr168 hx170) ?_)
                rintro _ wd172 ⟨rfl, hr171, he173⟩
                exact ⟨he173, ⟨rfl, hr171⟩⟩
              · intro f175 wd176 he177 hout178 hphi179
                have hS180 : St wd2 wd176 [] := St.extend hS47 he177
                obtain ⟨e181, hr182⟩ : f175 26 = (Value.int .i64 x131) ∧ InR .i64 x131 := hphi179 9 26 _ rfl rfl rfl
                obtain ⟨e183, hr184⟩ : f175 29 = (Value.int .i64 x169) ∧ InR .i64 x169 := hphi179 12 29 _ rfl rfl rfl
                exact OpY.val (Value.bool (x131 != x169)) wd176 rfl (op_neq e181 e183) (Ext.refl _) rfl
              · intro f185 wd186 he187 hout188 hphi189
                have hS190 : St wd2 wd186 [] := St.extend hS47 he187
                have e191 : f185 30 = (Value.bool (x131 != x169)) := hphi189 13 30 _ rfl rfl rfl
                exact OpY.val (Value.bool (x131 != x169)) wd186 rfl (op_move e191) (Ext.refl _) rfl
              · intro f300 wd301 he302 hout303 hphi304
                have hS305 : St wd2 wd301 [] := St.extend hS47 he302
                have e306 : f300 1 = (Value.pointer (some ⟨b1, 0, none⟩)) := (hout303 1 rfl).trans hf40
                have e307 : f300 31 = (Value.bool (x131 != x169)) := hphi304 14 31 _ rfl rfl rfl
                exact OpY.val (Value.pointer (some ⟨b1, 0, none⟩)) wd301 (wanted_run rfl rfl e307 hc194) (op_fieldAddr fd_27_0 e306) (Ext.refl _) rfl
              · intro f308 wd309 he310 hout311 hphi312
                have hS313 : St wd2 wd309 [] := St.extend hS47 he310
                have e314 : f308 31 = (Value.bool (x131 != x169)) := hphi312 14 31 _ rfl rfl rfl
                have e315 : f308 32 = (Value.pointer (some ⟨b1, 0, none⟩)) := hphi312 15 32 _ rfl rfl rfl
                exact OpY.val v_r_Table wd309 (wanted_run rfl rfl e314 hc194) (op_load one_25 e315 (BoxAt.cell (BoxAt.lift hS313.ext hx6) rfl)) (Ext.refl _) rfl
              · intro f316 wd317 he318 hout319 hphi320
                have hS321 : St wd2 wd317 [] := St.extend hS47 he318
                have e322 : f316 3 = (Value.int .i64 (k12 : Int)) := (hout319 3 rfl).trans hf41
                have e323 : f316 31 = (Value.bool (x131 != x169)) := hphi320 14 31 _ rfl rfl rfl
                exact OpY.val (Value.int .i64 (k12 : Int)) wd317 (wanted_run rfl rfl e323 hc194) (op_move e322) (Ext.refl _) ⟨rfl, hr24⟩
              · intro f324 wd325 he326 hout327 hphi328
                have hS329 : St wd2 wd325 [] := St.extend hS47 he326
                have e330 : f324 31 = (Value.bool (x131 != x169)) := hphi328 14 31 _ rfl rfl rfl
                have e331 : f324 33 = v_r_Table := hphi328 16 33 _ rfl rfl rfl
                obtain ⟨e332, hr333⟩ : f324 34 = (Value.int .i64 (k12 : Int)) ∧ InR .i64 (k12 : Int) := hphi328 17 34 _ rfl rfl rfl
                exact OpY.val (Value.pointer (some (elA v_r_Table ((k12 : Int)).toNat))) wd325 (wanted_run rfl rfl e330 hc194) (op_idx sl_25 (Ty.lift _ (Ext.trans hE7 hS329.ext) r_r_Table) e331 e332 ha335 hb336) (Ext.refl _) rfl
              · intro f338 wd339 he340 hout341 hphi342
                have hS343 : St wd2 wd339 [] := St.extend hS47 he340
                have e344 : f338 31 = (Value.bool (x131 != x169)) := hphi342 14 31 _ rfl rfl rfl
                have e345 : f338 35 = (Value.pointer (some (elA v_r_Table ((k12 : Int)).toNat))) := hphi342 18 35 _ rfl rfl rfl
                exact OpY.val u346 wd339 (wanted_run rfl rfl e344 hc194) (op_load one_22 e345 (Ext.cell (Ext.trans hE7 hS343.ext) hc347)) (Ext.refl _) rfl
              · intro f349 wd350 he351 hout352 hphi353
                have hS354 : St wd2 wd350 [] := St.extend hS47 he351
                have e355 : f349 31 = (Value.bool (x131 != x169)) := hphi353 14 31 _ rfl rfl rfl
                have e356 : f349 36 = u346 := hphi353 19 36 _ rfl rfl rfl
                exact OpY.val (Value.pointer (some (elA u346 ((0 : Int)).toNat))) wd350 (wanted_run rfl rfl e355 hc194) (op_idx sl_22 (Ty.lift _ (Ext.trans hE7 hS354.ext) hr348) e356 rfl ha358 hb359) (Ext.refl _) rfl
              · intro f361 wd362 he363 hout364 hphi365
                have hS366 : St wd2 wd362 [] := St.extend hS47 he363
                have e367 : f361 31 = (Value.bool (x131 != x169)) := hphi365 14 31 _ rfl rfl rfl
                have e368 : f361 37 = (Value.pointer (some (elA u346 ((0 : Int)).toNat))) := hphi365 20 37 _ rfl rfl rfl
                exact OpY.val u369 wd362 (wanted_run rfl rfl e367 hc194) (op_load one_23 e368 (Ext.cell (Ext.trans hE7 hS366.ext) hc370)) (Ext.refl _) rfl
              · intro f372 wd373 he374 hout375 hphi376
                have hS377 : St wd2 wd373 [] := St.extend hS47 he374
                have e378 : f372 4 = (Value.int .i64 (k31 : Int)) := (hout375 4 rfl).trans rfl
                have e379 : f372 31 = (Value.bool (x131 != x169)) := hphi376 14 31 _ rfl rfl rfl
                exact OpY.val (Value.int .i64 (k31 : Int)) wd373 (wanted_run rfl rfl e379 hc194) (op_move e378) (Ext.refl _) ⟨rfl, hr46⟩
              · intro f380 wd381 he382 hout383 hphi384
                have hS385 : St wd2 wd381 [] := St.extend hS47 he382
                have e386 : f380 31 = (Value.bool (x131 != x169)) := hphi384 14 31 _ rfl rfl rfl
                have e387 : f380 38 = u369 := hphi384 21 38 _ rfl rfl rfl
                obtain ⟨e388, hr389⟩ : f380 39 = (Value.int .i64 (k31 : Int)) ∧ InR .i64 (k31 : Int) := hphi384 22 39 _ rfl rfl rfl
                exact OpY.val (Value.pointer (some (elA u369 ((k31 : Int)).toNat))) wd381 (wanted_run rfl rfl e386 hc194) (op_idx sl_23 (Ty.lift _ (Ext.trans hE7 hS385.ext) hr371) e387 e388 ha391 hb392) (Ext.refl _) rfl
              · intro f394 wd395 he396 hout397 hphi398
                have hS399 : St wd2 wd395 [] := St.extend hS47 he396
                have e400 : f394 31 = (Value.bool (x131 != x169)) := hphi398 14 31 _ rfl rfl rfl
                have e401 : f394 40 = (Value.pointer (some (elA u369 ((k31 : Int)).toNat))) := hphi398 23 40 _ rfl rfl rfl
                exact OpY.val (Value.int .i64 x390) wd395 (wanted_run rfl rfl e400 hc194) (op_load one_2 e401 (Ext.cell (Ext.trans hE7 hS399.ext) hc403)) (Ext.refl _) ⟨rfl, hr404⟩
              · intro f405 wd406 he407 hout408 hphi409
                have hS410 : St wd2 wd406 [] := St.extend hS47 he407
                have e411 : f405 3 = (Value.int .i64 (k12 : Int)) := (hout408 3 rfl).trans hf41
                have e412 : f405 31 = (Value.bool (x131 != x169)) := hphi409 14 31 _ rfl rfl rfl
                exact OpY.val (Value.int .i64 (k12 : Int)) wd406 (wanted_run rfl rfl e412 hc194) (op_move e411) (Ext.refl _) ⟨rfl, hr24⟩
              · intro f413 wd414 he415 hout416 hphi417
                have hS418 : St wd2 wd414 [] := St.extend hS47 he415
                have e419 : f413 4 = (Value.int .i64 (k31 : Int)) := (hout416 4 rfl).trans rfl
                have e420 : f413 31 = (Value.bool (x131 != x169)) := hphi417 14 31 _ rfl rfl rfl
                exact OpY.val (Value.int .i64 (k31 : Int)) wd414 (wanted_run rfl rfl e420 hc194) (op_move e419) (Ext.refl _) ⟨rfl, hr46⟩
              · intro f421 wd422 he423 hout424 hphi425
                have hS426 : St wd2 wd422 [] := St.extend hS47 he423
                have e427 : f421 31 = (Value.bool (x131 != x169)) := hphi425 14 31 _ rfl rfl rfl
                obtain ⟨e428, hr429⟩ : f421 42 = (Value.int .i64 (k12 : Int)) ∧ InR .i64 (k12 : Int) := hphi425 25 42 _ rfl rfl rfl
                obtain ⟨e430, hr431⟩ : f421 43 = (Value.int .i64 (k31 : Int)) ∧ InR .i64 (k31 : Int) := hphi425 26 43 _ rfl rfl rfl
                refine OpY.call (wanted_run rfl rfl e427 hc194) (op_call fn_153 (args2 e428 e430)) (Ret.mono (c_impl_delta hr429 hr431 hx433) ?_)
                rintro _ wd435 ⟨rfl, hr434, he436⟩
                exact ⟨he436, ⟨rfl, hr434⟩⟩
              · intro f438 wd439 he440 hout441 hphi442
                show WL _ _ _ _ _ _ _
                have hS443 : St wd2 wd439 [] := St.extend hS47 he440
                have e444 : f438 31 = (Value.bool (x131 != x169)) := hphi442 14 31 _ (by decide) rfl rfl
                have e445 : f438 32 = (Value.pointer (some ⟨b1, 0, none⟩)) := hphi442 15 32 _ (by decide) rfl rfl
                have e446 : f438 33 = v_r_Table := hphi442 16 33 _ (by decide) rfl rfl
                obtain ⟨e447, hr448⟩ : f438 34 = (Value.int .i64 (k12 : Int)) ∧ InR .i64 (k12 : Int) := hphi442 17 34 _ (by decide) rfl rfl
                have e449 : f438 35 = (Value.pointer (some (elA v_r_Table ((k12 : Int)).toNat))) := hphi442 18 35 _ (by decide) rfl rfl
                have e450 : f438 36 = u346 := hphi442 19 36 _ (by decide) rfl rfl
                have e451 : f438 37 = (Value.pointer (some (elA u346 ((0 : Int)).toNat))) := hphi442 20 37 _ (by decide) rfl rfl
                have e452 : f438 38 = u369 := hphi442 21 38 _ (by decide) rfl rfl
                obtain ⟨e453, hr454⟩ : f438 39 = (Value.int .i64 (k31 : Int)) ∧ InR .i64 (k31 : Int) := hphi442 22 39 _ (by decide) rfl rfl
                have e455 : f438 40 = (Value.pointer (some (elA u369 ((k31 : Int)).toNat))) := hphi442 23 40 _ (by decide) rfl rfl
                obtain ⟨e456, hr457⟩ : f438 41 = (Value.int .i64 x390) ∧ InR .i64 x390 := hphi442 24 41 _ (by decide) rfl rfl
                obtain ⟨e458, hr459⟩ : f438 42 = (Value.int .i64 (k12 : Int)) ∧ InR .i64 (k12 : Int) := hphi442 25 42 _ (by decide) rfl rfl
                obtain ⟨e460, hr461⟩ : f438 43 = (Value.int .i64 (k31 : Int)) ∧ InR .i64 (k31 : Int) := hphi442 26 43 _ (by decide) rfl rfl
                obtain ⟨e462, hr463⟩ : f438 44 = (Value.int .i64 x432) ∧ InR .i64 x432 := hphi442 27 44 _ (by decide) rfl rfl
                have e464 : f438 1 = (Value.pointer (some ⟨b1, 0, none⟩)) := (hout441 1 rfl).trans hf40
                have e465 : f438 3 = (Value.int .i64 (k12 : Int)) := (hout441 3 rfl).trans hf41
                have e466 : f438 4 = (Value.int .i64 (k31 : Int)) := (hout441 4 rfl).trans rfl
                have e467 : f438 7 = (Value.int .i64 ((r_Table).length : Int)) := (hout441 7 rfl).trans hf42
                have e468 : f438 8 = (Value.int .i64 (k12 : Int)) := (hout441 8 rfl).trans hf43
                have e469 : f438 13 = (Value.int .i64 ((r_Table).length : Int)) := (hout441 13 rfl).trans hf44
                have e470 : f438 14 = (Value.int .i64 (k31 : Int)) := (hout441 14 rfl).trans hf45
                refine WL.grun rfl (bool_of e444 hc194) ?_
                refine WL.val (Value.bool (x390 != x432)) _ (op_neq e456 e462) rfl ?_
                refine WL.val (Value.bool (x390 != x432)) _ (op_pick_f (evb_of e444 hc194) rfl) rfl ?_
                refine WL.nil ?_
                obtain rfl := Option.some.inj hj193
                exact ⟨e464, e465, e466, e467, e468, e469, e470, rfl, hS443⟩
          · intro f471 wd472 hq473
            obtain ⟨hf474, hf475, hf476, hf477, hf478, hf479, hf480, hf481, hS482⟩ := hq473
            show W _ _ _ _ _ _
            refine W.cond x192 hf481 (fun hc483 => ?_) (fun hc483 => ?_)
            · replace hb36 := ip hb36 hc483
              refine W.seq ?_
              refine W.region ?_
              refine WL.val (Value.int .i64 (k12 : Int)) _ (op_move hf475) rfl ?_
              refine WL.val (Value.int .i64 (k31 : Int)) _ (op_move hf476) rfl ?_
              refine WL.litFlat (t := (Ty.i .i64)) (flat_i .i64) [(Value.int .i64 (0 : Int)), (Value.int .i64 (k12 : Int)), (Value.int .i64 (k31 : Int))] [(0 : Int), (k12 : Int), (k31 : Int)] hS482 sl_23 rfl rfl (fillL rfl ⟨rfl, rfl, rfl, rfl, rfl, rfl, rfl, rfl, rfl, trivial⟩) rfl rfl (litL ⟨⟨rfl, (inR_i64.2 (show (-9223372036854775808 : Int) ≤ 0 ∧ (0 : Int) ≤ 9223372036854775807 from by decide))⟩, ⟨rfl, hr24⟩, ⟨rfl, hr46⟩, trivial⟩) rfl ?_
              intro u485 wd486 hS487 he488
              replace hS487 : St wd2 wd486 [(Ty.sl (Ty.i .i64)).at u485 ([(0 : Int), (k12 : Int), (k31 : Int)] : (List Int))] := hS487
              refine WL.val u485 _ (op_assign rfl) rfl ?_
              refine WL.nil ?_
              show W _ _ _ _ _ _
              refine W.ret ?_
              obtain rfl := Option.some.inj hb36
              obtain rfl := hret39 _ rfl
              replace hb17 := onRes_ret hb17
              obtain rfl := Option.some.inj hb17
              obtain rfl := hret20 _ rfl
              replace h := onRes_ret h
              obtain rfl := Option.some.inj h
              show FinP _ _ _ _ _ _ _
              exact FinP.ret _ (res1 rfl rfl) ⟨u485, rfl, (nil_cons), (Ext.trans hE7 hS487.ext), (St.out (St.pick hS487 [0] rfl) (hE7))⟩
            · replace hb36 := inegb hb36 hc483
              refine W.skip ?_
              show W _ _ _ _ _ _
              refine W.region ?_
              refine WL.val (Value.int .i64 (w64 ((k31 : Int) + (1 : Int)))) _ (op_add hf480 rfl) rfl ?_
              refine WL.val (Value.int .i64 (w64 ((k31 : Int) + (1 : Int)))) _ (op_move rfl) rfl ?_
              refine WL.nil ?_
              obtain rfl := Option.some.inj hb36
              show ∃ s, _ = Ctl.next s ∧ _
              exact ⟨_, rfl, hf474, hf475, hf477, hf478, hf479, (ctr_next hl48 hr28), (ctr_rng hl48 hr28), hS482⟩
        · intro s494 f490 wd491 hs492 hI493
          obtain ⟨⟩ := s494
          replace hI493 : f490 1 = (Value.pointer (some ⟨b1, 0, none⟩)) ∧ f490 3 = (Value.int .i64 (k12 : Int)) ∧ f490 7 = (Value.int .i64 ((r_Table).length : Int)) ∧ f490 8 = (Value.int .i64 (k12 : Int)) ∧ f490 13 = (Value.int .i64 ((r_Table).length : Int)) ∧ f490 14 = Value.int .i64 (((r_Table).length : Nat) : Int) ∧ InR .i64 (((r_Table).length : Nat) : Int) ∧ St wd2 wd491 [] := hI493
          obtain ⟨hf495, hf496, hf497, hf498, hf499, hf500, hr501, hS502⟩ := hI493
          refine W.seq ?_
          refine W.region ?_
          refine WL.val (Value.bool (decide ((((r_Table).length : Nat) : Int) < ((r_Table).length : Int)))) _ (op_lss hf500 hf499) rfl ?_
          have hl503 : ¬ (((r_Table).length : Nat) : Int) < ((r_Table).length : Int) := by omega
          refine WL.nil ?_
          show W _ _ _ _ _ _
          refine W.seq ?_
          refine W.condF (decide ((((r_Table).length : Nat) : Int) < ((r_Table).length : Int))) rfl (decide_eq_false hl503) ?_
          refine W.exit ?_
          show _ = _ ∧ _
          exact ⟨rfl, _, hs492, hf495, hf497, hf498, hS502⟩
      · rintro f504 wd505 ⟨s507, rfl, hq506⟩
        replace hb17 := onRes_fin hb17
        obtain ⟨⟩ := s507
        replace hq506 : f504 1 = (Value.pointer (some ⟨b1, 0, none⟩)) ∧ f504 7 = (Value.int .i64 ((r_Table).length : Int)) ∧ f504 8 = (Value.int .i64 (k12 : Int)) ∧ St wd2 wd505 [] := hq506
        obtain ⟨hf508, hf509, hf510, hS511⟩ := hq506
        show W _ _ _ _ _ _
        refine W.region ?_
        refine WL.val (Value.int .i64 (w64 ((k12 : Int) + (1 : Int)))) _ (op_add hf510 rfl) rfl ?_
        refine WL.val (Value.int .i64 (w64 ((k12 : Int) + (1 : Int)))) _ (op_move rfl) rfl ?_
        refine WL.nil ?_
        obtain rfl := Option.some.inj hb17
        show ∃ s, _ = Ctl.next s ∧ _
        exact ⟨_, rfl, hf508, hf509, (ctr_next hl26 hr9), (ctr_rng hl26 hr9), hS511⟩
    · intro s518 f514 wd515 hs516 hI517
      obtain ⟨⟩ := s518
      replace hI517 : f514 1 = (Value.pointer (some ⟨b1, 0, none⟩)) ∧ f514 7 = (Value.int .i64 ((r_Table).length : Int)) ∧ f514 8 = Value.int .i64 (((r_Table).length : Nat) : Int) ∧ InR .i64 (((r_Table).length : Nat) : Int) ∧ St wd2 wd515 [] := hI517
      obtain ⟨hf519, hf520, hf521, hr522, hS523⟩ := hI517
      refine W.seq ?_
      refine W.region ?_
      refine WL.val (Value.bool (decide ((((r_Table).length : Nat) : Int) < ((r_Table).length : Int)))) _ (op_lss hf521 hf520) rfl ?_
      have hl524 : ¬ (((r_Table).length : Nat) : Int) < ((r_Table).length : Int) := by omega
      refine WL.nil ?_
      show W _ _ _ _ _ _
      refine W.seq ?_
      refine W.condF (decide ((((r_Table).length : Nat) : Int) < ((r_Table).length : Int))) rfl (decide_eq_false hl524) ?_
      refine W.exit ?_
      show _ = _ ∧ _
      exact ⟨rfl, _, hs516, hS523⟩
  · rintro f525 wd526 ⟨s528, rfl, hq527⟩
    replace h := onRes_fin h
    obtain ⟨⟩ := s528
    replace hq527 : St wd2 wd526 [] := hq527
    have hS529 := hq527
    show W _ _ _ _ _ _
    refine W.seq ?_
    refine W.region ?_
    refine WL.val (Value.slice none 0 0) _ (op_assign rfl) rfl ?_
    refine WL.nil ?_
    show W _ _ _ _ _ _
    refine W.ret ?_
    obtain rfl := Option.some.inj h
    show FinP _ _ _ _ _ _ _
    exact FinP.ret _ (res1 rfl rfl) ⟨(Value.slice none 0 0), rfl, (fun _ => ⟨0, 0, rfl⟩), (Ext.trans hE7 hS529.ext), (St.out (St.pick (St.addNil (Ty.i .i64) hS529) [0] rfl) (hE7))⟩

theorem c_impl_Ring_onlyOf {w : World} {r_Table : (List (List (List Int)))} {v_r_Table : Value} {i : Int} (r_r_Table : (Ty.sl (Ty.sl (Ty.sl (Ty.i .i64)))).rep w v_r_Table r_Table) (r_i : InR .i64 i) {res : Int} (h : p_impl_Ring_onlyOf r_Table i  = some res) :
    Ret Try.prog 124 #[(Value.agg #[v_r_Table]), (Value.int .i64 i)] w (fun v w' => v = Value.int .i64 res ∧ InR .i64 res ∧ Ext w w') := by
  unfold p_impl_Ring_onlyOf at h
  have hS0 : St w w [] := St.start w
  refine Ret.start (fn := Try.f124) Try.func124 rfl 34 rfl rfl ?_
  refine W.seq ?_
  refine W.region ?_
  refine WL.box hS0 rfl (cs := [v_r_Table]) rfl rfl ?_
  intro b1 wd2 hS3 he4 hx5
  replace hS3 : St w wd2 [bx b1 [v_r_Table]] := hS3
  have hx6 := St.boxAt hS3 0 rfl
  have hE7 : Ext w wd2 := hS3.ext
  have hS8 : St wd2 wd2 [] := St.start wd2
  refine WL.val (Value.int .i64 (0 : Int)) _ (op_assign rfl) rfl ?_
  refine WL.nil ?_
  show W _ _ _ _ _ _
  refine W.seq ?_
  refine W.region ?_
  refine WL.val (Value.int .i64 (-1 : Int)) _ (op_assign rfl) rfl ?_
  refine WL.nil ?_
  show W _ _ _ _ _ _
  refine W.seq ?_
  refine W.seq ?_
  refine W.region ?_
  refine WL.val (Value.pointer (some ⟨b1, 0, none⟩)) _ (op_fieldAddr fd_27_0 rfl) rfl ?_
  refine WL.val v_r_Table _ (op_load one_25 rfl (BoxAt.cell (BoxAt.lift hS8.ext hx6) rfl)) rfl ?_
  refine WL.val (Value.int .i64 i) _ (op_move rfl) rfl ?_
  obtain ⟨x9, hx12, h⟩ := bs h
  obtain ⟨ha10, hb11, hx12⟩ := idx_some hx12
  refine WL.val (Value.pointer (some (elA v_r_Table (i).toNat))) _ (op_idx sl_25 (Ty.lift _ (Ext.trans hE7 hS8.ext) r_r_Table) rfl rfl ha10 hb11) rfl ?_
  obtain ⟨u13, hc14, hr15⟩ := repSl.el r_r_Table hx12
  refine WL.val u13 _ (op_load one_22 rfl (Ext.cell (Ext.trans hE7 hS8.ext) hc14)) rfl ?_
  have hr16 := inR_len (Ty.lift _ (Ext.trans hE7 hS8.ext) hr15)
  refine WL.val (Value.int .i64 ((x9).length : Int)) _ (op_lenL sl_22 (Ty.lift _ (Ext.trans hE7 hS8.ext) hr15) rfl) rfl ?_
  refine WL.val (Value.int .i64 (0 : Int)) _ (op_move rfl) rfl ?_
  refine WL.nil ?_
  show W _ _ _ _ _ _
  obtain ⟨res17, hres18, h⟩ := bs h
  refine W.blockLoop (fun fq wq => ∃ s, res17 = Res.fin s ∧ fq 5 = Value.int .i64 s ∧ InR .i64 s ∧ St wd2 wq []) ?_ ?_
  · refine W.forN (fun k (s : Int) fq wq => fq 5 = Value.int .i64 s ∧ InR .i64 s ∧ fq 12 = u13 ∧ fq 13 = (Value.int .i64 ((x9).length : Int)) ∧ fq 14 = Value.int .i64 (k : Int) ∧ InR .i64 (k : Int) ∧ St wd2 wq []) hres18 ⟨rfl, (inR_i64.2 (show (-9223372036854775808 : Int) ≤ -1 ∧ (-1 : Int) ≤ 9223372036854775807 from by decide)), rfl, rfl, rfl, (inR_i64.2 (show (-9223372036854775808 : Int) ≤ 0 ∧ (0 : Int) ≤ 9223372036854775807 from by decide)), hS8⟩ ?_ ?_
    · intro k19 x20 ct21 f22 wd23 hk24 hb25 hI26 hbrk27 hret28
      replace hI26 : f22 5 = Value.int .i64 x20 ∧ InR .i64 x20 ∧ f22 12 = u13 ∧ f22 13 = (Value.int .i64 ((x9).length : Int)) ∧ f22 14 = Value.int .i64 (k19 : Int) ∧ InR .i64 (k19 : Int) ∧ St wd2 wd23 [] := hI26
      replace hb25 : p_impl_Ring_onlyOf_L1 x9 k19 x20 = some ct21 := hb25
      unfold p_impl_Ring_onlyOf_L1 at hb25
      obtain ⟨hf29, hr30, hf31, hf32, hf33, hr34, hS35⟩ := hI26
      refine W.seq ?_
      refine W.region ?_
      refine WL.val (Value.bool (decide ((k19 : Int) < ((x9).length : Int)))) _ (op_lss hf33 hf32) rfl ?_
      have hl36 : (k19 : Int) < ((x9).length : Int) := by omega
      refine WL.nil ?_
      show W _ _ _ _ _ _
      refine W.seq ?_
      refine W.condT (decide ((k19 : Int) < ((x9).length : Int))) rfl (decide_eq_true hl36) ?_
      refine W.skip ?_
      show W _ _ _ _ _ _
      refine W.seq ?_
      refine W.block ?_
      refine W.seq ?_
      refine W.region ?_
      refine WL.val (Value.int .i64 (k19 : Int)) _ (op_move hf33) rfl ?_
      obtain ⟨x38, hx41, hb25⟩ := bs hb25
      obtain ⟨ha39, hb40, hx41⟩ := idx_some hx41
      refine WL.val (Value.pointer (some (elA u13 ((k19 : Int)).toNat))) _ (op_idx sl_22 (Ty.lift _ (Ext.trans hE7 hS35.ext) hr15) hf31 hf33 ha39 hb40) rfl ?_
      obtain ⟨u42, hc43, hr44⟩ := repSl.el hr15 hx41
      refine WL.val u42 _ (op_load one_23 rfl (Ext.cell (Ext.trans hE7 hS35.ext) hc43)) rfl ?_
      refine WL.val (Value.int .i64 (k19 : Int)) _ (op_assign rfl) rfl ?_
      refine WL.val u42 _ (op_assign rfl) rfl ?_
      refine WL.nil ?_
      show W _ _ _ _ _ _
      refine W.seq ?_
      refine W.seq ?_
      refine W.region ?_
      refine WL.val u42 _ (op_move rfl) rfl ?_
      obtain ⟨x45, hx48, hb25⟩ := bs hb25
      obtain ⟨ha46, hb47, hx48⟩ := idx_some hx48
      refine WL.val (Value.pointer (some (elA u42 ((0 : Int)).toNat))) _ (op_idx sl_23 (Ty.lift _ (Ext.trans hE7 hS35.ext) hr44) rfl rfl ha46 hb47) rfl ?_
      obtain ⟨u49, hc50, hr51⟩ := repSl.el hr44 hx48
      obtain ⟨rfl, hr51⟩ := hr51
      refine WL.val (Value.int .i64 x45) _ (op_load one_2 rfl (Ext.cell (Ext.trans hE7 hS35.ext) hc50)) rfl ?_
      refine WL.val (Value.bool (x45 == (0 : Int))) _ (op_eql rfl rfl) rfl ?_
      refine WL.nil ?_
      show W _ _ _ _ _ _
      refine W.cond (x45 == (0 : Int)) rfl (fun hc52 => ?_) (fun hc52 => ?_)
      · replace hb25 := ip hb25 hc52
        refine W.exit ?_
        show W _ _ _ _ _ _
        refine W.region ?_
        refine WL.val (Value.int .i64 (w64 ((k19 : Int) + (1 : Int)))) _ (op_add hf33 rfl) rfl ?_
        refine WL.val (Value.int .i64 (w64 ((k19 : Int) + (1 : Int)))) _ (op_move rfl) rfl ?_
        refine WL.nil ?_
        obtain rfl := Option.some.inj hb25
        show ∃ s, _ = Ctl.next s ∧ _
        exact ⟨_, rfl, hf29, hr30, hf31, hf32, (ctr_next hl36 hr16), (ctr_rng hl36 hr16), hS35⟩
      · replace hb25 := inegb hb25 hc52
        refine W.skip ?_
        show W _ _ _ _ _ _
        refine W.seq ?_
        refine W.seq ?_
        refine W.region ?_
        refine WL.val (Value.int .i64 x20) _ (op_move hf29) rfl ?_
        refine WL.val (Value.bool (decide (x20 ≥ (0 : Int)))) _ (op_geq rfl rfl) rfl ?_
        refine WL.val (Value.bool (decide (x20 ≥ (0 : Int)))) _ (op_move rfl) rfl ?_
        refine WL.cut 5 (fun fq wq => fq 6 = (Value.int .i64 (k19 : Int)) ∧ fq 12 = u13 ∧ fq 13 = (Value.int .i64 ((x9).length : Int)) ∧ fq 14 = (Value.int .i64 (k19 : Int)) ∧ fq 30 = (Value.bool ((decide (x20 ≥ (0 : Int))) || (x45 != (1 : Int)))) ∧ St wd2 wq []) ?_ ?_
        · rcases Bool.eq_false_or_eq_true (decide (x20 ≥ (0 : Int))) with hc54 | hc54
          · refine WL.gskip rfl (bool_of rfl hc54) rfl ?_
            refine WL.gskip rfl (bool_of rfl hc54) rfl ?_
            refine WL.gskip rfl (bool_of rfl hc54) rfl ?_
            refine WL.gskip rfl (bool_of rfl hc54) rfl ?_
            refine WL.val (Value.bool true) _ (op_pick_t (evb_of rfl hc54) rfl) rfl ?_
            refine WL.nil ?_
            exact ⟨rfl, rfl, hf31, hf32, hf33, (orT hc54), hS35⟩
          · refine WL.grun rfl (bool_of rfl hc54) ?_
            refine WL.val u42 _ (op_move rfl) rfl ?_
            refine WL.grun rfl (bool_of rfl hc54) ?_
            refine WL.val (Value.pointer (some (elA u42 ((0 : Int)).toNat))) _ (op_idx sl_23 (Ty.lift _ (Ext.trans hE7 hS35.ext) hr44) rfl rfl ha46 hb47) rfl ?_
            refine WL.grun rfl (bool_of rfl hc54) ?_
            obtain ⟨u58, hc59, hr60⟩ := repSl.el hr44 hx48
            obtain ⟨rfl, hr60⟩ := hr60
            refine WL.val (Value.int .i64 x45) _ (op_load one_2 rfl (Ext.cell (Ext.trans hE7 hS35.ext) hc59)) rfl ?_
            refine WL.grun rfl (bool_of rfl hc54) ?_
            refine WL.val (Value.bool (x45 != (1 : Int))) _ (op_neq rfl rfl) rfl ?_
            refine WL.val (Value.bool (x45 != (1 : Int))) _ (op_pick_f (evb_of rfl hc54) rfl) rfl ?_
            refine WL.nil ?_
            exact ⟨rfl, rfl, hf31, hf32, hf33, (orF hc54), hS35⟩
        · intro f55 wd56 hq57
          obtain ⟨hf61, hf62, hf63, hf64, hf65, hS66⟩ := hq57
          refine WL.nil ?_
          show W _ _ _ _ _ _
          refine W.cond ((decide (x20 ≥ (0 : Int))) || (x45 != (1 : Int))) hf65 (fun hc67 => ?_) (fun hc67 => ?_)
          · replace hb25 := ip hb25 hc67
            refine W.seq ?_
            refine W.region ?_
            refine WL.val (Value.int .i64 (-1 : Int)) _ (op_assign rfl) rfl ?_
            refine WL.nil ?_
            show W _ _ _ _ _ _
            refine W.ret ?_
            obtain rfl := Option.some.inj hb25
            obtain rfl := hret28 _ rfl
            replace h := onRes_ret h
            obtain rfl := Option.some.inj h
            show FinP _ _ _ _ _ _ _
            exact FinP.ret _ (res1 rfl rfl) ⟨rfl, (inR_i64.2 (show (-9223372036854775808 : Int) ≤ -1 ∧ (-1 : Int) ≤ 9223372036854775807 from by decide)), (Ext.trans hE7 hS66.ext)⟩
          · replace hb25 := inegb hb25 hc67
            refine W.skip ?_
            show W _ _ _ _ _ _
            refine W.region ?_
            refine WL.val (Value.int .i64 (k19 : Int)) _ (op_move hf61) rfl ?_
            refine WL.val (Value.int .i64 (k19 : Int)) _ (op_assign rfl) rfl ?_
            refine WL.nil ?_
            show W _ _ _ _ _ _
            refine W.region ?_
            refine WL.val (Value.int .i64 (w64 ((k19 : Int) + (1 : Int)))) _ (op_add hf64 rfl) rfl ?_
            refine WL.val (Value.int .i64 (w64 ((k19 : Int) + (1 : Int)))) _ (op_move rfl) rfl ?_
            refine WL.nil ?_
            obtain rfl := Option.some.inj hb25
            show ∃ s, _ = Ctl.next s ∧ _
            exact ⟨_, rfl, rfl, hr34, hf62, hf63, (ctr_next hl36 hr16), (ctr_rng hl36 hr16), hS66⟩
    · intro x75 f70 wd71 hs72 hI73
      replace hI73 : f70 5 = Value.int .i64 x75 ∧ InR .i64 x75 ∧ f70 12 = u13 ∧ f70 13 = (Value.int .i64 ((x9).length : Int)) ∧ f70 14 = Value.int .i64 (((x9).length : Nat) : Int) ∧ InR .i64 (((x9).length : Nat) : Int) ∧ St wd2 wd71 [] := hI73
      obtain ⟨hf76, hr77, hf78, hf79, hf80, hr81, hS82⟩ := hI73
      refine W.seq ?_
      refine W.region ?_
      refine WL.val (Value.bool (decide ((((x9).length : Nat) : Int) < ((x9).length : Int)))) _ (op_lss hf80 hf79) rfl ?_
      have hl83 : ¬ (((x9).length : Nat) : Int) < ((x9).length : Int) := by omega
      refine WL.nil ?_
      show W _ _ _ _ _ _
      refine W.seq ?_
      refine W.condF (decide ((((x9).length : Nat) : Int) < ((x9).length : Int))) rfl (decide_eq_false hl83) ?_
      refine W.exit ?_
      show _ = _ ∧ _
      exact ⟨rfl, _, hs72, hf76, hr77, hS82⟩
  · rintro f84 wd85 ⟨x88, rfl, hq86⟩
    replace h := onRes_fin h
    replace hq86 : f84 5 = Value.int .i64 x88 ∧ InR .i64 x88 ∧ St wd2 wd85 [] := hq86
    obtain ⟨hf89, hr90, hS91⟩ := hq86
    show W _ _ _ _ _ _
    refine W.seq ?_
    refine W.region ?_
    refine WL.val (Value.int .i64 x88) _ (op_move hf89) rfl ?_
    refine WL.val (Value.int .i64 x88) _ (op_assign rfl) rfl ?_
    refine WL.nil ?_
    show W _ _ _ _ _ _
    refine W.ret ?_
    obtain rfl := Option.some.inj h
    show FinP _ _ _ _ _ _ _
    exact FinP.ret _ (res1 rfl rfl) ⟨rfl, hr90, (Ext.trans hE7 hS91.ext)⟩

theorem c_impl_Ring_dualFault {w : World} {r_Table : (List (List (List Int)))} {v_r_Table : Value} (r_r_Table : (Ty.sl (Ty.sl (Ty.sl (Ty.i .i64)))).rep w v_r_Table r_Table) {res : Int} (h : p_impl_Ring_dualFault r_Table  = some res) :
    Ret Try.prog 143 #[(Value.agg #[v_r_Table])] w (fun v w' => v = Value.int .i64 res ∧ InR .i64 res ∧ Ext w w') := by
  unfold p_impl_Ring_dualFault at h
  have hS0 : St w w [] := St.start w
  refine Ret.start (fn := Try.f143) Try.func143 rfl 25 rfl rfl ?_
  refine W.seq ?_
  refine W.region ?_
  refine WL.box hS0 rfl (cs := [v_r_Table]) rfl rfl ?_
  intro b1 wd2 hS3 he4 hx5
  replace hS3 : St w wd2 [bx b1 [v_r_Table]] := hS3
  have hx6 := St.boxAt hS3 0 rfl
  have hE7 : Ext w wd2 := hS3.ext
  have hS8 : St wd2 wd2 [] := St.start wd2
  refine WL.val (Value.int .i64 (0 : Int)) _ (op_assign rfl) rfl ?_
  refine WL.nil ?_
  show W _ _ _ _ _ _
  refine W.seq ?_
  refine W.seq ?_
  refine W.region ?_
  refine WL.val (Value.pointer (some ⟨b1, 0, none⟩)) _ (op_fieldAddr fd_27_0 rfl) rfl ?_
  refine WL.val v_r_Table _ (op_load one_25 rfl (BoxAt.cell (BoxAt.lift hS8.ext hx6) rfl)) rfl ?_
  have hr9 := inR_len (Ty.lift _ (Ext.trans hE7 hS8.ext) r_r_Table)
  refine WL.val (Value.int .i64 ((r_Table).length : Int)) _ (op_lenL sl_25 (Ty.lift _ (Ext.trans hE7 hS8.ext) r_r_Table) rfl) rfl ?_
  refine WL.val (Value.int .i64 (0 : Int)) _ (op_move rfl) rfl ?_
  refine WL.nil ?_
  show W _ _ _ _ _ _
  obtain ⟨res10, hres11, h⟩ := bs h
  refine W.blockLoop (fun fq wq => ∃ s, res10 = Res.fin s ∧ St wd2 wq []) ?_ ?_
  · refine W.forN (fun k (s : Unit) fq wq => fq 1 = (Value.pointer (some ⟨b1, 0, none⟩)) ∧ fq 7 = (Value.int .i64 ((r_Table).length : Int)) ∧ fq 8 = Value.int .i64 (k : Int) ∧ InR .i64 (k : Int) ∧ St wd2 wq []) hres11 ⟨rfl, rfl, rfl, (inR_i64.2 (show (-9223372036854775808 : Int) ≤ 0 ∧ (0 : Int) ≤ 9223372036854775807 from by decide)), hS8⟩ ?_ ?_
    · intro k12 s56 ct13 f14 wd15 hk16 hb17 hI18 hbrk19 hret20
      obtain ⟨⟩ := s56
      replace hI18 : f14 1 = (Value.pointer (some ⟨b1, 0, none⟩)) ∧ f14 7 = (Value.int .i64 ((r_Table).length : Int)) ∧ f14 8 = Value.int .i64 (k12 : Int) ∧ InR .i64 (k12 : Int) ∧ St wd2 wd15 [] := hI18
      replace hb17 : p_impl_Ring_dualFault_L1 r_Table k12  = some ct13 := hb17
      unfold p_impl_Ring_dualFault_L1 at hb17
      obtain ⟨hf21, hf22, hf23, hr24, hS25⟩ := hI18
      refine W.seq ?_
      refine W.region ?_
      refine WL.val (Value.bool (decide ((k12 : Int) < ((r_Table).length : Int)))) _ (op_lss hf23 hf22) rfl ?_
      have hl26 : (k12 : Int) < ((r_Table).length : Int) := by omega
      refine WL.nil ?_
      show W _ _ _ _ _ _
      refine W.seq ?_
      refine W.condT (decide ((k12 : Int) < ((r_Table).length : Int))) rfl (decide_eq_true hl26) ?_
      refine W.skip ?_
      show W _ _ _ _ _ _
      refine W.seq ?_
      refine W.block ?_
      refine W.seq ?_
      refine W.region ?_
      refine WL.val (Value.int .i64 (k12 : Int)) _ (op_move hf23) rfl ?_
      refine WL.val (Value.int .i64 (k12 : Int)) _ (op_assign rfl) rfl ?_
      refine WL.nil ?_
      show W _ _ _ _ _ _
      refine W.seq ?_
      refine W.region ?_
      refine WL.val (Value.agg #[v_r_Table]) _ (op_loadBox st_27 hf21 (BoxAt.lift hS25.ext hx6) rfl rfl) rfl ?_
      refine WL.val (Value.int .i64 (k12 : Int)) _ (op_move rfl) rfl ?_
      obtain ⟨x28, hx29, hb17⟩ := bs hb17
      refine WL.call _ (op_call fn_124 (args2 rfl rfl)) (c_impl_Ring_onlyOf (Ty.lift _ (Ext.trans hE7 hS25.ext) r_r_Table) hr24 hx29) rfl ?_
      rintro _ wd31 ⟨rfl, hr30, he32⟩
      have hS34 := St.extend hS25 he32
      replace hS34 : St wd2 wd31 [] := hS34
      refine WL.val (Value.int .i64 x28) _ (op_assign rfl) rfl ?_
      refine WL.nil ?_
      show W _ _ _ _ _ _
      refine W.seq ?_
      refine W.region ?_
      refine WL.val (Value.int .i64 x28) _ (op_move rfl) rfl ?_
      refine WL.val (Value.bool (decide (x28 < (0 : Int)))) _ (op_lss rfl rfl) rfl ?_
      refine WL.val (Value.bool (decide (x28 < (0 : Int)))) _ (op_move rfl) rfl ?_
      obtain ⟨x36, hj37, hb17⟩ := bs hb17
      refine WL.cut 6 (fun fq wq => fq 1 = (Value.pointer (some ⟨b1, 0, none⟩)) ∧ fq 3 = (Value.int .i64 (k12 : Int)) ∧ fq 7 = (Value.int .i64 ((r_Table).length : Int)) ∧ fq 8 = (Value.int .i64 (k12 : Int)) ∧ fq 22 = Value.bool x36 ∧ St wd2 wq []) ?_ ?_
      · rcases Bool.eq_false_or_eq_true (decide (x28 < (0 : Int))) with hc35 | hc35
        · replace hj37 := ip hj37 hc35
          refine WL.gskip rfl (bool_of rfl hc35) rfl ?_
          refine WL.gskip rfl (bool_of rfl hc35) rfl ?_
          refine WL.gskip rfl (bool_of rfl hc35) rfl ?_
          refine WL.gskip rfl (bool_of rfl hc35) rfl ?_
          refine WL.gskip rfl (bool_of rfl hc35) rfl ?_
          refine WL.val (Value.bool true) _ (op_pick_t (evb_of rfl hc35) rfl) rfl ?_
          refine WL.nil ?_
          obtain rfl := Option.some.inj hj37
          exact ⟨rfl, hf21, rfl, hf22, hf23, rfl, hS34⟩
        · replace hj37 := inegb hj37 hc35
          refine WL.grun rfl (bool_of rfl hc35) ?_
          refine WL.val (Value.agg #[v_r_Table]) _ (op_loadBox st_27 hf21 (BoxAt.lift hS34.ext hx6) rfl rfl) rfl ?_
          refine WL.grun rfl (bool_of rfl hc35) ?_
          refine WL.val (Value.int .i64 x28) _ (op_move rfl) rfl ?_
          refine WL.grun rfl (bool_of rfl hc35) ?_
          obtain ⟨x41, hx42, hj37⟩ := bs hj37
          refine WL.call _ (op_call fn_124 (args2 rfl rfl)) (c_impl_Ring_onlyOf (Ty.lift _ (Ext.trans hE7 hS34.ext) r_r_Table) hr30 hx42) rfl ?_
          rintro _ wd44 ⟨rfl, hr43, he45⟩
          have hS47 := St.extend hS34 he45
          replace hS47 : St wd2 wd44 [] := hS47
          refine WL.grun rfl (bool_of rfl hc35) ?_
          refine WL.val (Value.int .i64 (k12 : Int)) _ (op_move rfl) rfl ?_
          refine WL.grun rfl (bool_of rfl hc35) ?_
          refine WL.val (Value.bool (x41 != (k12 : Int))) _ (op_neq rfl rfl) rfl ?_
          refine WL.val (Value.bool (x41 != (k12 : Int))) _ (op_pick_f (evb_of rfl hc35) rfl) rfl ?_
          refine WL.nil ?_
          obtain rfl := Option.some.inj hj37
          exact ⟨rfl, hf21, rfl, hf22, hf23, rfl, hS47⟩
      · intro f38 wd39 hq40
        obtain ⟨hf48, hf49, hf50, hf51, hf52, hS53⟩ := hq40
        refine WL.nil ?_
        show W _ _ _ _ _ _
        refine W.cond x36 hf52 (fun hc54 => ?_) (fun hc54 => ?_)
        · replace hb17 := ip hb17 hc54
          refine W.seq ?_
          refine W.region ?_
          refine WL.val (Value.int .i64 (k12 : Int)) _ (op_move hf49) rfl ?_
          refine WL.val (Value.int .i64 (k12 : Int)) _ (op_assign rfl) rfl ?_
          refine WL.nil ?_
          show W _ _ _ _ _ _
          refine W.ret ?_
          obtain rfl := Option.some.inj hb17
          obtain rfl := hret20 _ rfl
          replace h := onRes_ret h
          obtain rfl := Option.some.inj h
          show FinP _ _ _ _ _ _ _
          exact FinP.ret _ (res1 rfl rfl) ⟨rfl, hr24, (Ext.trans hE7 hS53.ext)⟩
        · replace hb17 := inegb hb17 hc54
          refine W.skip ?_
          show W _ _ _ _ _ _
          refine W.region ?_
          refine WL.val (Value.int .i64 (w64 ((k12 : Int) + (1 : Int)))) _ (op_add hf51 rfl) rfl ?_
          refine WL.val (Value.int .i64 (w64 ((k12 : Int) + (1 : Int)))) _ (op_move rfl) rfl ?_
          refine WL.nil ?_
          obtain rfl := Option.some.inj hb17
          show ∃ s, _ = Ctl.next s ∧ _
          exact ⟨_, rfl, hf48, hf50, (ctr_next hl26 hr9), (ctr_rng hl26 hr9), hS53⟩
    · intro s61 f57 wd58 hs59 hI60
      obtain ⟨⟩ := s61
      replace hI60 : f57 1 = (Value.pointer (some ⟨b1, 0, none⟩)) ∧ f57 7 = (Value.int .i64 ((r_Table).length : Int)) ∧ f57 8 = Value.int .i64 (((r_Table).length : Nat) : Int) ∧ InR .i64 (((r_Table).length : Nat) : Int) ∧ St wd2 wd58 [] := hI60
      obtain ⟨hf62, hf63, hf64, hr65, hS66⟩ := hI60
      refine W.seq ?_
      refine W.region ?_
      refine WL.val (Value.bool (decide ((((r_Table).length : Nat) : Int) < ((r_Table).length : Int)))) _ (op_lss hf64 hf63) rfl ?_
      have hl67 : ¬ (((r_Table).length : Nat) : Int) < ((r_Table).length : Int) := by omega
      refine WL.nil ?_
      show W _ _ _ _ _ _
      refine W.seq ?_
      refine W.condF (decide ((((r_Table).length : Nat) : Int) < ((r_Table).length : Int))) rfl (decide_eq_false hl67) ?_
      refine W.exit ?_
      show _ = _ ∧ _
      exact ⟨rfl, _, hs59, hS66⟩
  · rintro f68 wd69 ⟨s71, rfl, hq70⟩
    replace h := onRes_fin h
    obtain ⟨⟩ := s71
    replace hq70 : St wd2 wd69 [] := hq70
    have hS72 := hq70
    show W _ _ _ _ _ _
    refine W.seq ?_
    refine W.region ?_
    refine WL.val (Value.int .i64 (-1 : Int)) _ (op_assign rfl) rfl ?_
    refine WL.nil ?_
    show W _ _ _ _ _ _
    refine W.ret ?_
    obtain rfl := Option.some.inj h
    show FinP _ _ _ _ _ _ _
    exact FinP.ret _ (res1 rfl rfl) ⟨rfl, (inR_i64.2 (show (-9223372036854775808 : Int) ≤ -1 ∧ (-1 : Int) ≤ 9223372036854775807 from by decide)), (Ext.trans hE7 hS72.ext)⟩

theorem c_impl_Ring_duals {w : World} {r_Table : (List (List (List Int)))} {v_r_Table : Value} (r_r_Table : (Ty.sl (Ty.sl (Ty.sl (Ty.i .i64)))).rep w v_r_Table r_Table) {res : (List Int)} (h : p_impl_Ring_duals r_Table  = some res) :
    Ret Try.prog 72 #[(Value.agg #[v_r_Table])] w (fun v w' => ∃ (u0 : Value), v = u0 ∧ Ext w w' ∧ Sep w.heap.size w' [(Ty.sl (Ty.i .i64)).at u0 res]) := by
  unfold p_impl_Ring_duals at h
  have hS0 : St w w [] := St.start w
  refine Ret.start (fn := Try.f72) Try.func72 rfl 20 rfl rfl ?_
  refine W.seq ?_
  refine W.region ?_
  refine WL.box hS0 rfl (cs := [v_r_Table]) rfl rfl ?_
  intro b1 wd2 hS3 he4 hx5
  replace hS3 : St w wd2 [bx b1 [v_r_Table]] := hS3
  have hx6 := St.boxAt hS3 0 rfl
  have hE7 : Ext w wd2 := hS3.ext
  have hS8 : St wd2 wd2 [] := St.start wd2
  refine WL.val (Value.slice none 0 0) _ (op_assign rfl) rfl ?_
  refine WL.nil ?_
  show W _ _ _ _ _ _
  refine W.seq ?_
  refine W.region ?_
  refine WL.lit0 (t := (Ty.i .i64)) hS8 sl_72 rfl rfl ?_
  intro u9 wd10 hS11 he12
  replace hS11 : St wd2 wd10 [(Ty.sl (Ty.i .i64)).at u9 ([] : (List Int))] := hS11
  refine WL.val u9 _ (op_assign rfl) rfl ?_
  refine WL.nil ?_
  show W _ _ _ _ _ _
  refine W.seq ?_
  refine W.seq ?_
  refine W.region ?_
  refine WL.val (Value.pointer (some ⟨b1, 0, none⟩)) _ (op_fieldAddr fd_27_0 rfl) rfl ?_
  refine WL.val v_r_Table _ (op_load one_25 rfl (BoxAt.cell (BoxAt.lift hS11.ext hx6) rfl)) rfl ?_
  have hr13 := inR_len (Ty.lift _ (Ext.trans hE7 hS11.ext) r_r_Table)
  refine WL.val (Value.int .i64 ((r_Table).length : Int)) _ (op_lenL sl_25 (Ty.lift _ (Ext.trans hE7 hS11.ext) r_r_Table) rfl) rfl ?_
  refine WL.val (Value.int .i64 (0 : Int)) _ (op_move rfl) rfl ?_
  refine WL.nil ?_
  show W _ _ _ _ _ _
  obtain ⟨res14, hres15, h⟩ := bs h
  refine W.blockLoop (fun fq wq => ∃ s, res14 = Res.fin s ∧ ∃ (uu0 : Value), fq 3 = uu0 ∧ St wd2 wq [(Ty.sl (Ty.i .i64)).at uu0 s]) ?_ ?_
  · refine W.forN (fun k (s : (List Int)) fq wq => ∃ (uu0 : Value), fq 1 = (Value.pointer (some ⟨b1, 0, none⟩)) ∧ fq 3 = uu0 ∧ fq 8 = (Value.int .i64 ((r_Table).length : Int)) ∧ fq 9 = Value.int .i64 (k : Int) ∧ InR .i64 (k : Int) ∧ St wd2 wq [(Ty.sl (Ty.i .i64)).at uu0 s]) hres15 ⟨u9, rfl, rfl, rfl, rfl, (inR_i64.2 (show (-9223372036854775808 : Int) ≤ 0 ∧ (0 : Int) ≤ 9223372036854775807 from by decide)), hS11⟩ ?_ ?_
    · intro k16 x17 ct18 f19 wd20 hk21 hb22 hI23 hbrk24 hret25
      replace hI23 : ∃ (uu0 : Value), f19 1 = (Value.pointer (some ⟨b1, 0, none⟩)) ∧ f19 3 = uu0 ∧ f19 8 = (Value.int .i64 ((r_Table).length : Int)) ∧ f19 9 = Value.int .i64 (k16 : Int) ∧ InR .i64 (k16 : Int) ∧ St wd2 wd20 [(Ty.sl (Ty.i .i64)).at uu0 x17] := hI23
      replace hb22 : p_impl_Ring_duals_L1 r_Table k16 x17 = some ct18 := hb22
      unfold p_impl_Ring_duals_L1 at hb22
      obtain ⟨u26, hf27, hf28, hf29, hf30, hr31, hS32⟩ := hI23
      refine W.seq ?_
      refine W.region ?_
      refine WL.val (Value.bool (decide ((k16 : Int) < ((r_Table).length : Int)))) _ (op_lss hf30 hf29) rfl ?_
      have hl33 : (k16 : Int) < ((r_Table).length : Int) := by omega
      refine WL.nil ?_
      show W _ _ _ _ _ _
      refine W.seq ?_
      refine W.condT (decide ((k16 : Int) < ((r_Table).length : Int))) rfl (decide_eq_true hl33) ?_
      refine W.skip ?_
      show W _ _ _ _ _ _
      refine W.seq ?_
      refine W.block ?_
      refine W.seq ?_
      refine W.region ?_
      refine WL.val (Value.int .i64 (k16 : Int)) _ (op_move hf30) rfl ?_
      refine WL.val (Value.int .i64 (k16 : Int)) _ (op_assign rfl) rfl ?_
      refine WL.nil ?_
      show W _ _ _ _ _ _
      refine W.region ?_
      refine WL.val u26 _ (op_move hf28) rfl ?_
      refine WL.val (Value.agg #[v_r_Table]) _ (op_loadBox st_27 hf27 (BoxAt.lift hS32.ext hx6) rfl rfl) rfl ?_
      refine WL.val (Value.int .i64 (k16 : Int)) _ (op_move rfl) rfl ?_
      obtain ⟨x35, hx36, hb22⟩ := bs hb22
      refine WL.call _ (op_call fn_124 (args2 rfl rfl)) (c_impl_Ring_onlyOf (Ty.lift _ (Ext.trans hE7 hS32.ext) r_r_Table) hr31 hx36) rfl ?_
      rintro _ wd38 ⟨rfl, hr37, he39⟩
      have hS41 := St.extend hS32 he39
      replace hS41 : St wd2 wd38 [(Ty.sl (Ty.i .i64)).at u26 x17] := hS41
      refine WL.litFlat (t := (Ty.i .i64)) (flat_i .i64) [(Value.int .i64 x35)] [x35] hS41 sl_72 rfl rfl (fillL rfl ⟨rfl, rfl, rfl, trivial⟩) rfl rfl (litL ⟨⟨rfl, hr37⟩, trivial⟩) rfl ?_
      intro u42 wd43 hS44 he45
      replace hS44 : St wd2 wd43 [(Ty.sl (Ty.i .i64)).at u26 x17, (Ty.sl (Ty.i .i64)).at u42 ([x35] : (List Int))] := hS44
      obtain ⟨x46, hx47, hb22⟩ := bs hb22
      refine WL.append (flat_i .i64) hS44 (k := 0) rfl sl_72 rfl rfl rfl rfl (St.rep (t := (Ty.sl (Ty.i .i64))) hS44 1 rfl) hx47 rfl ?_
      intro u48 wd49 hS50 hz51
      replace hS50 : St wd2 wd49 [(Ty.sl (Ty.i .i64)).at u48 x46, (Ty.sl (Ty.i .i64)).at u42 ([x35] : (List Int))] := hS50
      refine WL.val u48 _ (op_assign rfl) rfl ?_
      refine WL.nil ?_
      show W _ _ _ _ _ _
      refine W.region ?_
      refine WL.val (Value.int .i64 (w64 ((k16 : Int) + (1 : Int)))) _ (op_add hf30 rfl) rfl ?_
      refine WL.val (Value.int .i64 (w64 ((k16 : Int) + (1 : Int)))) _ (op_move rfl) rfl ?_
      refine WL.nil ?_
      obtain rfl := Option.some.inj hb22
      show ∃ s, _ = Ctl.next s ∧ _
      exact ⟨_, rfl, u48, hf27, rfl, hf29, (ctr_next hl33 hr13), (ctr_rng hl33 hr13), (St.pick hS50 [0] rfl)⟩
    · intro x58 f53 wd54 hs55 hI56
      replace hI56 : ∃ (uu0 : Value), f53 1 = (Value.pointer (some ⟨b1, 0, none⟩)) ∧ f53 3 = uu0 ∧ f53 8 = (Value.int .i64 ((r_Table).length : Int)) ∧ f53 9 = Value.int .i64 (((r_Table).length : Nat) : Int) ∧ InR .i64 (((r_Table).length : Nat) : Int) ∧ St wd2 wd54 [(Ty.sl (Ty.i .i64)).at uu0 x58] := hI56
      obtain ⟨u59, hf60, hf61, hf62, hf63, hr64, hS65⟩ := hI56
      refine W.seq ?_
      refine W.region ?_
      refine WL.val (Value.bool (decide ((((r_Table).length : Nat) : Int) < ((r_Table).length : Int)))) _ (op_lss hf63 hf62) rfl ?_
      have hl66 : ¬ (((r_Table).length : Nat) : Int) < ((r_Table).length : Int) := by omega
      refine WL.nil ?_
      show W _ _ _ _ _ _
      refine W.seq ?_
      refine W.condF (decide ((((r_Table).length : Nat) : Int) < ((r_Table).length : Int))) rfl (decide_eq_false hl66) ?_
      refine W.exit ?_
      show _ = _ ∧ _
      exact ⟨rfl, _, hs55, u59, hf61, hS65⟩
  · rintro f67 wd68 ⟨x71, rfl, hq69⟩
    replace h := onRes_fin h
    replace hq69 : ∃ (uu0 : Value), f67 3 = uu0 ∧ St wd2 wd68 [(Ty.sl (Ty.i .i64)).at uu0 x71] := hq69
    obtain ⟨u72, hf73, hS74⟩ := hq69
    show W _ _ _ _ _ _
    refine W.seq ?_
    refine W.region ?_
    refine WL.val u72 _ (op_move hf73) rfl ?_
    refine WL.val u72 _ (op_assign rfl) rfl ?_
    refine WL.nil ?_
    show W _ _ _ _ _ _
    refine W.ret ?_
    obtain rfl := Option.some.inj h
    show FinP _ _ _ _ _ _ _
    exact FinP.ret _ (res1 rfl rfl) ⟨u72, rfl, (Ext.trans hE7 hS74.ext), (St.out (St.pick hS74 [0] rfl) (hE7))⟩

theorem c_impl_Ring_turnFault {w : World} {r_Table : (List (List (List Int)))} {v_r_Table : Value} (r_r_Table : (Ty.sl (Ty.sl (Ty.sl (Ty.i .i64)))).rep w v_r_Table r_Table) {res : (List Int)} (h : p_impl_Ring_turnFault r_Table  = some res) :
    Ret Try.prog 144 #[(Value.agg #[v_r_Table])] w (fun v w' => ∃ (u0 : Value), v = u0 ∧ NilIff u0 res ∧ Ext w w' ∧ Sep w.heap.size w' [(Ty.sl (Ty.i .i64)).at u0 res]) := by
  unfold p_impl_Ring_turnFault at h
  have hS0 : St w w [] := St.start w
  refine Ret.start (fn := Try.f144) Try.func144 rfl 80 rfl rfl ?_
  refine W.seq ?_
  refine W.region ?_
  refine WL.box hS0 rfl (cs := [v_r_Table]) rfl rfl ?_
  intro b1 wd2 hS3 he4 hx5
  replace hS3 : St w wd2 [bx b1 [v_r_Table]] := hS3
  have hx6 := St.boxAt hS3 0 rfl
  have hE7 : Ext w wd2 := hS3.ext
  have hS8 : St wd2 wd2 [] := St.start wd2
  refine WL.val (Value.slice none 0 0) _ (op_assign rfl) rfl ?_
  refine WL.nil ?_
  show W _ _ _ _ _ _
  refine W.seq ?_
  refine W.region ?_
  refine WL.val (Value.agg #[v_r_Table]) _ (op_loadBox st_27 rfl (BoxAt.lift hS8.ext hx6) rfl rfl) rfl ?_
  obtain ⟨x9, hx10, h⟩ := bs h
  refine WL.call _ (op_call fn_72 (args1 rfl)) (c_impl_Ring_duals (Ty.lift _ (Ext.trans hE7 hS8.ext) r_r_Table) hx10) rfl ?_
  rintro u11 wd12 ⟨_, rfl, he13, hs14⟩
  have hS15 := St.join hS8 he13 hs14
  replace hS15 : St wd2 wd12 [(Ty.sl (Ty.i .i64)).at u11 x9] := hS15
  have hb16 := St.rep (t := (Ty.sl (Ty.i .i64))) hS15 0 rfl
  have hE17 : Ext w wd12 := (Ext.trans hE7 hS15.ext)
  have hE18 : Ext wd2 wd12 := hS15.ext
  have hS19 : St wd12 wd12 [] := St.start wd12
  refine WL.val u11 _ (op_assign rfl) rfl ?_
  refine WL.nil ?_
  show W _ _ _ _ _ _
  refine W.seq ?_
  refine W.seq ?_
  refine W.region ?_
  refine WL.val (Value.pointer (some ⟨b1, 0, none⟩)) _ (op_fieldAddr fd_27_0 rfl) rfl ?_
  refine WL.val v_r_Table _ (op_load one_25 rfl (BoxAt.cell (BoxAt.lift (Ext.trans hE18 hS19.ext) hx6) rfl)) rfl ?_
  have hr20 := inR_len (Ty.lift _ (Ext.trans hE17 hS19.ext) r_r_Table)
  refine WL.val (Value.int .i64 ((r_Table).length : Int)) _ (op_lenL sl_25 (Ty.lift _ (Ext.trans hE17 hS19.ext) r_r_Table) rfl) rfl ?_
  refine WL.val (Value.int .i64 (0 : Int)) _ (op_move rfl) rfl ?_
  refine WL.nil ?_
  show W _ _ _ _ _ _
  obtain ⟨res21, hres22, h⟩ := bs h
  refine W.blockLoop (fun fq wq => ∃ s, res21 = Res.fin s ∧ St wd12 wq []) ?_ ?_
  · refine W.forN (fun k (s : Unit) fq wq => fq 1 = (Value.pointer (some ⟨b1, 0, none⟩)) ∧ fq 3 = u11 ∧ fq 12 = (Value.int .i64 ((r_Table).length : Int)) ∧ fq 13 = Value.int .i64 (k : Int) ∧ InR .i64 (k : Int) ∧ St wd12 wq []) hres22 ⟨rfl, rfl, rfl, rfl, (inR_i64.2 (show (-9223372036854775808 : Int) ≤ 0 ∧ (0 : Int) ≤ 9223372036854775807 from by decide)), hS19⟩ ?_ ?_
    · intro k23 s669 ct24 f25 wd26 hk27 hb28 hI29 hbrk30 hret31
      obtain ⟨⟩ := s669
      replace hI29 : f25 1 = (Value.pointer (some ⟨b1, 0, none⟩)) ∧ f25 3 = u11 ∧ f25 12 = (Value.int .i64 ((r_Table).length : Int)) ∧ f25 13 = Value.int .i64 (k23 : Int) ∧ InR .i64 (k23 : Int) ∧ St wd12 wd26 [] := hI29
      replace hb28 : p_impl_Ring_turnFault_L1 r_Table x9 k23  = some ct24 := hb28
      unfold p_impl_Ring_turnFault_L1 at hb28
      obtain ⟨hf32, hf33, hf34, hf35, hr36, hS37⟩ := hI29
      refine W.seq ?_
      refine W.region ?_
      refine WL.val (Value.bool (decide ((k23 : Int) < ((r_Table).length : Int)))) _ (op_lss hf35 hf34) rfl ?_
      have hl38 : (k23 : Int) < ((r_Table).length : Int) := by omega
      refine WL.nil ?_
      show W _ _ _ _ _ _
      refine W.seq ?_
      refine W.condT (decide ((k23 : Int) < ((r_Table).length : Int))) rfl (decide_eq_true hl38) ?_
      refine W.skip ?_
      show W _ _ _ _ _ _
      refine W.seq ?_
      refine W.block ?_
      refine W.seq ?_
      refine W.region ?_
      refine WL.val (Value.int .i64 (k23 : Int)) _ (op_move hf35) rfl ?_
      refine WL.val (Value.int .i64 (k23 : Int)) _ (op_assign rfl) rfl ?_
      refine WL.nil ?_
      show W _ _ _ _ _ _
      refine W.seq ?_
      refine W.region ?_
      refine WL.val (Value.pointer (some ⟨b1, 0, none⟩)) _ (op_fieldAddr fd_27_0 hf32) rfl ?_
      refine WL.val v_r_Table _ (op_load one_25 rfl (BoxAt.cell (BoxAt.lift (Ext.trans hE18 hS37.ext) hx6) rfl)) rfl ?_
      have hr40 := inR_len (Ty.lift _ (Ext.trans hE17 hS37.ext) r_r_Table)
      refine WL.val (Value.int .i64 ((r_Table).length : Int)) _ (op_lenL sl_25 (Ty.lift _ (Ext.trans hE17 hS37.ext) r_r_Table) rfl) rfl ?_
      refine WL.val (Value.int .i64 (0 : Int)) _ (op_move rfl) rfl ?_
      refine WL.nil ?_
      show W _ _ _ _ _ _
      obtain ⟨res41, hres42, hb28⟩ := bs hb28
      refine W.blockLoop (fun fq wq => ∃ s, res41 = Res.fin s ∧ fq 1 = (Value.pointer (some ⟨b1, 0, none⟩)) ∧ fq 3 = u11 ∧ fq 12 = (Value.int .i64 ((r_Table).length : Int)) ∧ fq 13 = (Value.int .i64 (k23 : Int)) ∧ St wd12 wq []) ?_ ?_
      · refine W.forN (fun k (s : Unit) fq wq => fq 1 = (Value.pointer (some ⟨b1, 0, none⟩)) ∧ fq 3 = u11 ∧ fq 4 = (Value.int .i64 (k23 : Int)) ∧ fq 12 = (Value.int .i64 ((r_Table).length : Int)) ∧ fq 13 = (Value.int .i64 (k23 : Int)) ∧ fq 18 = (Value.int .i64 ((r_Table).length : Int)) ∧ fq 19 = Value.int .i64 (k : Int) ∧ InR .i64 (k : Int) ∧ St wd12 wq []) hres42 ⟨hf32, hf33, rfl, hf34, hf35, rfl, rfl, (inR_i64.2 (show (-9223372036854775808 : Int) ≤ 0 ∧ (0 : Int) ≤ 9223372036854775807 from by decide)), hS37⟩ ?_ ?_
        · intro k43 s643 ct44 f45 wd46 hk47 hb48 hI49 hbrk50 hret51
          obtain ⟨⟩ := s643
          replace hI49 : f45 1 = (Value.pointer (some ⟨b1, 0, none⟩)) ∧ f45 3 = u11 ∧ f45 4 = (Value.int .i64 (k23 : Int)) ∧ f45 12 = (Value.int .i64 ((r_Table).length : Int)) ∧ f45 13 = (Value.int .i64 (k23 : Int)) ∧ f45 18 = (Value.int .i64 ((r_Table).length : Int)) ∧ f45 19 = Value.int .i64 (k43 : Int) ∧ InR .i64 (k43 : Int) ∧ St wd12 wd46 [] := hI49
          replace hb48 : p_impl_Ring_turnFault_L2 r_Table k23 x9 k43  = some ct44 := hb48
          unfold p_impl_Ring_turnFault_L2 at hb48
          obtain ⟨hf52, hf53, hf54, hf55, hf56, hf57, hf58, hr59, hS60⟩ := hI49
          refine W.seq ?_
          refine W.region ?_
          refine WL.val (Value.bool (decide ((k43 : Int) < ((r_Table).length : Int)))) _ (op_lss hf58 hf57) rfl ?_
          have hl61 : (k43 : Int) < ((r_Table).length : Int) := by omega
          refine WL.nil ?_
          show W _ _ _ _ _ _
          refine W.seq ?_
          refine W.condT (decide ((k43 : Int) < ((r_Table).length : Int))) rfl (decide_eq_true hl61) ?_
          refine W.skip ?_
          show W _ _ _ _ _ _
          refine W.seq ?_
          refine W.block ?_
          refine W.seq ?_
          refine W.region ?_
          refine WL.val (Value.int .i64 (k43 : Int)) _ (op_move hf58) rfl ?_
          refine WL.val (Value.int .i64 (k43 : Int)) _ (op_assign rfl) rfl ?_
          refine WL.nil ?_
          show W _ _ _ _ _ _
          refine W.seq ?_
          refine W.region ?_
          refine WL.val (Value.pointer (some ⟨b1, 0, none⟩)) _ (op_fieldAddr fd_27_0 hf52) rfl ?_
          refine WL.val v_r_Table _ (op_load one_25 rfl (BoxAt.cell (BoxAt.lift (Ext.trans hE18 hS60.ext) hx6) rfl)) rfl ?_
          have hr63 := inR_len (Ty.lift _ (Ext.trans hE17 hS60.ext) r_r_Table)
          refine WL.val (Value.int .i64 ((r_Table).length : Int)) _ (op_lenL sl_25 (Ty.lift _ (Ext.trans hE17 hS60.ext) r_r_Table) rfl) rfl ?_
          refine WL.val (Value.int .i64 (0 : Int)) _ (op_move rfl) rfl ?_
          refine WL.nil ?_
          show W _ _ _ _ _ _
          obtain ⟨res64, hres65, hb48⟩ := bs hb48
          refine W.blockLoop (fun fq wq => ∃ s, res64 = Res.fin s ∧ fq 1 = (Value.pointer (some ⟨b1, 0, none⟩)) ∧ fq 3 = u11 ∧ fq 4 = (Value.int .i64 (k23 : Int)) ∧ fq 12 = (Value.int .i64 ((r_Table).length : Int)) ∧ fq 13 = (Value.int .i64 (k23 : Int)) ∧ fq 18 = (Value.int .i64 ((r_Table).length : Int)) ∧ fq 19 = (Value.int .i64 (k43 : Int)) ∧ St wd12 wq []) ?_ ?_
          · refine W.forN (fun k (s : Unit) fq wq => fq 1 = (Value.pointer (some ⟨b1, 0, none⟩)) ∧ fq 3 = u11 ∧ fq 4 = (Value.int .i64 (k23 : Int)) ∧ fq 5 = (Value.int .i64 (k43 : Int)) ∧ fq 12 = (Value.int .i64 ((r_Table).length : Int)) ∧ fq 13 = (Value.int .i64 (k23 : Int)) ∧ fq 18 = (Value.int .i64 ((r_Table).length : Int)) ∧ fq 19 = (Value.int .i64 (k43 : Int)) ∧ fq 24 = (Value.int .i64 ((r_Table).length : Int)) ∧ fq 25 = Value.int .i64 (k : Int) ∧ InR .i64 (k : Int) ∧ St wd12 wq []) hres65 ⟨hf52, hf53, hf54, rfl, hf55, hf56, hf57, hf58, rfl, rfl, (inR_i64.2 (show (-9223372036854775808 : Int) ≤ 0 ∧ (0 : Int) ≤ 9223372036854775807 from by decide)), hS60⟩ ?_ ?_
            · intro k66 s611 ct67 f68 wd69 hk70 hb71 hI72 hbrk73 hret74
              obtain ⟨⟩ := s611
              replace hI72 : f68 1 = (Value.pointer (some ⟨b1, 0, none⟩)) ∧ f68 3 = u11 ∧ f68 4 = (Value.int .i64 (k23 : Int)) ∧ f68 5 = (Value.int .i64 (k43 : Int)) ∧ f68 12 = (Value.int .i64 ((r_Table).length : Int)) ∧ f68 13 = (Value.int .i64 (k23 : Int)) ∧ f68 18 = (Value.int .i64 ((r_Table).length : Int)) ∧ f68 19 = (Value.int .i64 (k43 : Int)) ∧ f68 24 = (Value.int .i64 ((r_Table).length : Int)) ∧ f68 25 = Value.int .i64 (k66 : Int) ∧ InR .i64 (k66 : Int) ∧ St wd12 wd69 [] := hI72
              replace hb71 : p_impl_Ring_turnFault_L3 r_Table k23 k43 x9 k66  = some ct67 := hb71
              unfold p_impl_Ring_turnFault_L3 at hb71
              obtain ⟨hf75, hf76, hf77, hf78, hf79, hf80, hf81, hf82, hf83, hf84, hr85, hS86⟩ := hI72
              refine W.seq ?_
              refine W.region ?_
              refine WL.val (Value.bool (decide ((k66 : Int) < ((r_Table).length : Int)))) _ (op_lss hf84 hf83) rfl ?_
              have hl87 : (k66 : Int) < ((r_Table).length : Int) := by omega
              refine WL.nil ?_
              show W _ _ _ _ _ _
              refine W.seq ?_
              refine W.condT (decide ((k66 : Int) < ((r_Table).length : Int))) rfl (decide_eq_true hl87) ?_
              refine W.skip ?_
              show W _ _ _ _ _ _
              refine W.seq ?_
              refine W.block ?_
              refine W.seq ?_
              refine W.region ?_
              refine WL.val (Value.int .i64 (k66 : Int)) _ (op_move hf84) rfl ?_
              refine WL.val (Value.int .i64 (k66 : Int)) _ (op_assign rfl) rfl ?_
              refine WL.nil ?_
              show W _ _ _ _ _ _
              refine W.seq ?_
              refine W.region ?_
              refine WL.val (Value.pointer (some ⟨b1, 0, none⟩)) _ (op_fieldAddr fd_27_0 hf75) rfl ?_
              refine WL.val v_r_Table _ (op_load one_25 rfl (BoxAt.cell (BoxAt.lift (Ext.trans hE18 hS86.ext) hx6) rfl)) rfl ?_
              refine WL.val (Value.int .i64 (k23 : Int)) _ (op_move hf77) rfl ?_
              obtain ⟨x89, hx92, hb71⟩ := bs hb71
              obtain ⟨ha90, hb91, hx92⟩ := idx_some hx92
              refine WL.val (Value.pointer (some (elA v_r_Table ((k23 : Int)).toNat))) _ (op_idx sl_25 (Ty.lift _ (Ext.trans hE17 hS86.ext) r_r_Table) rfl rfl ha90 hb91) rfl ?_
              obtain ⟨u93, hc94, hr95⟩ := repSl.el r_r_Table hx92
              refine WL.val u93 _ (op_load one_22 rfl (Ext.cell (Ext.trans hE17 hS86.ext) hc94)) rfl ?_
              refine WL.val (Value.int .i64 (k43 : Int)) _ (op_move hf78) rfl ?_
              obtain ⟨x96, hx99, hb71⟩ := bs hb71
              obtain ⟨ha97, hb98, hx99⟩ := idx_some hx99
              refine WL.val (Value.pointer (some (elA u93 ((k43 : Int)).toNat))) _ (op_idx sl_22 (Ty.lift _ (Ext.trans hE17 hS86.ext) hr95) rfl rfl ha97 hb98) rfl ?_
              obtain ⟨u100, hc101, hr102⟩ := repSl.el hr95 hx99
              refine WL.val u100 _ (op_load one_23 rfl (Ext.cell (Ext.trans hE17 hS86.ext) hc101)) rfl ?_
              refine WL.val (Value.int .i64 (k66 : Int)) _ (op_move rfl) rfl ?_
              obtain ⟨x103, hx106, hb71⟩ := bs hb71
              obtain ⟨ha104, hb105, hx106⟩ := idx_some hx106
              refine WL.val (Value.pointer (some (elA u100 ((k66 : Int)).toNat))) _ (op_idx sl_23 (Ty.lift _ (Ext.trans hE17 hS86.ext) hr102) rfl rfl ha104 hb105) rfl ?_
              obtain ⟨u107, hc108, hr109⟩ := repSl.el hr102 hx106
              obtain ⟨rfl, hr109⟩ := hr109
              refine WL.val (Value.int .i64 x103) _ (op_load one_2 rfl (Ext.cell (Ext.trans hE17 hS86.ext) hc108)) rfl ?_
              refine WL.val (Value.int .i64 x103) _ (op_assign rfl) rfl ?_
              refine WL.nil ?_
              show W _ _ _ _ _ _
              refine W.seq ?_
              obtain ⟨x154, hx157, hb71⟩ := bs hb71
              obtain ⟨ha155, hb156, hx157⟩ := idx_some hx157
              obtain ⟨u165, hc166, hr167⟩ := repSl.el hb16 hx157
              obtain ⟨rfl, hr167⟩ := hr167
              obtain ⟨x177, hx180, hb71⟩ := bs hb71
              obtain ⟨ha178, hb179, hx180⟩ := idx_some hx180
              obtain ⟨u188, hc189, hr190⟩ := repSl.el r_r_Table hx180
              obtain ⟨x207, hx210, hb71⟩ := bs hb71
              obtain ⟨ha208, hb209, hx210⟩ := idx_some hx210
              obtain ⟨u218, hc219, hr220⟩ := repSl.el hr190 hx210
              obtain ⟨x237, hx240, hb71⟩ := bs hb71
              obtain ⟨ha238, hb239, hx240⟩ := idx_some hx240
              obtain ⟨u248, hc249, hr250⟩ := repSl.el hr220 hx240
              obtain ⟨rfl, hr250⟩ := hr250
              obtain ⟨x268, hj269, hb71⟩ := bs hb71
              refine W.cutCode (fun fq wq => fq 1 = (Value.pointer (some ⟨b1, 0, none⟩)) ∧ fq 3 = u11 ∧ fq 4 = (Value.int .i64 (k23 : Int)) ∧ fq 5 = (Value.int .i64 (k43 : Int)) ∧ fq 6 = (Value.int .i64 (k66 : Int)) ∧ fq 12 = (Value.int .i64 ((r_Table).length : Int)) ∧ fq 13 = (Value.int .i64 (k23 : Int)) ∧ fq 18 = (Value.int .i64 ((r_Table).length : Int)) ∧ fq 19 = (Value.int .i64 (k43 : Int)) ∧ fq 24 = (Value.int .i64 ((r_Table).length : Int)) ∧ fq 25 = (Value.int .i64 (k66 : Int)) ∧ fq 72 = Value.bool x268 ∧ St wd12 wq []) ?_ ?_
              · rcases Bool.eq_false_or_eq_true (x103 != x237) with hc270 | hc270
                · replace hj269 := ip hj269 hc270
                  refine W.draw mixo 32 [fun v _ => v = (Value.int .i64 x103) ∧ InR .i64 x103, fun v _ => v = (Value.pointer (some ⟨b1, 0, none⟩)), fun v _ => v = v_r_Table, fun v _ => v = u11, fun v _ => v = (Value.int .i64 (k23 : Int)) ∧ InR .i64 (k23 : Int), fun v _ => v = (Value.pointer (some (elA u11 ((k23 : Int)).toNat))), fun v _ => v = (Value.int .i64 x154) ∧ InR .i64 x154, fun v _ => v = (Value.pointer (some (elA v_r_Table (x154).toNat))), fun v _ => v = u188, fun v _ => v = (Value.int .i64 (k66 : Int)) ∧ InR .i64 (k66 : Int), fun v _ => v = (Value.pointer (some (elA u188 ((k66 : Int)).toNat))), fun v _ => v = u218, fun v _ => v = (Value.int .i64 (k43 : Int)) ∧ InR .i64 (k43 : Int), fun v _ => v = (Value.pointer (some (elA u218 ((k43 : Int)).toNat))), fun v _ => v = (Value.int .i64 x237) ∧ InR .i64 x237, fun v _ => v = (Value.bool (x103 != x237)), fun v _ => v = (Value.bool (x103 != x237)), fun v _ => v = undef, fun v _ => v = undef, fun v _ => v = undef, fun v _ => v = undef, fun v _ => v = undef, fun v _ => v = undef, fun v _ => v = undef, fun v _ => v = undef, fun v _ => v = undef, fun v _ => v = undef, fun v _ => v = undef, fun v _ => v = undef, fun v _ => v = undef, fun v _ => v = undef, fun v _ => v = undef] (by kernel_rfl) (by kernel_rfl) (stabL ⟨(fun _ _ _ _ h => h), (fun _ _ _ _ h => h), (fun _ _ _ _ h => h), (fun _ _ _ _ h => h), (fun _ _ _ _ h => h), (fun _ _ _ _ h => h), (fun _ _ _ _ h => h), (fun _ _ _ _ h => h), (fun _ _ _ _ h => h), (fun _ _ _ _ h => h), (fun _ _ _ _ h => h), (fun _ _ _ _ h => h), (fun _ _ _ _ h => h), (fun _ _ _ _ h => h), (fun _ _ _ _ h => h), (fun _ _ _ _ h => h), (fun _ _ _ _ h => h), (fun _ _ _ _ h => h), (fun _ _ _ _ h => h), (fun _ _ _ _ h => h), (fun _ _ _ _ h => h), (fun _ _ _ _ h => h), (fun _ _ _ _ h => h), (fun _ _ _ _ h => h), (fun _ _ _ _ h => h), (fun _ _ _ _ h => h), (fun _ _ _ _ h => h), (fun _ _ _ _ h => h), (fun _ _ _ _ h => h), (fun _ _ _ _ h => h), (fun _ _ _ _ h => h), (fun _ _ _ _ h => h), trivial⟩) ⟨?_, ?_, ?_, ?_, ?_, ?_, ?_, ?_, ?_, ?_, ?_, ?_, ?_, ?_, ?_, ?_, ?_, ?_, ?_, ?_, ?_, ?_, ?_, ?_, ?_, ?_, ?_, ?_, ?_, ?_, ?_, ?_, trivial⟩ ?_
                  · intro f110 wd111 he112 hout113 hphi114
                    have hS115 : St wd12 wd111 [] := St.extend hS86 he112
                    have e116 : f110 7 = (Value.int .i64 x103) := (hout113 7 rfl).trans rfl
                    exact OpY.val (Value.int .i64 x103) wd111 rfl (op_move e116) (Ext.refl _) ⟨rfl, hr109⟩
                  · intro f117 wd118 he119 hout120 hphi121
                    have hS122 : St wd12 wd118 [] := St.extend hS86 he119
                    have e123 : f117 1 = (Value.pointer (some ⟨b1, 0, none⟩)) := (hout120 1 rfl).trans hf75
                    exact OpY.val (Value.pointer (some ⟨b1, 0, none⟩)) wd118 rfl (op_fieldAddr fd_27_0 e123) (Ext.refl _) rfl
                  · intro f124 wd125 he126 hout127 hphi128
                    have hS129 : St wd12 wd125 [] := St.extend hS86 he126
                    have e130 : f124 40 = (Value.pointer (some ⟨b1, 0, none⟩)) := hphi128 1 40 _ rfl rfl rfl
                    exact OpY.val v_r_Table wd125 rfl (op_load one_25 e130 (BoxAt.cell (BoxAt.lift (Ext.trans hE18 hS129.ext) hx6) rfl)) (Ext.refl _) rfl
                  · intro f131 wd132 he133 hout134 hphi135
                    have hS136 : St wd12 wd132 [] := St.extend hS86 he133
                    have e137 : f131 3 = u11 := (hout134 3 rfl).trans hf76
                    exact OpY.val u11 wd132 rfl (op_move e137) (Ext.refl _) rfl
                  · intro f138 wd139 he140 hout141 hphi142
                    have hS143 : St wd12 wd139 [] := St.extend hS86 he140
                    have e144 : f138 4 = (Value.int .i64 (k23 : Int)) := (hout141 4 rfl).trans hf77
                    exact OpY.val (Value.int .i64 (k23 : Int)) wd139 rfl (op_move e144) (Ext.refl _) ⟨rfl, hr36⟩
                  · intro f145 wd146 he147 hout148 hphi149
                    have hS150 : St wd12 wd146 [] := St.extend hS86 he147
                    have e151 : f145 42 = u11 := hphi149 3 42 _ rfl rfl rfl
                    obtain ⟨e152, hr153⟩ : f145 43 = (Value.int .i64 (k23 : Int)) ∧ InR .i64 (k23 : Int) := hphi149 4 43 _ rfl rfl rfl
                    exact OpY.val (Value.pointer (some (elA u11 ((k23 : Int)).toNat))) wd146 rfl (op_idx sl_72 (Ty.lift _ hS150.ext hb16) e151 e152 ha155 hb156) (Ext.refl _) rfl
                  · intro f158 wd159 he160 hout161 hphi162
                    have hS163 : St wd12 wd159 [] := St.extend hS86 he160
                    have e164 : f158 44 = (Value.pointer (some (elA u11 ((k23 : Int)).toNat))) := hphi162 5 44 _ rfl rfl rfl
                    exact OpY.val (Value.int .i64 x154) wd159 rfl (op_load one_3 e164 (Ext.cell hS163.ext hc166)) (Ext.refl _) ⟨rfl, hr167⟩
                  · intro f168 wd169 he170 hout171 hphi172
                    have hS173 : St wd12 wd169 [] := St.extend hS86 he170
                    have e174 : f168 41 = v_r_Table := hphi172 2 41 _ rfl rfl rfl
                    obtain ⟨e175, hr176⟩ : f168 45 = (Value.int .i64 x154) ∧ InR .i64 x154 := hphi172 6 45 _ rfl rfl rfl
                    exact OpY.val (Value.pointer (some (elA v_r_Table (x154).toNat))) wd169 rfl (op_idx sl_25 (Ty.lift _ (Ext.trans hE17 hS173.ext) r_r_Table) e174 e175 ha178 hb179) (Ext.refl _) rfl
                  · intro f181 wd182 he183 hout184 hphi185
                    have hS186 : St wd12 wd182 [] := St.extend hS86 he183
                    have e187 : f181 46 = (Value.pointer (some (elA v_r_Table (x154).toNat))) := hphi185 7 46 _ rfl rfl rfl
                    exact OpY.val u188 wd182 rfl (op_load one_22 e187 (Ext.cell (Ext.trans hE17 hS186.ext) hc189)) (Ext.refl _) rfl
                  · intro f191 wd192 he193 hout194 hphi195
                    have hS196 : St wd12 wd192 [] := St.extend hS86 he193
                    have e197 : f191 6 = (Value.int .i64 (k66 : Int)) := (hout194 6 rfl).trans rfl
                    exact OpY.val (Value.int .i64 (k66 : Int)) wd192 rfl (op_move e197) (Ext.refl _) ⟨rfl, hr85⟩
                  · intro f198 wd199 he200 hout201 hphi202
                    have hS203 : St wd12 wd199 [] := St.extend hS86 he200
                    have e204 : f198 47 = u188 := hphi202 8 47 _ rfl rfl rfl
                    obtain ⟨e205, hr206⟩ : f198 48 = (Value.int .i64 (k66 : Int)) ∧ InR .i64 (k66 : Int) := hphi202 9 48 _ rfl rfl rfl
                    exact OpY.val (Value.pointer (some (elA u188 ((k66 : Int)).toNat))) wd199 rfl (op_idx sl_22 (Ty.lift _ (Ext.trans hE17 hS203.ext) hr190) e204 e205 ha208 hb209) (Ext.refl _) rfl
                  · intro f211 wd212 he213 hout214 hphi215
                    have hS216 : St wd12 wd212 [] := St.extend hS86 he213
                    have e217 : f211 49 = (Value.pointer (some (elA u188 ((k66 : Int)).toNat))) := hphi215 10 49 _ rfl rfl rfl
                    exact OpY.val u218 wd212 rfl (op_load one_23 e217 (Ext.cell (Ext.trans hE17 hS216.ext) hc219)) (Ext.refl _) rfl
                  · intro f221 wd222 he223 hout224 hphi225
                    have hS226 : St wd12 wd222 [] := St.extend hS86 he223
                    have e227 : f221 5 = (Value.int .i64 (k43 : Int)) := (hout224 5 rfl).trans hf78
                    exact OpY.val (Value.int .i64 (k43 : Int)) wd222 rfl (op_move e227) (Ext.refl _) ⟨rfl, hr59⟩
                  · intro f228 wd229 he230 hout231 hphi232
                    have hS233 : St wd12 wd229 [] := St.extend hS86 he230
                    have e234 : f228 50 = u218 := hphi232 11 50 _ rfl rfl rfl
                    obtain ⟨e235, hr236⟩ : f228 51 = (Value.int .i64 (k43 : Int)) ∧ InR .i64 (k43 : Int) := hphi232 12 51 _ rfl rfl rfl
                    exact OpY.val (Value.pointer (some (elA u218 ((k43 : Int)).toNat))) wd229 rfl (op_idx sl_23 (Ty.lift _ (Ext.trans hE17 hS233.ext) hr220) e234 e235 ha238 hb239) (Ext.refl _) rfl
                  · intro f241 wd242 he243 hout244 hphi245
                    have hS246 : St wd12 wd242 [] := St.extend hS86 he243
                    have e247 : f241 52 = (Value.pointer (some (elA u218 ((k43 : Int)).toNat))) := hphi245 13 52 _ rfl rfl rfl
                    exact OpY.val (Value.int .i64 x237) wd242 rfl (op_load one_2 e247 (Ext.cell (Ext.trans hE17 hS246.ext) hc249)) (Ext.refl _) ⟨rfl, hr250⟩
                  · intro f251 wd252 he253 hout254 hphi255
                    have hS256 : St wd12 wd252 [] := St.extend hS86 he253
                    obtain ⟨e257, hr258⟩ : f251 39 = (Value.int .i64 x103) ∧ InR .i64 x103 := hphi255 0 39 _ rfl rfl rfl
                    obtain ⟨e259, hr260⟩ : f251 53 = (Value.int .i64 x237) ∧ InR .i64 x237 := hphi255 14 53 _ rfl rfl rfl
                    exact OpY.val (Value.bool (x103 != x237)) wd252 rfl (op_neq e257 e259) (Ext.refl _) rfl
                  · intro f261 wd262 he263 hout264 hphi265
                    have hS266 : St wd12 wd262 [] := St.extend hS86 he263
                    have e267 : f261 54 = (Value.bool (x103 != x237)) := hphi265 15 54 _ rfl rfl rfl
                    exact OpY.val (Value.bool (x103 != x237)) wd262 rfl (op_move e267) (Ext.refl _) rfl
                  · intro f271 wd272 he273 hout274 hphi275
                    have e276 : f271 55 = (Value.bool (x103 != x237)) := hphi275 16 55 _ rfl rfl rfl
                    exact OpY.skip (wanted_skip rfl rfl e276 hc270) rfl
                  · intro f277 wd278 he279 hout280 hphi281
                    have e282 : f277 55 = (Value.bool (x103 != x237)) := hphi281 16 55 _ rfl rfl rfl
                    exact OpY.skip (wanted_skip rfl rfl e282 hc270) rfl
                  · intro f283 wd284 he285 hout286 hphi287
                    have e288 : f283 55 = (Value.bool (x103 != x237)) := hphi287 16 55 _ rfl rfl rfl
                    exact OpY.skip (wanted_skip rfl rfl e288 hc270) rfl
                  · intro f289 wd290 he291 hout292 hphi293
                    have e294 : f289 55 = (Value.bool (x103 != x237)) := hphi293 16 55 _ rfl rfl rfl
                    exact OpY.skip (wanted_skip rfl rfl e294 hc270) rfl
                  · intro f295 wd296 he297 hout298 hphi299
                    have e300 : f295 55 = (Value.bool (x103 != x237)) := hphi299 16 55 _ rfl rfl rfl
                    exact OpY.skip (wanted_skip rfl rfl e300 hc270) rfl
                  · intro f301 wd302 he303 hout304 hphi305
                    have e306 : f301 55 = (Value.bool (x103 != x237)) := hphi305 16 55 _ rfl rfl rfl
                    exact OpY.skip (wanted_skip rfl rfl e306 hc270) rfl
                  · intro f307 wd308 he309 hout310 hphi311
                    have e312 : f307 55 = (Value.bool (x103 != x237)) := hphi311 16 55 _ rfl rfl rfl
                    exact OpY.skip (wanted_skip rfl rfl e312 hc270) rfl
                  · intro f313 wd314 he315 hout316 hphi317
                    have e318 : f313 55 = (Value.bool (x103 != x237)) := hphi317 16 55 _ rfl rfl rfl
                    exact OpY.skip (wanted_skip rfl rfl e318 hc270) rfl
                  · intro f319 wd320 he321 hout322 hphi323
                    have e324 : f319 55 = (Value.bool (x103 != x237)) := hphi323 16 55 _ rfl rfl rfl
                    exact OpY.skip (wanted_skip rfl rfl e324 hc270) rfl
                  · intro f325 wd326 he327 hout328 hphi329
                    have e330 : f325 55 = (Value.bool (x103 != x237)) := hphi329 16 55 _ rfl rfl rfl
                    exact OpY.skip (wanted_skip rfl rfl e330 hc270) rfl
                  · intro f331 wd332 he333 hout334 hphi335
                    have e336 : f331 55 = (Value.bool (x103 != x237)) := hphi335 16 55 _ rfl rfl rfl
                    exact OpY.skip (wanted_skip rfl rfl e336 hc270) rfl
                  · intro f337 wd338 he339 hout340 hphi341
                    have e342 : f337 55 = (Value.bool (x103 != x237)) := hphi341 16 55 _ rfl rfl rfl
                    exact OpY.skip (wanted_skip rfl rfl e342 hc270) rfl
                  · intro f343 wd344 he345 hout346 hphi347
                    have e348 : f343 55 = (Value.bool (x103 != x237)) := hphi347 16 55 _ rfl rfl rfl
                    exact OpY.skip (wanted_skip rfl rfl e348 hc270) rfl
                  · intro f349 wd350 he351 hout352 hphi353
                    have e354 : f349 55 = (Value.bool (x103 != x237)) := hphi353 16 55 _ rfl rfl rfl
                    exact OpY.skip (wanted_skip rfl rfl e354 hc270) rfl
                  · intro f355 wd356 he357 hout358 hphi359
                    have e360 : f355 55 = (Value.bool (x103 != x237)) := hphi359 16 55 _ rfl rfl rfl
                    exact OpY.skip (wanted_skip rfl rfl e360 hc270) rfl
                  · intro f361 wd362 he363 hout364 hphi365
                    show WL _ _ _ _ _ _ _
                    have hS366 : St wd12 wd362 [] := St.extend hS86 he363
                    have e367 : f361 55 = (Value.bool (x103 != x237)) := hphi365 16 55 _ (by decide) rfl rfl
                    have e368 : f361 56 = undef := hphi365 17 56 _ (by decide) rfl rfl
                    have e369 : f361 57 = undef := hphi365 18 57 _ (by decide) rfl rfl
                    have e370 : f361 58 = undef := hphi365 19 58 _ (by decide) rfl rfl
                    have e371 : f361 59 = undef := hphi365 20 59 _ (by decide) rfl rfl
                    have e372 : f361 60 = undef := hphi365 21 60 _ (by decide) rfl rfl
                    have e373 : f361 61 = undef := hphi365 22 61 _ (by decide) rfl rfl
                    have e374 : f361 62 = undef := hphi365 23 62 _ (by decide) rfl rfl
                    have e375 : f361 63 = undef := hphi365 24 63 _ (by decide) rfl rfl
                    have e376 : f361 64 = undef := hphi365 25 64 _ (by decide) rfl rfl
                    have e377 : f361 65 = undef := hphi365 26 65 _ (by decide) rfl rfl
                    have e378 : f361 66 = undef := hphi365 27 66 _ (by decide) rfl rfl
                    have e379 : f361 67 = undef := hphi365 28 67 _ (by decide) rfl rfl
                    have e380 : f361 68 = undef := hphi365 29 68 _ (by decide) rfl rfl
                    have e381 : f361 69 = undef := hphi365 30 69 _ (by decide) rfl rfl
                    have e382 : f361 70 = undef := hphi365 31 70 _ (by decide) rfl rfl
                    have e383 : f361 1 = (Value.pointer (some ⟨b1, 0, none⟩)) := (hout364 1 rfl).trans hf75
                    have e384 : f361 3 = u11 := (hout364 3 rfl).trans hf76
                    have e385 : f361 4 = (Value.int .i64 (k23 : Int)) := (hout364 4 rfl).trans hf77
                    have e386 : f361 5 = (Value.int .i64 (k43 : Int)) := (hout364 5 rfl).trans hf78
                    have e387 : f361 6 = (Value.int .i64 (k66 : Int)) := (hout364 6 rfl).trans rfl
                    have e388 : f361 12 = (Value.int .i64 ((r_Table).length : Int)) := (hout364 12 rfl).trans hf79
                    have e389 : f361 13 = (Value.int .i64 (k23 : Int)) := (hout364 13 rfl).trans hf80
                    have e390 : f361 18 = (Value.int .i64 ((r_Table).length : Int)) := (hout364 18 rfl).trans hf81
                    have e391 : f361 19 = (Value.int .i64 (k43 : Int)) := (hout364 19 rfl).trans hf82
                    have e392 : f361 24 = (Value.int .i64 ((r_Table).length : Int)) := (hout364 24 rfl).trans hf83
                    have e393 : f361 25 = (Value.int .i64 (k66 : Int)) := (hout364 25 rfl).trans hf84
                    refine WL.gskip rfl (bool_of e367 hc270) rfl ?_
                    refine WL.val (Value.bool true) _ (op_pick_t (evb_of e367 hc270) rfl) rfl ?_
                    refine WL.nil ?_
                    obtain rfl := Option.some.inj hj269
                    exact ⟨e383, e384, e385, e386, e387, e388, e389, e390, e391, e392, e393, rfl, hS366⟩
                · replace hj269 := inegb hj269 hc270
                  obtain ⟨x436, hx439, hj269⟩ := bs hj269
                  obtain ⟨ha437, hb438, hx439⟩ := idx_some hx439
                  obtain ⟨u448, hc449, hr450⟩ := repSl.el r_r_Table hx439
                  obtain ⟨x477, hx480, hj269⟩ := bs hj269
                  obtain ⟨ha478, hb479, hx480⟩ := idx_some hx480
                  obtain ⟨u489, hc490, hr491⟩ := repSl.el hb16 hx480
                  obtain ⟨rfl, hr491⟩ := hr491
                  obtain ⟨x502, hx505, hj269⟩ := bs hj269
                  obtain ⟨ha503, hb504, hx505⟩ := idx_some hx505
                  obtain ⟨u514, hc515, hr516⟩ := repSl.el hr450 hx505
                  obtain ⟨x535, hx538, hj269⟩ := bs hj269
                  obtain ⟨ha536, hb537, hx538⟩ := idx_some hx538
                  obtain ⟨u547, hc548, hr549⟩ := repSl.el hr516 hx538
                  obtain ⟨rfl, hr549⟩ := hr549
                  refine W.draw mixo 32 [fun v _ => v = (Value.int .i64 x103) ∧ InR .i64 x103, fun v _ => v = (Value.pointer (some ⟨b1, 0, none⟩)), fun v _ => v = v_r_Table, fun v _ => v = u11, fun v _ => v = (Value.int .i64 (k23 : Int)) ∧ InR .i64 (k23 : Int), fun v _ => v = (Value.pointer (some (elA u11 ((k23 : Int)).toNat))), fun v _ => v = (Value.int .i64 x154) ∧ InR .i64 x154, fun v _ => v = (Value.pointer (some (elA v_r_Table (x154).toNat))), fun v _ => v = u188, fun v _ => v = (Value.int .i64 (k66 : Int)) ∧ InR .i64 (k66 : Int), fun v _ => v = (Value.pointer (some (elA u188 ((k66 : Int)).toNat))), fun v _ => v = u218, fun v _ => v = (Value.int .i64 (k43 : Int)) ∧ InR .i64 (k43 : Int), fun v _ => v = (Value.pointer (some (elA u218 ((k43 : Int)).toNat))), fun v _ => v = (Value.int .i64 x237) ∧ InR .i64 x237, fun v _ => v = (Value.bool (x103 != x237)), fun v _ => v = (Value.bool (x103 != x237)), fun v _ => v = (Value.int .i64 x103) ∧ InR .i64 x103, fun v _ => v = (Value.pointer (some ⟨b1, 0, none⟩)), fun v _ => v = v_r_Table, fun v _ => v = (Value.int .i64 (k66 : Int)) ∧ InR .i64 (k66 : Int), fun v _ => v = (Value.pointer (some (elA v_r_Table ((k66 : Int)).toNat))), fun v _ => v = u448, fun v _ => v = u11, fun v _ => v = (Value.int .i64 (k43 : Int)) ∧ InR .i64 (k43 : Int), fun v _ => v = (Value.pointer (some (elA u11 ((k43 : Int)).toNat))), fun v _ => v = (Value.int .i64 x477) ∧ InR .i64 x477, fun v _ => v = (Value.pointer (some (elA u448 (x477).toNat))), fun v _ => v = u514, fun v _ => v = (Value.int .i64 (k23 : Int)) ∧ InR .i64 (k23 : Int), fun v _ => v = (Value.pointer (some (elA u514 ((k23 : Int)).toNat))), fun v _ => v = (Value.int .i64 x535) ∧ InR .i64 x535] (by kernel_rfl) (by kernel_rfl) (stabL ⟨(fun _ _ _ _ h => h), (fun _ _ _ _ h => h), (fun _ _ _ _ h => h), (fun _ _ _ _ h => h), (fun _ _ _ _ h => h), (fun _ _ _ _ h => h), (fun _ _ _ _ h => h), (fun _ _ _ _ h => h), (fun _ _ _ _ h => h), (fun _ _ _ _ h => h), (fun _ _ _ _ h => h), (fun _ _ _ _ h => h), (fun _ _ _ _ h => h), (fun _ _ _ _ h => h), (fun _ _ _ _ h => h), (fun _ _ _ _ h => h), (fun _ _ _ _ h => h), (fun _ _ _ _ h => h), (fun _ _ _ _ h => h), (fun _ _ _ _ h => h), (fun _ _ _ _ h => h), (fun _ _ _ _ h => h), (fun _ _ _ _ h => h), (fun _ _ _ _ h => h), (fun _ _ _ _ h => h), (fun _ _ _ _ h => h), (fun _ _ _ _ h => h), (fun _ _ _ _ h => h), (fun _ _ _ _ h => h), (fun _ _ _ _ h => h), (fun _ _ _ _ h => h), (fun _ _ _ _ h => h), trivial⟩) ⟨?_, ?_, ?_, ?_, ?_, ?_, ?_, ?_, ?_, ?_, ?_, ?_, ?_, ?_, ?_, ?_, ?_, ?_, ?_, ?_, ?_, ?_, ?_, ?_, ?_, ?_, ?_, ?_, ?_, ?_, ?_, ?_, trivial⟩ ?_
                  · intro f110 wd111 he112 hout113 hphi114
                    have hS115 : St wd12 wd111 [] := St.extend hS86 he112
                    have e116 : f110 7 = (Value.int .i64 x103) := (hout113 7 rfl).trans rfl
                    exact OpY.val (Value.int .i64 x103) wd111 rfl (op_move e116) (Ext.refl _) ⟨rfl, hr109⟩
                  · intro f117 wd118 he119 hout120 hphi121
                    have hS122 : St wd12 wd118 [] := St.extend hS86 he119
                    have e123 : f117 1 = (Value.pointer (some ⟨b1, 0, none⟩)) := (hout120 1 rfl).trans hf75
                    exact OpY.val (Value.pointer (some ⟨b1, 0, none⟩)) wd118 rfl (op_fieldAddr fd_27_0 e123) (Ext.refl _) rfl
                  · intro f124 wd125 he126 hout127 hphi128
                    have hS129 : St wd12 wd125 [] := St.extend hS86 he126
                    have e130 : f124 40 = (Value.pointer (some ⟨b1, 0, none⟩)) := hphi128 1 40 _ rfl rfl rfl
                    exact OpY.val v_r_Table wd125 rfl (op_load one_25 e130 (BoxAt.cell (BoxAt.lift (Ext.trans hE18 hS129.ext) hx6) rfl)) (Ext.refl _) rfl
                  · intro f131 wd132 he133 hout134 hphi135
                    have hS136 : St wd12 wd132 [] := St.extend hS86 he133
                    have e137 : f131 3 = u11 := (hout134 3 rfl).trans hf76
                    exact OpY.val u11 wd132 rfl (op_move e137) (Ext.refl _) rfl
                  · intro f138 wd139 he140 hout141 hphi142
                    have hS143 : St wd12 wd139 [] := St.extend hS86 he140
                    have e144 : f138 4 = (Value.int .i64 (k23 : Int)) := (hout141 4 rfl).trans hf77
                    exact OpY.val (Value.int .i64 (k23 : Int)) wd139 rfl (op_move e144) (Ext.refl _) ⟨rfl, hr36⟩
                  · intro f145 wd146 he147 hout148 hphi149
                    have hS150 : St wd12 wd146 [] := St.extend hS86 he147
                    have e151 : f145 42 = u11 := hphi149 3 42 _ rfl rfl rfl
                    obtain ⟨e152, hr153⟩ : f145 43 = (Value.int .i64 (k23 : Int)) ∧ InR .i64 (k23 : Int) := hphi149 4 43 _ rfl rfl rfl
                    exact OpY.val (Value.pointer (some (elA u11 ((k23 : Int)).toNat))) wd146 rfl (op_idx sl_72 (Ty.lift _ hS150.ext hb16) e151 e152 ha155 hb156) (Ext.refl _) rfl
                  · intro f158 wd159 he160 hout161 hphi162
                    have hS163 : St wd12 wd159 [] := St.extend hS86 he160
                    have e164 : f158 44 = (Value.pointer (some (elA u11 ((k23 : Int)).toNat))) := hphi162 5 44 _ rfl rfl rfl
                    exact OpY.val (Value.int .i64 x154) wd159 rfl (op_load one_3 e164 (Ext.cell hS163.ext hc166)) (Ext.refl _) ⟨rfl, hr167⟩
                  · intro f168 wd169 he170 hout171 hphi172
                    have hS173 : St wd12 wd169 [] := St.extend hS86 he170
                    have e174 : f168 41 = v_r_Table := hphi172 2 41 _ rfl rfl rfl
                    obtain ⟨e175, hr176⟩ : f168 45 = (Value.int .i64 x154) ∧ InR .i64 x154 := hphi172 6 45 _ rfl rfl rfl
                    exact OpY.val (Value.pointer (some (elA v_r_Table (x154).toNat))) wd169 rfl (op_idx sl_25 (Ty.lift _ (Ext.trans hE17 hS173.ext) r_r_Table) e174 e175 ha178 hb179) (Ext.refl _) rfl
                  · intro f181 wd182 he183 hout184 hphi185
                    have hS186 : St wd12 wd182 [] := St.extend hS86 he183
                    have e187 : f181 46 = (Value.pointer (some (elA v_r_Table (x154).toNat))) := hphi185 7 46 _ rfl rfl rfl
                    exact OpY.val u188 wd182 rfl (op_load one_22 e187 (Ext.cell (Ext.trans hE17 hS186.ext) hc189)) (Ext.refl _) rfl
                  · intro f191 wd192 he193 hout194 hphi195
                    have hS196 : St wd12 wd192 [] := St.extend hS86 he193
                    have e197 : f191 6 = (Value.int .i64 (k66 : Int)) := (hout194 6 rfl).trans rfl
                    exact OpY.val (Value.int .i64 (k66 : Int)) wd192 rfl (op_move e197) (Ext.refl _) ⟨rfl, hr85⟩
                  · intro f198 wd199 he200 hout201 hphi202
                    have hS203 : St wd12 wd199 [] := St.extend hS86 he200
                    have e204 : f198 47 = u188 := hphi202 8 47 _ rfl rfl rfl
                    obtain ⟨e205, hr206⟩ : f198 48 = (Value.int .i64 (k66 : Int)) ∧ InR .i64 (k66 : Int) := hphi202 9 48 _ rfl rfl rfl
                    exact OpY.val (Value.pointer (some (elA u188 ((k66 : Int)).toNat))) wd199 rfl (op_idx sl_22 (Ty.lift _ (Ext.trans hE17 hS203.ext) hr190) e204 e205 ha208 hb209) (Ext.refl _) rfl
                  · intro f211 wd212 he213 hout214 hphi215
                    have hS216 : St wd12 wd212 [] := St.extend hS86 he213
                    have e217 : f211 49 = (Value.pointer (some (elA u188 ((k66 : Int)).toNat))) := hphi215 10 49 _ rfl rfl rfl
                    exact OpY.val u218 wd212 rfl (op_load one_23 e217 (Ext.cell (Ext.trans hE17 hS216.ext) hc219)) (Ext.refl _) rfl
                  · intro f221 wd222 he223 hout224 hphi225
                    have hS226 : St wd12 wd222 [] := St.extend hS86 he223
                    have e227 : f221 5 = (Value.int .i64 (k43 : Int)) := (hout224 5 rfl).trans hf78
                    exact OpY.val (Value.int .i64 (k43 : Int)) wd222 rfl (op_move e227) (Ext.refl _) ⟨rfl, hr59⟩
                  · intro f228 wd229 he230 hout231 hphi232
                    have hS233 : St wd12 wd229 [] := St.extend hS86 he230
                    have e234 : f228 50 = u218 := hphi232 11 50 _ rfl rfl rfl
                    obtain ⟨e235, hr236⟩ : f228 51 = (Value.int .i64 (k43 : Int)) ∧ InR .i64 (k43 : Int) := hphi232 12 51 _ rfl rfl rfl
                    exact OpY.val (Value.pointer (some (elA u218 ((k43 : Int)).toNat))) wd229 rfl (op_idx sl_23 (Ty.lift _ (Ext.trans hE17 hS233.ext) hr220) e234 e235 ha238 hb239) (Ext.refl _) rfl
                  · intro f241 wd242 he243 hout244 hphi245
                    have hS246 : St wd12 wd242 [] := St.extend hS86 he243
                    have e247 : f241 52 = (Value.pointer (some (elA u218 ((k43 : Int)).toNat))) := hphi245 13 52 _ rfl rfl rfl
                    exact OpY.val (Value.int .i64 x237) wd242 rfl (op_load one_2 e247 (Ext.cell (Ext.trans hE17 hS246.ext) hc249)) (Ext.refl _) ⟨rfl, hr250⟩
                  · intro f251 wd252 he253 hout254 hphi255
                    have hS256 : St wd12 wd252 [] := St.extend hS86 he253
                    obtain ⟨e257, hr258⟩ : f251 39 = (Value.int .i64 x103) ∧ InR .i64 x103 := hphi255 0 39 _ rfl rfl rfl
                    obtain ⟨e259, hr260⟩ : f251 53 = (Value.int .i64 x237) ∧ InR .i64 x237 := hphi255 14 53 _ rfl rfl rfl
                    exact OpY.val (Value.bool (x103 != x237)) wd252 rfl (op_neq e257 e259) (Ext.refl _) rfl
                  · intro f261 wd262 he263 hout264 hphi265
                    have hS266 : St wd12 wd262 [] := St.extend hS86 he263
                    have e267 : f261 54 = (Value.bool (x103 != x237)) := hphi265 15 54 _ rfl rfl rfl
                    exact OpY.val (Value.bool (x103 != x237)) wd262 rfl (op_move e267) (Ext.refl _) rfl
                  · intro f394 wd395 he396 hout397 hphi398
                    have hS399 : St wd12 wd395 [] := St.extend hS86 he396
                    have e400 : f394 7 = (Value.int .i64 x103) := (hout397 7 rfl).trans rfl
                    have e401 : f394 55 = (Value.bool (x103 != x237)) := hphi398 16 55 _ rfl rfl rfl
                    exact OpY.val (Value.int .i64 x103) wd395 (wanted_run rfl rfl e401 hc270) (op_move e400) (Ext.refl _) ⟨rfl, hr109⟩
                  · intro f402 wd403 he404 hout405 hphi406
                    have hS407 : St wd12 wd403 [] := St.extend hS86 he404
                    have e408 : f402 1 = (Value.pointer (some ⟨b1, 0, none⟩)) := (hout405 1 rfl).trans hf75
                    have e409 : f402 55 = (Value.bool (x103 != x237)) := hphi406 16 55 _ rfl rfl rfl
                    exact OpY.val (Value.pointer (some ⟨b1, 0, none⟩)) wd403 (wanted_run rfl rfl e409 hc270) (op_fieldAddr fd_27_0 e408) (Ext.refl _) rfl
                  · intro f410 wd411 he412 hout413 hphi414
                    have hS415 : St wd12 wd411 [] := St.extend hS86 he412
                    have e416 : f410 55 = (Value.bool (x103 != x237)) := hphi414 16 55 _ rfl rfl rfl
                    have e417 : f410 57 = (Value.pointer (some ⟨b1, 0, none⟩)) := hphi414 18 57 _ rfl rfl rfl
                    exact OpY.val v_r_Table wd411 (wanted_run rfl rfl e416 hc270) (op_load one_25 e417 (BoxAt.cell (BoxAt.lift (Ext.trans hE18 hS415.ext) hx6) rfl)) (Ext.refl _) rfl
                  · intro f418 wd419 he420 hout421 hphi422
                    have hS423 : St wd12 wd419 [] := St.extend hS86 he420
                    have e424 : f418 6 = (Value.int .i64 (k66 : Int)) := (hout421 6 rfl).trans rfl
                    have e425 : f418 55 = (Value.bool (x103 != x237)) := hphi422 16 55 _ rfl rfl rfl
                    exact OpY.val (Value.int .i64 (k66 : Int)) wd419 (wanted_run rfl rfl e425 hc270) (op_move e424) (Ext.refl _) ⟨rfl, hr85⟩
                  · intro f426 wd427 he428 hout429 hphi430
                    have hS431 : St wd12 wd427 [] := St.extend hS86 he428
                    have e432 : f426 55 = (Value.bool (x103 != x237)) := hphi430 16 55 _ rfl rfl rfl
                    have e433 : f426 58 = v_r_Table := hphi430 19 58 _ rfl rfl rfl
                    obtain ⟨e434, hr435⟩ : f426 59 = (Value.int .i64 (k66 : Int)) ∧ InR .i64 (k66 : Int) := hphi430 20 59 _ rfl rfl rfl
                    exact OpY.val (Value.pointer (some (elA v_r_Table ((k66 : Int)).toNat))) wd427 (wanted_run rfl rfl e432 hc270) (op_idx sl_25 (Ty.lift _ (Ext.trans hE17 hS431.ext) r_r_Table) e433 e434 ha437 hb438) (Ext.refl _) rfl
                  · intro f440 wd441 he442 hout443 hphi444
                    have hS445 : St wd12 wd441 [] := St.extend hS86 he442
                    have e446 : f440 55 = (Value.bool (x103 != x237)) := hphi444 16 55 _ rfl rfl rfl
                    have e447 : f440 60 = (Value.pointer (some (elA v_r_Table ((k66 : Int)).toNat))) := hphi444 21 60 _ rfl rfl rfl
                    exact OpY.val u448 wd441 (wanted_run rfl rfl e446 hc270) (op_load one_22 e447 (Ext.cell (Ext.trans hE17 hS445.ext) hc449)) (Ext.refl _) rfl
                  · intro f451 wd452 he453 hout454 hphi455
                    have hS456 : St wd12 wd452 [] := St.extend hS86 he453
                    have e457 : f451 3 = u11 := (hout454 3 rfl).trans hf76
                    have e458 : f451 55 = (Value.bool (x103 != x237)) := hphi455 16 55 _ rfl rfl rfl
                    exact OpY.val u11 wd452 (wanted_run rfl rfl e458 hc270) (op_move e457) (Ext.refl _) rfl
                  · intro f459 wd460 he461 hout462 hphi463
                    have hS464 : St wd12 wd460 [] := St.extend hS86 he461
                    have e465 : f459 5 = (Value.int .i64 (k43 : Int)) := (hout462 5 rfl).trans hf78
                    have e466 : f459 55 = (Value.bool (x103 != x237)) := hphi463 16 55 _ rfl rfl rfl
                    exact OpY.val (Value.int .i64 (k43 : Int)) wd460 (wanted_run rfl rfl e466 hc270) (op_move e465) (Ext.refl _) ⟨rfl, hr59⟩
                  · intro f467 wd468 he469 hout470 hphi471
                    have hS472 : St wd12 wd468 [] := St.extend hS86 he469
                    have e473 : f467 55 = (Value.bool (x103 != x237)) := hphi471 16 55 _ rfl rfl rfl
                    have e474 : f467 62 = u11 := hphi471 23 62 _ rfl rfl rfl
                    obtain ⟨e475, hr476⟩ : f467 63 = (Value.int .i64 (k43 : Int)) ∧ InR .i64 (k43 : Int) := hphi471 24 63 _ rfl rfl rfl
                    exact OpY.val (Value.pointer (some (elA u11 ((k43 : Int)).toNat))) wd468 (wanted_run rfl rfl e473 hc270) (op_idx sl_72 (Ty.lift _ hS472.ext hb16) e474 e475 ha478 hb479) (Ext.refl _) rfl
                  · intro f481 wd482 he483 hout484 hphi485
                    have hS486 : St wd12 wd482 [] := St.extend hS86 he483
                    have e487 : f481 55 = (Value.bool (x103 != x237)) := hphi485 16 55 _ rfl rfl rfl
                    have e488 : f481 64 = (Value.pointer (some (elA u11 ((k43 : Int)).toNat))) := hphi485 25 64 _ rfl rfl rfl
                    exact OpY.val (Value.int .i64 x477) wd482 (wanted_run rfl rfl e487 hc270) (op_load one_3 e488 (Ext.cell hS486.ext hc490)) (Ext.refl _) ⟨rfl, hr491⟩
                  · intro f492 wd493 he494 hout495 hphi496
                    have hS497 : St wd12 wd493 [] := St.extend hS86 he494
                    have e498 : f492 55 = (Value.bool (x103 != x237)) := hphi496 16 55 _ rfl rfl rfl
                    have e499 : f492 61 = u448 := hphi496 22 61 _ rfl rfl rfl
                    obtain ⟨e500, hr501⟩ : f492 65 = (Value.int .i64 x477) ∧ InR .i64 x477 := hphi496 26 65 _ rfl rfl rfl
                    exact OpY.val (Value.pointer (some (elA u448 (x477).toNat))) wd493 (wanted_run rfl rfl e498 hc270) (op_idx sl_22 (Ty.lift _ (Ext.trans hE17 hS497.ext) hr450) e499 e500 ha503 hb504) (Ext.refl _) rfl
                  · intro f506 wd507 he508 hout509 hphi510
                    have hS511 : St wd12 wd507 [] := St.extend hS86 he508
                    have e512 : f506 55 = (Value.bool (x103 != x237)) := hphi510 16 55 _ rfl rfl rfl
                    have e513 : f506 66 = (Value.pointer (some (elA u448 (x477).toNat))) := hphi510 27 66 _ rfl rfl rfl
                    exact OpY.val u514 wd507 (wanted_run rfl rfl e512 hc270) (op_load one_23 e513 (Ext.cell (Ext.trans hE17 hS511.ext) hc515)) (Ext.refl _) rfl
                  · intro f517 wd518 he519 hout520 hphi521
                    have hS522 : St wd12 wd518 [] := St.extend hS86 he519
                    have e523 : f517 4 = (Value.int .i64 (k23 : Int)) := (hout520 4 rfl).trans hf77
                    have e524 : f517 55 = (Value.bool (x103 != x237)) := hphi521 16 55 _ rfl rfl rfl
                    exact OpY.val (Value.int .i64 (k23 : Int)) wd518 (wanted_run rfl rfl e524 hc270) (op_move e523) (Ext.refl _) ⟨rfl, hr36⟩
                  · intro f525 wd526 he527 hout528 hphi529
                    have hS530 : St wd12 wd526 [] := St.extend hS86 he527
                    have e531 : f525 55 = (Value.bool (x103 != x237)) := hphi529 16 55 _ rfl rfl rfl
                    have e532 : f525 67 = u514 := hphi529 28 67 _ rfl rfl rfl
                    obtain ⟨e533, hr534⟩ : f525 68 = (Value.int .i64 (k23 : Int)) ∧ InR .i64 (k23 : Int) := hphi529 29 68 _ rfl rfl rfl
                    exact OpY.val (Value.pointer (some (elA u514 ((k23 : Int)).toNat))) wd526 (wanted_run rfl rfl e531 hc270) (op_idx sl_23 (Ty.lift _ (Ext.trans hE17 hS530.ext) hr516) e532 e533 ha536 hb537) (Ext.refl _) rfl
                  · intro f539 wd540 he541 hout542 hphi543
                    have hS544 : St wd12 wd540 [] := St.extend hS86 he541
                    have e545 : f539 55 = (Value.bool (x103 != x237)) := hphi543 16 55 _ rfl rfl rfl
                    have e546 : f539 69 = (Value.pointer (some (elA u514 ((k23 : Int)).toNat))) := hphi543 30 69 _ rfl rfl rfl
                    exact OpY.val (Value.int .i64 x535) wd540 (wanted_run rfl rfl e545 hc270) (op_load one_2 e546 (Ext.cell (Ext.trans hE17 hS544.ext) hc548)) (Ext.refl _) ⟨rfl, hr549⟩
                  · intro f550 wd551 he552 hout553 hphi554
                    show WL _ _ _ _ _ _ _
                    have hS555 : St wd12 wd551 [] := St.extend hS86 he552
                    have e556 : f550 55 = (Value.bool (x103 != x237)) := hphi554 16 55 _ (by decide) rfl rfl
                    obtain ⟨e557, hr558⟩ : f550 56 = (Value.int .i64 x103) ∧ InR .i64 x103 := hphi554 17 56 _ (by decide) rfl rfl
                    have e559 : f550 57 = (Value.pointer (some ⟨b1, 0, none⟩)) := hphi554 18 57 _ (by decide) rfl rfl
                    have e560 : f550 58 = v_r_Table := hphi554 19 58 _ (by decide) rfl rfl
                    obtain ⟨e561, hr562⟩ : f550 59 = (Value.int .i64 (k66 : Int)) ∧ InR .i64 (k66 : Int) := hphi554 20 59 _ (by decide) rfl rfl
                    have e563 : f550 60 = (Value.pointer (some (elA v_r_Table ((k66 : Int)).toNat))) := hphi554 21 60 _ (by decide) rfl rfl
                    have e564 : f550 61 = u448 := hphi554 22 61 _ (by decide) rfl rfl
                    have e565 : f550 62 = u11 := hphi554 23 62 _ (by decide) rfl rfl
                    obtain ⟨e566, hr567⟩ : f550 63 = (Value.int .i64 (k43 : Int)) ∧ InR .i64 (k43 : Int) := hphi554 24 63 _ (by decide) rfl rfl
                    have e568 : f550 64 = (Value.pointer (some (elA u11 ((k43 : Int)).toNat))) := hphi554 25 64 _ (by decide) rfl rfl
                    obtain ⟨e569, hr570⟩ : f550 65 = (Value.int .i64 x477) ∧ InR .i64 x477 := hphi554 26 65 _ (by decide) rfl rfl
                    have e571 : f550 66 = (Value.pointer (some (elA u448 (x477).toNat))) := hphi554 27 66 _ (by decide) rfl rfl
                    have e572 : f550 67 = u514 := hphi554 28 67 _ (by decide) rfl rfl
                    obtain ⟨e573, hr574⟩ : f550 68 = (Value.int .i64 (k23 : Int)) ∧ InR .i64 (k23 : Int) := hphi554 29 68 _ (by decide) rfl rfl
                    have e575 : f550 69 = (Value.pointer (some (elA u514 ((k23 : Int)).toNat))) := hphi554 30 69 _ (by decide) rfl rfl
                    obtain ⟨e576, hr577⟩ : f550 70 = (Value.int .i64 x535) ∧ InR .i64 x535 := hphi554 31 70 _ (by decide) rfl rfl
                    have e578 : f550 1 = (Value.pointer (some ⟨b1, 0, none⟩)) := (hout553 1 rfl).trans hf75
                    have e579 : f550 3 = u11 := (hout553 3 rfl).trans hf76
                    have e580 : f550 4 = (Value.int .i64 (k23 : Int)) := (hout553 4 rfl).trans hf77
                    have e581 : f550 5 = (Value.int .i64 (k43 : Int)) := (hout553 5 rfl).trans hf78
                    have e582 : f550 6 = (Value.int .i64 (k66 : Int)) := (hout553 6 rfl).trans rfl
                    have e583 : f550 12 = (Value.int .i64 ((r_Table).length : Int)) := (hout553 12 rfl).trans hf79
                    have e584 : f550 13 = (Value.int .i64 (k23 : Int)) := (hout553 13 rfl).trans hf80
                    have e585 : f550 18 = (Value.int .i64 ((r_Table).length : Int)) := (hout553 18 rfl).trans hf81
                    have e586 : f550 19 = (Value.int .i64 (k43 : Int)) := (hout553 19 rfl).trans hf82
                    have e587 : f550 24 = (Value.int .i64 ((r_Table).length : Int)) := (hout553 24 rfl).trans hf83
                    have e588 : f550 25 = (Value.int .i64 (k66 : Int)) := (hout553 25 rfl).trans hf84
                    refine WL.grun rfl (bool_of e556 hc270) ?_
                    refine WL.val (Value.bool (x103 != x535)) _ (op_neq e557 e576) rfl ?_
                    refine WL.val (Value.bool (x103 != x535)) _ (op_pick_f (evb_of e556 hc270) rfl) rfl ?_
                    refine WL.nil ?_
                    obtain rfl := Option.some.inj hj269
                    exact ⟨e578, e579, e580, e581, e582, e583, e584, e585, e586, e587, e588, rfl, hS555⟩
              · intro f589 wd590 hq591
                obtain ⟨hf592, hf593, hf594, hf595, hf596, hf597, hf598, hf599, hf600, hf601, hf602, hf603, hS604⟩ := hq591
                show W _ _ _ _ _ _
                refine W.cond x268 hf603 (fun hc605 => ?_) (fun hc605 => ?_)
                · replace hb71 := ip hb71 hc605
                  refine W.seq ?_
                  refine W.region ?_
                  refine WL.val (Value.int .i64 (k23 : Int)) _ (op_move hf594) rfl ?_
                  refine WL.val (Value.int .i64 (k43 : Int)) _ (op_move hf595) rfl ?_
                  refine WL.val (Value.int .i64 (k66 : Int)) _ (op_move hf596) rfl ?_
                  refine WL.litFlat (t := (Ty.i .i64)) (flat_i .i64) [(Value.int .i64 (2 : Int)), (Value.int .i64 (k23 : Int)), (Value.int .i64 (k43 : Int)), (Value.int .i64 (k66 : Int))] [(2 : Int), (k23 : Int), (k43 : Int), (k66 : Int)] hS604 sl_23 rfl rfl (fillL rfl ⟨rfl, rfl, rfl, rfl, rfl, rfl, rfl, rfl, rfl, rfl, rfl, rfl, trivial⟩) rfl rfl (litL ⟨⟨rfl, (inR_i64.2 (show (-9223372036854775808 : Int) ≤ 2 ∧ (2 : Int) ≤ 9223372036854775807 from by decide))⟩, ⟨rfl, hr36⟩, ⟨rfl, hr59⟩, ⟨rfl, hr85⟩, trivial⟩) rfl ?_
                  intro u607 wd608 hS609 he610
                  replace hS609 : St wd12 wd608 [(Ty.sl (Ty.i .i64)).at u607 ([(2 : Int), (k23 : Int), (k43 : Int), (k66 : Int)] : (List Int))] := hS609
                  refine WL.val u607 _ (op_assign rfl) rfl ?_
                  refine WL.nil ?_
                  show W _ _ _ _ _ _
                  refine W.ret ?_
                  obtain rfl := Option.some.inj hb71
                  obtain rfl := hret74 _ rfl
                  replace hb48 := onRes_ret hb48
                  obtain rfl := Option.some.inj hb48
                  obtain rfl := hret51 _ rfl
                  replace hb28 := onRes_ret hb28
                  obtain rfl := Option.some.inj hb28
                  obtain rfl := hret31 _ rfl
                  replace h := onRes_ret h
                  obtain rfl := Option.some.inj h
                  show FinP _ _ _ _ _ _ _
                  exact FinP.ret _ (res1 rfl rfl) ⟨u607, rfl, (nil_cons), (Ext.trans hE17 hS609.ext), (St.out (St.pick hS609 [0] rfl) (hE17))⟩
                · replace hb71 := inegb hb71 hc605
                  refine W.skip ?_
                  show W _ _ _ _ _ _
                  refine W.region ?_
                  refine WL.val (Value.int .i64 (w64 ((k66 : Int) + (1 : Int)))) _ (op_add hf602 rfl) rfl ?_
                  refine WL.val (Value.int .i64 (w64 ((k66 : Int) + (1 : Int)))) _ (op_move rfl) rfl ?_
                  refine WL.nil ?_
                  obtain rfl := Option.some.inj hb71
                  show ∃ s, _ = Ctl.next s ∧ _
                  exact ⟨_, rfl, hf592, hf593, hf594, hf595, hf597, hf598, hf599, hf600, hf601, (ctr_next hl87 hr63), (ctr_rng hl87 hr63), hS604⟩
            · intro s616 f612 wd613 hs614 hI615
              obtain ⟨⟩ := s616
              replace hI615 : f612 1 = (Value.pointer (some ⟨b1, 0, none⟩)) ∧ f612 3 = u11 ∧ f612 4 = (Value.int .i64 (k23 : Int)) ∧ f612 5 = (Value.int .i64 (k43 : Int)) ∧ f612 12 = (Value.int .i64 ((r_Table).length : Int)) ∧ f612 13 = (Value.int .i64 (k23 : Int)) ∧ f612 18 = (Value.int .i64 ((r_Table).length : Int)) ∧ f612 19 = (Value.int .i64 (k43 : Int)) ∧ f612 24 = (Value.int .i64 ((r_Table).length : Int)) ∧ f612 25 = Value.int .i64 (((r_Table).length : Nat) : Int) ∧ InR .i64 (((r_Table).length : Nat) : Int) ∧ St wd12 wd613 [] := hI615
              obtain ⟨hf617, hf618, hf619, hf620, hf621, hf622, hf623, hf624, hf625, hf626, hr627, hS628⟩ := hI615
              refine W.seq ?_
              refine W.region ?_
              refine WL.val (Value.bool (decide ((((r_Table).length : Nat) : Int) < ((r_Table).length : Int)))) _ (op_lss hf626 hf625) rfl ?_
              have hl629 : ¬ (((r_Table).length : Nat) : Int) < ((r_Table).length : Int) := by omega
              refine WL.nil ?_
              show W _ _ _ _ _ _
              refine W.seq ?_
              refine W.condF (decide ((((r_Table).length : Nat) : Int) < ((r_Table).length : Int))) rfl (decide_eq_false hl629) ?_
              refine W.exit ?_
              show _ = _ ∧ _
              exact ⟨rfl, _, hs614, hf617, hf618, hf619, hf621, hf622, hf623, hf624, hS628⟩
          · rintro f630 wd631 ⟨s633, rfl, hq632⟩
            replace hb48 := onRes_fin hb48
            obtain ⟨⟩ := s633
            replace hq632 : f630 1 = (Value.pointer (some ⟨b1, 0, none⟩)) ∧ f630 3 = u11 ∧ f630 4 = (Value.int .i64 (k23 : Int)) ∧ f630 12 = (Value.int .i64 ((r_Table).length : Int)) ∧ f630 13 = (Value.int .i64 (k23 : Int)) ∧ f630 18 = (Value.int .i64 ((r_Table).length : Int)) ∧ f630 19 = (Value.int .i64 (k43 : Int)) ∧ St wd12 wd631 [] := hq632
            obtain ⟨hf634, hf635, hf636, hf637, hf638, hf639, hf640, hS641⟩ := hq632
            show W _ _ _ _ _ _
            refine W.region ?_
            refine WL.val (Value.int .i64 (w64 ((k43 : Int) + (1 : Int)))) _ (op_add hf640 rfl) rfl ?_
            refine WL.val (Value.int .i64 (w64 ((k43 : Int) + (1 : Int)))) _ (op_move rfl) rfl ?_
            refine WL.nil ?_
            obtain rfl := Option.some.inj hb48
            show ∃ s, _ = Ctl.next s ∧ _
            exact ⟨_, rfl, hf634, hf635, hf636, hf637, hf638, hf639, (ctr_next hl61 hr40), (ctr_rng hl61 hr40), hS641⟩
        · intro s648 f644 wd645 hs646 hI647
          obtain ⟨⟩ := s648
          replace hI647 : f644 1 = (Value.pointer (some ⟨b1, 0, none⟩)) ∧ f644 3 = u11 ∧ f644 4 = (Value.int .i64 (k23 : Int)) ∧ f644 12 = (Value.int .i64 ((r_Table).length : Int)) ∧ f644 13 = (Value.int .i64 (k23 : Int)) ∧ f644 18 = (Value.int .i64 ((r_Table).length : Int)) ∧ f644 19 = Value.int .i64 (((r_Table).length : Nat) : Int) ∧ InR .i64 (((r_Table).length : Nat) : Int) ∧ St wd12 wd645 [] := hI647
          obtain ⟨hf649, hf650, hf651, hf652, hf653, hf654, hf655, hr656, hS657⟩ := hI647
          refine W.seq ?_
          refine W.region ?_
          refine WL.val (Value.bool (decide ((((r_Table).length : Nat) : Int) < ((r_Table).length : Int)))) _ (op_lss hf655 hf654) rfl ?_
          have hl658 : ¬ (((r_Table).length : Nat) : Int) < ((r_Table).length : Int) := by omega
          refine WL.nil ?_
          show W _ _ _ _ _ _
          refine W.seq ?_
          refine W.condF (decide ((((r_Table).length : Nat) : Int) < ((r_Table).length : Int))) rfl (decide_eq_false hl658) ?_
          refine W.exit ?_
          show _ = _ ∧ _
          exact ⟨rfl, _, hs646, hf649, hf650, hf652, hf653, hS657⟩
      · rintro f659 wd660 ⟨s662, rfl, hq661⟩
        replace hb28 := onRes_fin hb28
        obtain ⟨⟩ := s662
        replace hq661 : f659 1 = (Value.pointer (some ⟨b1, 0, none⟩)) ∧ f659 3 = u11 ∧ f659 12 = (Value.int .i64 ((r_Table).length : Int)) ∧ f659 13 = (Value.int .i64 (k23 : Int)) ∧ St wd12 wd660 [] := hq661
        obtain ⟨hf663, hf664, hf665, hf666, hS667⟩ := hq661
        show W _ _ _ _ _ _
        refine W.region ?_
        refine WL.val (Value.int .i64 (w64 ((k23 : Int) + (1 : Int)))) _ (op_add hf666 rfl) rfl ?_
        refine WL.val (Value.int .i64 (w64 ((k23 : Int) + (1 : Int)))) _ (op_move rfl) rfl ?_
        refine WL.nil ?_
        obtain rfl := Option.some.inj hb28
        show ∃ s, _ = Ctl.next s ∧ _
        exact ⟨_, rfl, hf663, hf664, hf665, (ctr_next hl38 hr20), (ctr_rng hl38 hr20), hS667⟩
    · intro s674 f670 wd671 hs672 hI673
      obtain ⟨⟩ := s674
      replace hI673 : f670 1 = (Value.pointer (some ⟨b1, 0, none⟩)) ∧ f670 3 = u11 ∧ f670 12 = (Value.int .i64 ((r_Table).length : Int)) ∧ f670 13 = Value.int .i64 (((r_Table).length : Nat) : Int) ∧ InR .i64 (((r_Table).length : Nat) : Int) ∧ St wd12 wd671 [] := hI673
      obtain ⟨hf675, hf676, hf677, hf678, hr679, hS680⟩ := hI673
      refine W.seq ?_
      refine W.region ?_
      refine WL.val (Value.bool (decide ((((r_Table).length : Nat) : Int) < ((r_Table).length : Int)))) _ (op_lss hf678 hf677) rfl ?_
      have hl681 : ¬ (((r_Table).length : Nat) : Int) < ((r_Table).length : Int) := by omega
      refine WL.nil ?_
      show W _ _ _ _ _ _
      refine W.seq ?_
      refine W.condF (decide ((((r_Table).length : Nat) : Int) < ((r_Table).length : Int))) rfl (decide_eq_false hl681) ?_
      refine W.exit ?_
      show _ = _ ∧ _
      exact ⟨rfl, _, hs672, hS680⟩
  · rintro f682 wd683 ⟨s685, rfl, hq684⟩
    replace h := onRes_fin h
    obtain ⟨⟩ := s685
    replace hq684 : St wd12 wd683 [] := hq684
    have hS686 := hq684
    show W _ _ _ _ _ _
    refine W.seq ?_
    refine W.region ?_
    refine WL.val (Value.slice none 0 0) _ (op_assign rfl) rfl ?_
    refine WL.nil ?_
    show W _ _ _ _ _ _
    refine W.ret ?_
    obtain rfl := Option.some.inj h
    show FinP _ _ _ _ _ _ _
    exact FinP.ret _ (res1 rfl rfl) ⟨(Value.slice none 0 0), rfl, (fun _ => ⟨0, 0, rfl⟩), (Ext.trans hE17 hS686.ext), (St.out (St.pick (St.addNil (Ty.i .i64) hS686) [0] rfl) (hE17))⟩

theorem c_impl_Ring_bracketFault {w : World} {r_Table : (List (List (List Int)))} {v_r_Table : Value} (r_r_Table : (Ty.sl (Ty.sl (Ty.sl (Ty.i .i64)))).rep w v_r_Table r_Table) {res : (List Int)} (h : p_impl_Ring_bracketFault r_Table  = some res) :
    Ret Try.prog 145 #[(Value.agg #[v_r_Table])] w (fun v w' => ∃ (u0 : Value), v = u0 ∧ NilIff u0 res ∧ Ext w w' ∧ Sep w.heap.size w' [(Ty.sl (Ty.i .i64)).at u0 res]) := by
  unfold p_impl_Ring_bracketFault at h
  have hS0 : St w w [] := St.start w
  refine Ret.start (fn := Try.f145) Try.func145 rfl 97 rfl rfl ?_
  refine W.seq ?_
  refine W.region ?_
  refine WL.box hS0 rfl (cs := [v_r_Table]) rfl rfl ?_
  intro b1 wd2 hS3 he4 hx5
  replace hS3 : St w wd2 [bx b1 [v_r_Table]] := hS3
  have hx6 := St.boxAt hS3 0 rfl
  have hE7 : Ext w wd2 := hS3.ext
  have hS8 : St wd2 wd2 [] := St.start wd2
  refine WL.val (Value.slice none 0 0) _ (op_assign rfl) rfl ?_
  refine WL.nil ?_
  show W _ _ _ _ _ _
  refine W.seq ?_
  refine W.seq ?_
  refine W.region ?_
  refine WL.val (Value.pointer (some ⟨b1, 0, none⟩)) _ (op_fieldAddr fd_27_0 rfl) rfl ?_
  refine WL.val v_r_Table _ (op_load one_25 rfl (BoxAt.cell (BoxAt.lift hS8.ext hx6) rfl)) rfl ?_
  have hr9 := inR_len (Ty.lift _ (Ext.trans hE7 hS8.ext) r_r_Table)
  refine WL.val (Value.int .i64 ((r_Table).length : Int)) _ (op_lenL sl_25 (Ty.lift _ (Ext.trans hE7 hS8.ext) r_r_Table) rfl) rfl ?_
  refine WL.val (Value.int .i64 (0 : Int)) _ (op_move rfl) rfl ?_
  refine WL.nil ?_
  show W _ _ _ _ _ _
  obtain ⟨res10, hres11, h⟩ := bs h
  refine W.blockLoop (fun fq wq => ∃ s, res10 = Res.fin s ∧ St wd2 wq []) ?_ ?_
  · refine W.forN (fun k (s : Unit) fq wq => fq 1 = (Value.pointer (some ⟨b1, 0, none⟩)) ∧ fq 13 = v_r_Table ∧ fq 14 = (Value.int .i64 ((r_Table).length : Int)) ∧ fq 15 = Value.int .i64 (k : Int) ∧ InR .i64 (k : Int) ∧ St wd2 wq []) hres11 ⟨rfl, rfl, rfl, rfl, (inR_i64.2 (show (-9223372036854775808 : Int) ≤ 0 ∧ (0 : Int) ≤ 9223372036854775807 from by decide)), hS8⟩ ?_ ?_
    · intro k12 s748 ct13 f14 wd15 hk16 hb17 hI18 hbrk19 hret20
      obtain ⟨⟩ := s748
      replace hI18 : f14 1 = (Value.pointer (some ⟨b1, 0, none⟩)) ∧ f14 13 = v_r_Table ∧ f14 14 = (Value.int .i64 ((r_Table).length : Int)) ∧ f14 15 = Value.int .i64 (k12 : Int) ∧ InR .i64 (k12 : Int) ∧ St wd2 wd15 [] := hI18
      replace hb17 : p_impl_Ring_bracketFault_L1 r_Table k12  = some ct13 := hb17
      unfold p_impl_Ring_bracketFault_L1 at hb17
      obtain ⟨hf21, hf22, hf23, hf24, hr25, hS26⟩ := hI18
      refine W.seq ?_
      refine W.region ?_
      refine WL.val (Value.bool (decide ((k12 : Int) < ((r_Table).length : Int)))) _ (op_lss hf24 hf23) rfl ?_
      have hl27 : (k12 : Int) < ((r_Table).length : Int) := by omega
      refine WL.nil ?_
      show W _ _ _ _ _ _
      refine W.seq ?_
      refine W.condT (decide ((k12 : Int) < ((r_Table).length : Int))) rfl (decide_eq_true hl27) ?_
      refine W.skip ?_
      show W _ _ _ _ _ _
      refine W.seq ?_
      refine W.block ?_
      refine W.seq ?_
      refine W.region ?_
      refine WL.val (Value.int .i64 (k12 : Int)) _ (op_move hf24) rfl ?_
      obtain ⟨x29, hx32, hb17⟩ := bs hb17
      obtain ⟨ha30, hb31, hx32⟩ := idx_some hx32
      refine WL.val (Value.pointer (some (elA v_r_Table ((k12 : Int)).toNat))) _ (op_idx sl_25 (Ty.lift _ (Ext.trans hE7 hS26.ext) r_r_Table) hf22 hf24 ha30 hb31) rfl ?_
      obtain ⟨u33, hc34, hr35⟩ := repSl.el r_r_Table hx32
      refine WL.val u33 _ (op_load one_22 rfl (Ext.cell (Ext.trans hE7 hS26.ext) hc34)) rfl ?_
      refine WL.val (Value.int .i64 (k12 : Int)) _ (op_assign rfl) rfl ?_
      refine WL.val u33 _ (op_assign rfl) rfl ?_
      refine WL.nil ?_
      show W _ _ _ _ _ _
      refine W.seq ?_
      refine W.region ?_
      refine WL.val (Value.pointer (some ⟨b1, 0, none⟩)) _ (op_fieldAddr fd_27_0 hf21) rfl ?_
      refine WL.val v_r_Table _ (op_load one_25 rfl (BoxAt.cell (BoxAt.lift hS26.ext hx6) rfl)) rfl ?_
      have hr36 := inR_len (Ty.lift _ (Ext.trans hE7 hS26.ext) r_r_Table)
      refine WL.val (Value.int .i64 ((r_Table).length : Int)) _ (op_lenL sl_25 (Ty.lift _ (Ext.trans hE7 hS26.ext) r_r_Table) rfl) rfl ?_
      refine WL.val (Value.int .i64 (0 : Int)) _ (op_move rfl) rfl ?_
      refine WL.nil ?_
      show W _ _ _ _ _ _
      obtain ⟨res37, hres38, hb17⟩ := bs hb17
      refine W.blockLoop (fun fq wq => ∃ s, res37 = Res.fin s ∧ fq 1 = (Value.pointer (some ⟨b1, 0, none⟩)) ∧ fq 13 = v_r_Table ∧ fq 14 = (Value.int .i64 ((r_Table).length : Int)) ∧ fq 15 = (Value.int .i64 (k12 : Int)) ∧ St wd2 wq []) ?_ ?_
      · refine W.forN (fun k (s : Unit) fq wq => fq 1 = (Value.pointer (some ⟨b1, 0, none⟩)) ∧ fq 3 = (Value.int .i64 (k12 : Int)) ∧ fq 4 = u33 ∧ fq 13 = v_r_Table ∧ fq 14 = (Value.int .i64 ((r_Table).length : Int)) ∧ fq 15 = (Value.int .i64 (k12 : Int)) ∧ fq 21 = v_r_Table ∧ fq 22 = (Value.int .i64 ((r_Table).length : Int)) ∧ fq 23 = Value.int .i64 (k : Int) ∧ InR .i64 (k : Int) ∧ St wd2 wq []) hres38 ⟨hf21, rfl, rfl, hf22, hf23, hf24, rfl, rfl, rfl, (inR_i64.2 (show (-9223372036854775808 : Int) ≤ 0 ∧ (0 : Int) ≤ 9223372036854775807 from by decide)), hS26⟩ ?_ ?_
        · intro k39 s720 ct40 f41 wd42 hk43 hb44 hI45 hbrk46 hret47
          obtain ⟨⟩ := s720
          replace hI45 : f41 1 = (Value.pointer (some ⟨b1, 0, none⟩)) ∧ f41 3 = (Value.int .i64 (k12 : Int)) ∧ f41 4 = u33 ∧ f41 13 = v_r_Table ∧ f41 14 = (Value.int .i64 ((r_Table).length : Int)) ∧ f41 15 = (Value.int .i64 (k12 : Int)) ∧ f41 21 = v_r_Table ∧ f41 22 = (Value.int .i64 ((r_Table).length : Int)) ∧ f41 23 = Value.int .i64 (k39 : Int) ∧ InR .i64 (k39 : Int) ∧ St wd2 wd42 [] := hI45
          replace hb44 : p_impl_Ring_bracketFault_L2 r_Table x29 k12 k39  = some ct40 := hb44
          unfold p_impl_Ring_bracketFault_L2 at hb44
          obtain ⟨hf48, hf49, hf50, hf51, hf52, hf53, hf54, hf55, hf56, hr57, hS58⟩ := hI45
          refine W.seq ?_
          refine W.region ?_
          refine WL.val (Value.bool (decide ((k39 : Int) < ((r_Table).length : Int)))) _ (op_lss hf56 hf55) rfl ?_
          have hl59 : (k39 : Int) < ((r_Table).length : Int) := by omega
          refine WL.nil ?_
          show W _ _ _ _ _ _
          refine W.seq ?_
          refine W.condT (decide ((k39 : Int) < ((r_Table).length : Int))) rfl (decide_eq_true hl59) ?_
          refine W.skip ?_
          show W _ _ _ _ _ _
          refine W.seq ?_
          refine W.block ?_
          refine W.seq ?_
          refine W.region ?_
          refine WL.val (Value.int .i64 (k39 : Int)) _ (op_move hf56) rfl ?_
          obtain ⟨x61, hx64, hb44⟩ := bs hb44
          obtain ⟨ha62, hb63, hx64⟩ := idx_some hx64
          refine WL.val (Value.pointer (some (elA v_r_Table ((k39 : Int)).toNat))) _ (op_idx sl_25 (Ty.lift _ (Ext.trans hE7 hS58.ext) r_r_Table) hf54 hf56 ha62 hb63) rfl ?_
          obtain ⟨u65, hc66, hr67⟩ := repSl.el r_r_Table hx64
          refine WL.val u65 _ (op_load one_22 rfl (Ext.cell (Ext.trans hE7 hS58.ext) hc66)) rfl ?_
          refine WL.val (Value.int .i64 (k39 : Int)) _ (op_assign rfl) rfl ?_
          refine WL.val u65 _ (op_assign rfl) rfl ?_
          refine WL.nil ?_
          show W _ _ _ _ _ _
          refine W.seq ?_
          refine W.region ?_
          refine WL.val (Value.pointer (some ⟨b1, 0, none⟩)) _ (op_fieldAddr fd_27_0 hf48) rfl ?_
          refine WL.val v_r_Table _ (op_load one_25 rfl (BoxAt.cell (BoxAt.lift hS58.ext hx6) rfl)) rfl ?_
          have hr68 := inR_len (Ty.lift _ (Ext.trans hE7 hS58.ext) r_r_Table)
          refine WL.val (Value.int .i64 ((r_Table).length : Int)) _ (op_lenL sl_25 (Ty.lift _ (Ext.trans hE7 hS58.ext) r_r_Table) rfl) rfl ?_
          refine WL.val (Value.int .i64 (0 : Int)) _ (op_move rfl) rfl ?_
          refine WL.nil ?_
          show W _ _ _ _ _ _
          obtain ⟨res69, hres70, hb44⟩ := bs hb44
          refine W.blockLoop (fun fq wq => ∃ s, res69 = Res.fin s ∧ fq 1 = (Value.pointer (some ⟨b1, 0, none⟩)) ∧ fq 3 = (Value.int .i64 (k12 : Int)) ∧ fq 4 = u33 ∧ fq 13 = v_r_Table ∧ fq 14 = (Value.int .i64 ((r_Table).length : Int)) ∧ fq 15 = (Value.int .i64 (k12 : Int)) ∧ fq 21 = v_r_Table ∧ fq 22 = (Value.int .i64 ((r_Table).length : Int)) ∧ fq 23 = (Value.int .i64 (k39 : Int)) ∧ St wd2 wq []) ?_ ?_
          · refine W.forN (fun k (s : Unit) fq wq => fq 1 = (Value.pointer (some ⟨b1, 0, none⟩)) ∧ fq 3 = (Value.int .i64 (k12 : Int)) ∧ fq 4 = u33 ∧ fq 5 = (Value.int .i64 (k39 : Int)) ∧ fq 6 = u65 ∧ fq 13 = v_r_Table ∧ fq 14 = (Value.int .i64 ((r_Table).length : Int)) ∧ fq 15 = (Value.int .i64 (k12 : Int)) ∧ fq 21 = v_r_Table ∧ fq 22 = (Value.int .i64 ((r_Table).length : Int)) ∧ fq 23 = (Value.int .i64 (k39 : Int)) ∧ fq 30 = (Value.int .i64 ((r_Table).length : Int)) ∧ fq 31 = Value.int .i64 (k : Int) ∧ InR .i64 (k : Int) ∧ St wd2 wq []) hres70 ⟨hf48, hf49, hf50, rfl, rfl, hf51, hf52, hf53, hf54, hf55, hf56, rfl, rfl, (inR_i64.2 (show (-9223372036854775808 : Int) ≤ 0 ∧ (0 : Int) ≤ 9223372036854775807 from by decide)), hS58⟩ ?_ ?_
            · intro k71 s683 ct72 f73 wd74 hk75 hb76 hI77 hbrk78 hret79
              obtain ⟨⟩ := s683
              replace hI77 : f73 1 = (Value.pointer (some ⟨b1, 0, none⟩)) ∧ f73 3 = (Value.int .i64 (k12 : Int)) ∧ f73 4 = u33 ∧ f73 5 = (Value.int .i64 (k39 : Int)) ∧ f73 6 = u65 ∧ f73 13 = v_r_Table ∧ f73 14 = (Value.int .i64 ((r_Table).length : Int)) ∧ f73 15 = (Value.int .i64 (k12 : Int)) ∧ f73 21 = v_r_Table ∧ f73 22 = (Value.int .i64 ((r_Table).length : Int)) ∧ f73 23 = (Value.int .i64 (k39 : Int)) ∧ f73 30 = (Value.int .i64 ((r_Table).length : Int)) ∧ f73 31 = Value.int .i64 (k71 : Int) ∧ InR .i64 (k71 : Int) ∧ St wd2 wd74 [] := hI77
              replace hb76 : p_impl_Ring_bracketFault_L3 x29 k39 r_Table x61 k12 k71  = some ct72 := hb76
              unfold p_impl_Ring_bracketFault_L3 at hb76
              obtain ⟨hf80, hf81, hf82, hf83, hf84, hf85, hf86, hf87, hf88, hf89, hf90, hf91, hf92, hr93, hS94⟩ := hI77
              refine W.seq ?_
              refine W.region ?_
              refine WL.val (Value.bool (decide ((k71 : Int) < ((r_Table).length : Int)))) _ (op_lss hf92 hf91) rfl ?_
              have hl95 : (k71 : Int) < ((r_Table).length : Int) := by omega
              refine WL.nil ?_
              show W _ _ _ _ _ _
              refine W.seq ?_
              refine W.condT (decide ((k71 : Int) < ((r_Table).length : Int))) rfl (decide_eq_true hl95) ?_
              refine W.skip ?_
              show W _ _ _ _ _ _
              refine W.seq ?_
              refine W.block ?_
              refine W.seq ?_
              refine W.region ?_
              refine WL.val (Value.int .i64 (k71 : Int)) _ (op_move hf92) rfl ?_
              refine WL.val (Value.int .i64 (k71 : Int)) _ (op_assign rfl) rfl ?_
              refine WL.nil ?_
              show W _ _ _ _ _ _
              refine W.seq ?_
              refine W.region ?_
              refine WL.val (Value.pointer (some ⟨b1, 0, none⟩)) _ (op_fieldAddr fd_27_0 hf80) rfl ?_
              refine WL.val v_r_Table _ (op_load one_25 rfl (BoxAt.cell (BoxAt.lift hS94.ext hx6) rfl)) rfl ?_
              have hr97 := inR_len (Ty.lift _ (Ext.trans hE7 hS94.ext) r_r_Table)
              refine WL.val (Value.int .i64 ((r_Table).length : Int)) _ (op_lenL sl_25 (Ty.lift _ (Ext.trans hE7 hS94.ext) r_r_Table) rfl) rfl ?_
              refine WL.val (Value.int .i64 (0 : Int)) _ (op_move rfl) rfl ?_
              refine WL.nil ?_
              show W _ _ _ _ _ _
              obtain ⟨res98, hres99, hb76⟩ := bs hb76
              refine W.blockLoop (fun fq wq => ∃ s, res98 = Res.fin s ∧ fq 1 = (Value.pointer (some ⟨b1, 0, none⟩)) ∧ fq 3 = (Value.int .i64 (k12 : Int)) ∧ fq 4 = u33 ∧ fq 5 = (Value.int .i64 (k39 : Int)) ∧ fq 6 = u65 ∧ fq 13 = v_r_Table ∧ fq 14 = (Value.int .i64 ((r_Table).length : Int)) ∧ fq 15 = (Value.int .i64 (k12 : Int)) ∧ fq 21 = v_r_Table ∧ fq 22 = (Value.int .i64 ((r_Table).length : Int)) ∧ fq 23 = (Value.int .i64 (k39 : Int)) ∧ fq 30 = (Value.int .i64 ((r_Table).length : Int)) ∧ fq 31 = (Value.int .i64 (k71 : Int)) ∧ St wd2 wq []) ?_ ?_
              · refine W.forN (fun k (s : Unit) fq wq => fq 1 = (Value.pointer (some ⟨b1, 0, none⟩)) ∧ fq 3 = (Value.int .i64 (k12 : Int)) ∧ fq 4 = u33 ∧ fq 5 = (Value.int .i64 (k39 : Int)) ∧ fq 6 = u65 ∧ fq 7 = (Value.int .i64 (k71 : Int)) ∧ fq 13 = v_r_Table ∧ fq 14 = (Value.int .i64 ((r_Table).length : Int)) ∧ fq 15 = (Value.int .i64 (k12 : Int)) ∧ fq 21 = v_r_Table ∧ fq 22 = (Value.int .i64 ((r_Table).length : Int)) ∧ fq 23 = (Value.int .i64 (k39 : Int)) ∧ fq 30 = (Value.int .i64 ((r_Table).length : Int)) ∧ fq 31 = (Value.int .i64 (k71 : Int)) ∧ fq 36 = (Value.int .i64 ((r_Table).length : Int)) ∧ fq 37 = Value.int .i64 (k : Int) ∧ InR .i64 (k : Int) ∧ St wd2 wq []) hres99 ⟨hf80, hf81, hf82, hf83, hf84, rfl, hf85, hf86, hf87, hf88, hf89, hf90, hf91, hf92, rfl, rfl, (inR_i64.2 (show (-9223372036854775808 : Int) ≤ 0 ∧ (0 : Int) ≤ 9223372036854775807 from by decide)), hS94⟩ ?_ ?_
                · intro k100 s639 ct101 f102 wd103 hk104 hb105 hI106 hbrk107 hret108
                  obtain ⟨⟩ := s639
                  replace hI106 : f102 1 = (Value.pointer (some ⟨b1, 0, none⟩)) ∧ f102 3 = (Value.int .i64 (k12 : Int)) ∧ f102 4 = u33 ∧ f102 5 = (Value.int .i64 (k39 : Int)) ∧ f102 6 = u65 ∧ f102 7 = (Value.int .i64 (k71 : Int)) ∧ f102 13 = v_r_Table ∧ f102 14 = (Value.int .i64 ((r_Table).length : Int)) ∧ f102 15 = (Value.int .i64 (k12 : Int)) ∧ f102 21 = v_r_Table ∧ f102 22 = (Value.int .i64 ((r_Table).length : Int)) ∧ f102 23 = (Value.int .i64 (k39 : Int)) ∧ f102 30 = (Value.int .i64 ((r_Table).length : Int)) ∧ f102 31 = (Value.int .i64 (k71 : Int)) ∧ f102 36 = (Value.int .i64 ((r_Table).length : Int)) ∧ f102 37 = Value.int .i64 (k100 : Int) ∧ InR .i64 (k100 : Int) ∧ St wd2 wd103 [] := hI106
                  replace hb105 : p_impl_Ring_bracketFault_L4 x29 k39 r_Table k71 x61 k12 k100  = some ct101 := hb105
                  unfold p_impl_Ring_bracketFault_L4 at hb105
                  obtain ⟨hf109, hf110, hf111, hf112, hf113, hf114, hf115, hf116, hf117, hf118, hf119, hf120, hf121, hf122, hf123, hf124, hr125, hS126⟩ := hI106
                  refine W.seq ?_
                  refine W.region ?_
                  refine WL.val (Value.bool (decide ((k100 : Int) < ((r_Table).length : Int)))) _ (op_lss hf124 hf123) rfl ?_
                  have hl127 : (k100 : Int) < ((r_Table).length : Int) := by omega
                  refine WL.nil ?_
                  show W _ _ _ _ _ _
                  refine W.seq ?_
                  refine W.condT (decide ((k100 : Int) < ((r_Table).length : Int))) rfl (decide_eq_true hl127) ?_
                  refine W.skip ?_
                  show W _ _ _ _ _ _
                  refine W.seq ?_
                  refine W.block ?_
                  refine W.seq ?_
                  refine W.region ?_
                  refine WL.val (Value.int .i64 (k100 : Int)) _ (op_move hf124) rfl ?_
                  refine WL.val (Value.int .i64 (k100 : Int)) _ (op_assign rfl) rfl ?_
                  refine WL.nil ?_
                  show W _ _ _ _ _ _
                  refine W.seq ?_
                  refine W.region ?_
                  refine WL.val (Value.int .i64 (0 : Int)) _ (op_assign rfl) rfl ?_
                  refine WL.val (Value.int .i64 (0 : Int)) _ (op_assign rfl) rfl ?_
                  refine WL.nil ?_
                  show W _ _ _ _ _ _
                  refine W.seq ?_
                  refine W.seq ?_
                  refine W.region ?_
                  refine WL.val (Value.pointer (some ⟨b1, 0, none⟩)) _ (op_fieldAddr fd_27_0 hf109) rfl ?_
                  refine WL.val v_r_Table _ (op_load one_25 rfl (BoxAt.cell (BoxAt.lift hS126.ext hx6) rfl)) rfl ?_
                  have hr129 := inR_len (Ty.lift _ (Ext.trans hE7 hS126.ext) r_r_Table)
                  refine WL.val (Value.int .i64 ((r_Table).length : Int)) _ (op_lenL sl_25 (Ty.lift _ (Ext.trans hE7 hS126.ext) r_r_Table) rfl) rfl ?_
                  refine WL.val (Value.int .i64 (0 : Int)) _ (op_move rfl) rfl ?_
                  refine WL.nil ?_
                  show W _ _ _ _ _ _
                  obtain ⟨res130, hres131, hb105⟩ := bs hb105
                  refine W.blockLoop (fun fq wq => ∃ s, res130 = Res.fin s ∧ fq 1 = (Value.pointer (some ⟨b1, 0, none⟩)) ∧ fq 3 = (Value.int .i64 (k12 : Int)) ∧ fq 4 = u33 ∧ fq 5 = (Value.int .i64 (k39 : Int)) ∧ fq 6 = u65 ∧ fq 7 = (Value.int .i64 (k71 : Int)) ∧ fq 8 = (Value.int .i64 (k100 : Int)) ∧ fq 9 = Value.int .i64 s.1 ∧ InR .i64 s.1 ∧ fq 10 = Value.int .i64 s.2 ∧ InR .i64 s.2 ∧ fq 13 = v_r_Table ∧ fq 14 = (Value.int .i64 ((r_Table).length : Int)) ∧ fq 15 = (Value.int .i64 (k12 : Int)) ∧ fq 21 = v_r_Table ∧ fq 22 = (Value.int .i64 ((r_Table).length : Int)) ∧ fq 23 = (Value.int .i64 (k39 : Int)) ∧ fq 30 = (Value.int .i64 ((r_Table).length : Int)) ∧ fq 31 = (Value.int .i64 (k71 : Int)) ∧ fq 36 = (Value.int .i64 ((r_Table).length : Int)) ∧ fq 37 = (Value.int .i64 (k100 : Int)) ∧ St wd2 wq []) ?_ ?_
                  · refine W.forN (fun k (s : Int × Int) fq wq => fq 1 = (Value.pointer (some ⟨b1, 0, none⟩)) ∧ fq 3 = (Value.int .i64 (k12 : Int)) ∧ fq 4 = u33 ∧ fq 5 = (Value.int .i64 (k39 : Int)) ∧ fq 6 = u65 ∧ fq 7 = (Value.int .i64 (k71 : Int)) ∧ fq 8 = (Value.int .i64 (k100 : Int)) ∧ fq 9 = Value.int .i64 s.1 ∧ InR .i64 s.1 ∧ fq 10 = Value.int .i64 s.2 ∧ InR .i64 s.2 ∧ fq 13 = v_r_Table ∧ fq 14 = (Value.int .i64 ((r_Table).length : Int)) ∧ fq 15 = (Value.int .i64 (k12 : Int)) ∧ fq 21 = v_r_Table ∧ fq 22 = (Value.int .i64 ((r_Table).length : Int)) ∧ fq 23 = (Value.int .i64 (k39 : Int)) ∧ fq 30 = (Value.int .i64 ((r_Table).length : Int)) ∧ fq 31 = (Value.int .i64 (k71 : Int)) ∧ fq 36 = (Value.int .i64 ((r_Table).length : Int)) ∧ fq 37 = (Value.int .i64 (k100 : Int)) ∧ fq 42 = (Value.int .i64 ((r_Table).length : Int)) ∧ fq 43 = Value.int .i64 (k : Int) ∧ InR .i64 (k : Int) ∧ St wd2 wq []) hres131 ⟨hf109, hf110, hf111, hf112, hf113, hf114, rfl, rfl, (inR_i64.2 (show (-9223372036854775808 : Int) ≤ 0 ∧ (0 : Int) ≤ 9223372036854775807 from by decide)), rfl, (inR_i64.2 (show (-9223372036854775808 : Int) ≤ 0 ∧ (0 : Int) ≤ 9223372036854775807 from by decide)), hf115, hf116, hf117, hf118, hf119, hf120, hf121, hf122, hf123, hf124, rfl, rfl, (inR_i64.2 (show (-9223372036854775808 : Int) ≤ 0 ∧ (0 : Int) ≤ 9223372036854775807 from by decide)), hS126⟩ ?_ ?_
                    · intro k132 s570 ct135 f136 wd137 hk138 hb139 hI140 hbrk141 hret142
                      obtain ⟨x133, x134⟩ := s570
                      replace hI140 : f136 1 = (Value.pointer (some ⟨b1, 0, none⟩)) ∧ f136 3 = (Value.int .i64 (k12 : Int)) ∧ f136 4 = u33 ∧ f136 5 = (Value.int .i64 (k39 : Int)) ∧ f136 6 = u65 ∧ f136 7 = (Value.int .i64 (k71 : Int)) ∧ f136 8 = (Value.int .i64 (k100 : Int)) ∧ f136 9 = Value.int .i64 x133 ∧ InR .i64 x133 ∧ f136 10 = Value.int .i64 x134 ∧ InR .i64 x134 ∧ f136 13 = v_r_Table ∧ f136 14 = (Value.int .i64 ((r_Table).length : Int)) ∧ f136 15 = (Value.int .i64 (k12 : Int)) ∧ f136 21 = v_r_Table ∧ f136 22 = (Value.int .i64 ((r_Table).length : Int)) ∧ f136 23 = (Value.int .i64 (k39 : Int)) ∧ f136 30 = (Value.int .i64 ((r_Table).length : Int)) ∧ f136 31 = (Value.int .i64 (k71 : Int)) ∧ f136 36 = (Value.int .i64 ((r_Table).length : Int)) ∧ f136 37 = (Value.int .i64 (k100 : Int)) ∧ f136 42 = (Value.int .i64 ((r_Table).length : Int)) ∧ f136 43 = Value.int .i64 (k132 : Int) ∧ InR .i64 (k132 : Int) ∧ St wd2 wd137 [] := hI140
                      replace hb139 : p_impl_Ring_bracketFault_L5 x29 k39 r_Table k71 k100 x61 k132 x133 x134 = some ct135 := hb139
                      unfold p_impl_Ring_bracketFault_L5 at hb139
                      obtain ⟨hf143, hf144, hf145, hf146, hf147, hf148, hf149, hf150, hr151, hf152, hr153, hf154, hf155, hf156, hf157, hf158, hf159, hf160, hf161, hf162, hf163, hf164, hf165, hr166, hS167⟩ := hI140
                      refine W.seq ?_
                      refine W.region ?_
                      refine WL.val (Value.bool (decide ((k132 : Int) < ((r_Table).length : Int)))) _ (op_lss hf165 hf164) rfl ?_
                      have hl168 : (k132 : Int) < ((r_Table).length : Int) := by omega
                      refine WL.nil ?_
                      show W _ _ _ _ _ _
                      refine W.seq ?_
                      refine W.condT (decide ((k132 : Int) < ((r_Table).length : Int))) rfl (decide_eq_true hl168) ?_
                      refine W.skip ?_
                      show W _ _ _ _ _ _
                      refine W.seq ?_
                      refine W.block ?_
                      refine W.seq ?_
                      refine W.region ?_
                      refine WL.val (Value.int .i64 (k132 : Int)) _ (op_move hf165) rfl ?_
                      refine WL.val (Value.int .i64 (k132 : Int)) _ (op_assign rfl) rfl ?_
                      refine WL.nil ?_
                      show W _ _ _ _ _ _
                      refine W.seq ?_
                      obtain ⟨x200, hx203, hb139⟩ := bs hb139
                      obtain ⟨ha201, hb202, hx203⟩ := idx_some hx203
                      obtain ⟨u211, hc212, hr213⟩ := repSl.el hr35 hx203
                      obtain ⟨x230, hx233, hb139⟩ := bs hb139
                      obtain ⟨ha231, hb232, hx233⟩ := idx_some hx233
                      obtain ⟨u241, hc242, hr243⟩ := repSl.el hr213 hx233
                      obtain ⟨rfl, hr243⟩ := hr243
                      obtain ⟨x274, hx277, hb139⟩ := bs hb139
                      obtain ⟨ha275, hb276, hx277⟩ := idx_some hx277
                      obtain ⟨u285, hc286, hr287⟩ := repSl.el r_r_Table hx277
                      obtain ⟨x304, hx307, hb139⟩ := bs hb139
                      obtain ⟨ha305, hb306, hx307⟩ := idx_some hx307
                      obtain ⟨u315, hc316, hr317⟩ := repSl.el hr287 hx307
                      obtain ⟨x334, hx337, hb139⟩ := bs hb139
                      obtain ⟨ha335, hb336, hx337⟩ := idx_some hx337
                      obtain ⟨u345, hc346, hr347⟩ := repSl.el hr317 hx337
                      obtain ⟨rfl, hr347⟩ := hr347
                      refine W.draw mixo 20 [fun v _ => v = (Value.int .i64 x133) ∧ InR .i64 x133, fun v _ => v = u33, fun v _ => v = (Value.int .i64 (k39 : Int)) ∧ InR .i64 (k39 : Int), fun v _ => v = (Value.pointer (some (elA u33 ((k39 : Int)).toNat))), fun v _ => v = u211, fun v _ => v = (Value.int .i64 (k132 : Int)) ∧ InR .i64 (k132 : Int), fun v _ => v = (Value.pointer (some (elA u211 ((k132 : Int)).toNat))), fun v _ => v = (Value.int .i64 x230) ∧ InR .i64 x230, fun v _ => v = (Value.pointer (some ⟨b1, 0, none⟩)), fun v _ => v = v_r_Table, fun v _ => v = (Value.int .i64 (k132 : Int)) ∧ InR .i64 (k132 : Int), fun v _ => v = (Value.pointer (some (elA v_r_Table ((k132 : Int)).toNat))), fun v _ => v = u285, fun v _ => v = (Value.int .i64 (k71 : Int)) ∧ InR .i64 (k71 : Int), fun v _ => v = (Value.pointer (some (elA u285 ((k71 : Int)).toNat))), fun v _ => v = u315, fun v _ => v = (Value.int .i64 (k100 : Int)) ∧ InR .i64 (k100 : Int), fun v _ => v = (Value.pointer (some (elA u315 ((k100 : Int)).toNat))), fun v _ => v = (Value.int .i64 x334) ∧ InR .i64 x334, fun v _ => v = (Value.int .i64 (w64 (x230 * x334))) ∧ InR .i64 (w64 (x230 * x334))] (by kernel_rfl) (by kernel_rfl) (stabL ⟨(fun _ _ _ _ h => h), (fun _ _ _ _ h => h), (fun _ _ _ _ h => h), (fun _ _ _ _ h => h), (fun _ _ _ _ h => h), (fun _ _ _ _ h => h), (fun _ _ _ _ h => h), (fun _ _ _ _ h => h), (fun _ _ _ _ h => h), (fun _ _ _ _ h => h), (fun _ _ _ _ h => h), (fun _ _ _ _ h => h), (fun _ _ _ _ h => h), (fun _ _ _ _ h => h), (fun _ _ _ _ h => h), (fun _ _ _ _ h => h), (fun _ _ _ _ h => h), (fun _ _ _ _ h => h), (fun _ _ _ _ h => h), (fun _ _ _ _ h => h), trivial⟩) ⟨?_, ?_, ?_, ?_, ?_, ?_, ?_, ?_, ?_, ?_, ?_, ?_, ?_, ?_, ?_, ?_, ?_, ?_, ?_, ?_, trivial⟩ ?_
                      · intro f170 wd171 he172 hout173 hphi174
                        have hS175 : St wd2 wd171 [] := St.extend hS167 he172
                        have e176 : f170 9 = (Value.int .i64 x133) := (hout173 9 rfl).trans hf150
                        exact OpY.val (Value.int .i64 x133) wd171 rfl (op_move e176) (Ext.refl _) ⟨rfl, hr151⟩
                      · intro f177 wd178 he179 hout180 hphi181
                        have hS182 : St wd2 wd178 [] := St.extend hS167 he179
                        have e183 : f177 4 = u33 := (hout180 4 rfl).trans hf145
                        exact OpY.val u33 wd178 rfl (op_move e183) (Ext.refl _) rfl
                      · intro f184 wd185 he186 hout187 hphi188
                        have hS189 : St wd2 wd185 [] := St.extend hS167 he186
                        have e190 : f184 5 = (Value.int .i64 (k39 : Int)) := (hout187 5 rfl).trans hf146
                        exact OpY.val (Value.int .i64 (k39 : Int)) wd185 rfl (op_move e190) (Ext.refl _) ⟨rfl, hr57⟩
                      · intro f191 wd192 he193 hout194 hphi195
                        have hS196 : St wd2 wd192 [] := St.extend hS167 he193
                        have e197 : f191 47 = u33 := hphi195 1 47 _ rfl rfl rfl
                        obtain ⟨e198, hr199⟩ : f191 48 = (Value.int .i64 (k39 : Int)) ∧ InR .i64 (k39 : Int) := hphi195 2 48 _ rfl rfl rfl
                        exact OpY.val (Value.pointer (some (elA u33 ((k39 : Int)).toNat))) wd192 rfl (op_idx sl_22 (Ty.lift _ (Ext.trans hE7 hS196.ext) hr35) e197 e198 ha201 hb202) (Ext.refl _) rfl
                      · intro f204 wd205 he206 hout207 hphi208
                        have hS209 : St wd2 wd205 [] := St.extend hS167 he206
                        have e210 : f204 49 = (Value.pointer (some (elA u33 ((k39 : Int)).toNat))) := hphi208 3 49 _ rfl rfl rfl
                        exact OpY.val u211 wd205 rfl (op_load one_23 e210 (Ext.cell (Ext.trans hE7 hS209.ext) hc212)) (Ext.refl _) rfl
                      · intro f214 wd215 he216 hout217 hphi218
                        have hS219 : St wd2 wd215 [] := St.extend hS167 he216
                        have e220 : f214 11 = (Value.int .i64 (k132 : Int)) := (hout217 11 rfl).trans rfl
                        exact OpY.val (Value.int .i64 (k132 : Int)) wd215 rfl (op_move e220) (Ext.refl _) ⟨rfl, hr166⟩
                      · intro f221 wd222 he223 hout224 hphi225
                        have hS226 : St wd2 wd222 [] := St.extend hS167 he223
                        have e227 : f221 50 = u211 := hphi225 4 50 _ rfl rfl rfl
                        obtain ⟨e228, hr229⟩ : f221 51 = (Value.int .i64 (k132 : Int)) ∧ InR .i64 (k132 : Int) := hphi225 5 51 _ rfl rfl rfl
                        exact OpY.val (Value.pointer (some (elA u211 ((k132 : Int)).toNat))) wd222 rfl (op_idx sl_23 (Ty.lift _ (Ext.trans hE7 hS226.ext) hr213) e227 e228 ha231 hb232) (Ext.refl _) rfl
                      · intro f234 wd235 he236 hout237 hphi238
                        have hS239 : St wd2 wd235 [] := St.extend hS167 he236
                        have e240 : f234 52 = (Value.pointer (some (elA u211 ((k132 : Int)).toNat))) := hphi238 6 52 _ rfl rfl rfl
                        exact OpY.val (Value.int .i64 x230) wd235 rfl (op_load one_2 e240 (Ext.cell (Ext.trans hE7 hS239.ext) hc242)) (Ext.refl _) ⟨rfl, hr243⟩
                      · intro f244 wd245 he246 hout247 hphi248
                        have hS249 : St wd2 wd245 [] := St.extend hS167 he246
                        have e250 : f244 1 = (Value.pointer (some ⟨b1, 0, none⟩)) := (hout247 1 rfl).trans hf143
                        exact OpY.val (Value.pointer (some ⟨b1, 0, none⟩)) wd245 rfl (op_fieldAddr fd_27_0 e250) (Ext.refl _) rfl
                      · intro f251 wd252 he253 hout254 hphi255
                        have hS256 : St wd2 wd252 [] := St.extend hS167 he253
                        have e257 : f251 54 = (Value.pointer (some ⟨b1, 0, none⟩)) := hphi255 8 54 _ rfl rfl rfl
                        exact OpY.val v_r_Table wd252 rfl (op_load one_25 e257 (BoxAt.cell (BoxAt.lift hS256.ext hx6) rfl)) (Ext.refl _) rfl
                      · intro f258 wd259 he260 hout261 hphi262
                        have hS263 : St wd2 wd259 [] := St.extend hS167 he260
                        have e264 : f258 11 = (Value.int .i64 (k132 : Int)) := (hout261 11 rfl).trans rfl
                        exact OpY.val (Value.int .i64 (k132 : Int)) wd259 rfl (op_move e264) (Ext.refl _) ⟨rfl, hr166⟩
                      · intro f265 wd266 he267 hout268 hphi269
                        have hS270 : St wd2 wd266 [] := St.extend hS167 he267
                        have e271 : f265 55 = v_r_Table := hphi269 9 55 _ rfl rfl rfl
                        obtain ⟨e272, hr273⟩ : f265 56 = (Value.int .i64 (k132 : Int)) ∧ InR .i64 (k132 : Int) := hphi269 10 56 _ rfl rfl rfl
                        exact OpY.val (Value.pointer (some (elA v_r_Table ((k132 : Int)).toNat))) wd266 rfl (op_idx sl_25 (Ty.lift _ (Ext.trans hE7 hS270.ext) r_r_Table) e271 e272 ha275 hb276) (Ext.refl _) rfl
                      · intro f278 wd279 he280 hout281 hphi282
                        have hS283 : St wd2 wd279 [] := St.extend hS167 he280
                        have e284 : f278 57 = (Value.pointer (some (elA v_r_Table ((k132 : Int)).toNat))) := hphi282 11 57 _ rfl rfl rfl
                        exact OpY.val u285 wd279 rfl (op_load one_22 e284 (Ext.cell (Ext.trans hE7 hS283.ext) hc286)) (Ext.refl _) rfl
                      · intro f288 wd289 he290 hout291 hphi292
                        have hS293 : St wd2 wd289 [] := St.extend hS167 he290
                        have e294 : f288 7 = (Value.int .i64 (k71 : Int)) := (hout291 7 rfl).trans hf148
                        exact OpY.val (Value.int .i64 (k71 : Int)) wd289 rfl (op_move e294) (Ext.refl _) ⟨rfl, hr93⟩
                      · intro f295 wd296 he297 hout298 hphi299
                        have hS300 : St wd2 wd296 [] := St.extend hS167 he297
                        have e301 : f295 58 = u285 := hphi299 12 58 _ rfl rfl rfl
                        obtain ⟨e302, hr303⟩ : f295 59 = (Value.int .i64 (k71 : Int)) ∧ InR .i64 (k71 : Int) := hphi299 13 59 _ rfl rfl rfl
                        exact OpY.val (Value.pointer (some (elA u285 ((k71 : Int)).toNat))) wd296 rfl (op_idx sl_22 (Ty.lift _ (Ext.trans hE7 hS300.ext) hr287) e301 e302 ha305 hb306) (Ext.refl _) rfl
                      · intro f308 wd309 he310 hout311 hphi312
                        have hS313 : St wd2 wd309 [] := St.extend hS167 he310
                        have e314 : f308 60 = (Value.pointer (some (elA u285 ((k71 : Int)).toNat))) := hphi312 14 60 _ rfl rfl rfl
                        exact OpY.val u315 wd309 rfl (op_load one_23 e314 (Ext.cell (Ext.trans hE7 hS313.ext) hc316)) (Ext.refl _) rfl
                      · intro f318 wd319 he320 hout321 hphi322
                        have hS323 : St wd2 wd319 [] := St.extend hS167 he320
                        have e324 : f318 8 = (Value.int .i64 (k100 : Int)) := (hout321 8 rfl).trans hf149
                        exact OpY.val (Value.int .i64 (k100 : Int)) wd319 rfl (op_move e324) (Ext.refl _) ⟨rfl, hr125⟩
                      · intro f325 wd326 he327 hout328 hphi329
                        have hS330 : St wd2 wd326 [] := St.extend hS167 he327
                        have e331 : f325 61 = u315 := hphi329 15 61 _ rfl rfl rfl
                        obtain ⟨e332, hr333⟩ : f325 62 = (Value.int .i64 (k100 : Int)) ∧ InR .i64 (k100 : Int) := hphi329 16 62 _ rfl rfl rfl
                        exact OpY.val (Value.pointer (some (elA u315 ((k100 : Int)).toNat))) wd326 rfl (op_idx sl_23 (Ty.lift _ (Ext.trans hE7 hS330.ext) hr317) e331 e332 ha335 hb336) (Ext.refl _) rfl
                      · intro f338 wd339 he340 hout341 hphi342
                        have hS343 : St wd2 wd339 [] := St.extend hS167 he340
                        have e344 : f338 63 = (Value.pointer (some (elA u315 ((k100 : Int)).toNat))) := hphi342 17 63 _ rfl rfl rfl
                        exact OpY.val (Value.int .i64 x334) wd339 rfl (op_load one_2 e344 (Ext.cell (Ext.trans hE7 hS343.ext) hc346)) (Ext.refl _) ⟨rfl, hr347⟩
                      · intro f348 wd349 he350 hout351 hphi352
                        have hS353 : St wd2 wd349 [] := St.extend hS167 he350
                        obtain ⟨e354, hr355⟩ : f348 53 = (Value.int .i64 x230) ∧ InR .i64 x230 := hphi352 7 53 _ rfl rfl rfl
                        obtain ⟨e356, hr357⟩ : f348 64 = (Value.int .i64 x334) ∧ InR .i64 x334 := hphi352 18 64 _ rfl rfl rfl
                        exact OpY.val (Value.int .i64 (w64 (x230 * x334))) wd349 rfl (op_mul e354 e356) (Ext.refl _) ⟨rfl, (inR_wrap _ _)⟩
                      · intro f358 wd359 he360 hout361 hphi362
                        show WL _ _ _ _ _ _ _
                        have hS363 : St wd2 wd359 [] := St.extend hS167 he360
                        obtain ⟨e364, hr365⟩ : f358 46 = (Value.int .i64 x133) ∧ InR .i64 x133 := hphi362 0 46 _ (by decide) rfl rfl
                        obtain ⟨e366, hr367⟩ : f358 65 = (Value.int .i64 (w64 (x230 * x334))) ∧ InR .i64 (w64 (x230 * x334)) := hphi362 19 65 _ (by decide) rfl rfl
                        have e368 : f358 1 = (Value.pointer (some ⟨b1, 0, none⟩)) := (hout361 1 rfl).trans hf143
                        have e369 : f358 3 = (Value.int .i64 (k12 : Int)) := (hout361 3 rfl).trans hf144
                        have e370 : f358 4 = u33 := (hout361 4 rfl).trans hf145
                        have e371 : f358 5 = (Value.int .i64 (k39 : Int)) := (hout361 5 rfl).trans hf146
                        have e372 : f358 6 = u65 := (hout361 6 rfl).trans hf147
                        have e373 : f358 7 = (Value.int .i64 (k71 : Int)) := (hout361 7 rfl).trans hf148
                        have e374 : f358 8 = (Value.int .i64 (k100 : Int)) := (hout361 8 rfl).trans hf149
                        have e375 : f358 10 = (Value.int .i64 x134) := (hout361 10 rfl).trans hf152
                        have e376 : f358 11 = (Value.int .i64 (k132 : Int)) := (hout361 11 rfl).trans rfl
                        have e377 : f358 13 = v_r_Table := (hout361 13 rfl).trans hf154
                        have e378 : f358 14 = (Value.int .i64 ((r_Table).length : Int)) := (hout361 14 rfl).trans hf155
                        have e379 : f358 15 = (Value.int .i64 (k12 : Int)) := (hout361 15 rfl).trans hf156
                        have e380 : f358 21 = v_r_Table := (hout361 21 rfl).trans hf157
                        have e381 : f358 22 = (Value.int .i64 ((r_Table).length : Int)) := (hout361 22 rfl).trans hf158
                        have e382 : f358 23 = (Value.int .i64 (k39 : Int)) := (hout361 23 rfl).trans hf159
                        have e383 : f358 30 = (Value.int .i64 ((r_Table).length : Int)) := (hout361 30 rfl).trans hf160
                        have e384 : f358 31 = (Value.int .i64 (k71 : Int)) := (hout361 31 rfl).trans hf161
                        have e385 : f358 36 = (Value.int .i64 ((r_Table).length : Int)) := (hout361 36 rfl).trans hf162
                        have e386 : f358 37 = (Value.int .i64 (k100 : Int)) := (hout361 37 rfl).trans hf163
                        have e387 : f358 42 = (Value.int .i64 ((r_Table).length : Int)) := (hout361 42 rfl).trans hf164
                        have e388 : f358 43 = (Value.int .i64 (k132 : Int)) := (hout361 43 rfl).trans hf165
                        refine WL.val (Value.int .i64 (w64 (x133 + (w64 (x230 * x334))))) _ (op_add e364 e366) rfl ?_
                        refine WL.val (Value.int .i64 (w64 (x133 + (w64 (x230 * x334))))) _ (op_assign rfl) rfl ?_
                        refine WL.nil ?_
                        show W _ _ _ _ _ _
                        obtain ⟨x419, hx422, hb139⟩ := bs hb139
                        obtain ⟨ha420, hb421, hx422⟩ := idx_some hx422
                        obtain ⟨u430, hc431, hr432⟩ := repSl.el hr67 hx422
                        obtain ⟨x449, hx452, hb139⟩ := bs hb139
                        obtain ⟨ha450, hb451, hx452⟩ := idx_some hx452
                        obtain ⟨u460, hc461, hr462⟩ := repSl.el hr432 hx452
                        obtain ⟨rfl, hr462⟩ := hr462
                        obtain ⟨x486, hx489, hb139⟩ := bs hb139
                        obtain ⟨ha487, hb488, hx489⟩ := idx_some hx489
                        obtain ⟨u497, hc498, hr499⟩ := repSl.el hr35 hx489
                        obtain ⟨x516, hx519, hb139⟩ := bs hb139
                        obtain ⟨ha517, hb518, hx519⟩ := idx_some hx519
                        obtain ⟨u527, hc528, hr529⟩ := repSl.el hr499 hx519
                        obtain ⟨rfl, hr529⟩ := hr529
                        refine W.draw mixo 16 [fun v _ => v = (Value.int .i64 x134) ∧ InR .i64 x134, fun v _ => v = u65, fun v _ => v = (Value.int .i64 (k71 : Int)) ∧ InR .i64 (k71 : Int), fun v _ => v = (Value.pointer (some (elA u65 ((k71 : Int)).toNat))), fun v _ => v = u430, fun v _ => v = (Value.int .i64 (k132 : Int)) ∧ InR .i64 (k132 : Int), fun v _ => v = (Value.pointer (some (elA u430 ((k132 : Int)).toNat))), fun v _ => v = (Value.int .i64 x449) ∧ InR .i64 x449, fun v _ => v = u33, fun v _ => v = (Value.int .i64 (k132 : Int)) ∧ InR .i64 (k132 : Int), fun v _ => v = (Value.pointer (some (elA u33 ((k132 : Int)).toNat))), fun v _ => v = u497, fun v _ => v = (Value.int .i64 (k100 : Int)) ∧ InR .i64 (k100 : Int), fun v _ => v = (Value.pointer (some (elA u497 ((k100 : Int)).toNat))), fun v _ => v = (Value.int .i64 x516) ∧ InR .i64 x516, fun v _ => v = (Value.int .i64 (w64 (x449 * x516))) ∧ InR .i64 (w64 (x449 * x516))] (by kernel_rfl) (by kernel_rfl) (stabL ⟨(fun _ _ _ _ h => h), (fun _ _ _ _ h => h), (fun _ _ _ _ h => h), (fun _ _ _ _ h => h), (fun _ _ _ _ h => h), (fun _ _ _ _ h => h), (fun _ _ _ _ h => h), (fun _ _ _ _ h => h), (fun _ _ _ _ h => h), (fun _ _ _ _ h => h), (fun _ _ _ _ h => h), (fun _ _ _ _ h => h), (fun _ _ _ _ h => h), (fun _ _ _ _ h => h), (fun _ _ _ _ h => h), (fun _ _ _ _ h => h), trivial⟩) ⟨?_, ?_, ?_, ?_, ?_, ?_, ?_, ?_, ?_, ?_, ?_, ?_, ?_, ?_, ?_, ?_, trivial⟩ ?_
                        · intro f389 wd390 he391 hout392 hphi393
                          have hS394 : St wd2 wd390 [] := St.extend hS363 he391
                          have e395 : f389 10 = (Value.int .i64 x134) := (hout392 10 rfl).trans e375
                          exact OpY.val (Value.int .i64 x134) wd390 rfl (op_move e395) (Ext.refl _) ⟨rfl, hr153⟩
                        · intro f396 wd397 he398 hout399 hphi400
                          have hS401 : St wd2 wd397 [] := St.extend hS363 he398
                          have e402 : f396 6 = u65 := (hout399 6 rfl).trans e372
                          exact OpY.val u65 wd397 rfl (op_move e402) (Ext.refl _) rfl
                        · intro f403 wd404 he405 hout406 hphi407
                          have hS408 : St wd2 wd404 [] := St.extend hS363 he405
                          have e409 : f403 7 = (Value.int .i64 (k71 : Int)) := (hout406 7 rfl).trans e373
                          exact OpY.val (Value.int .i64 (k71 : Int)) wd404 rfl (op_move e409) (Ext.refl _) ⟨rfl, hr93⟩
                        · intro f410 wd411 he412 hout413 hphi414
                          have hS415 : St wd2 wd411 [] := St.extend hS363 he412
                          have e416 : f410 68 = u65 := hphi414 1 68 _ rfl rfl rfl
                          obtain ⟨e417, hr418⟩ : f410 69 = (Value.int .i64 (k71 : Int)) ∧ InR .i64 (k71 : Int) := hphi414 2 69 _ rfl rfl rfl
                          exact OpY.val (Value.pointer (some (elA u65 ((k71 : Int)).toNat))) wd411 rfl (op_idx sl_22 (Ty.lift _ (Ext.trans hE7 hS415.ext) hr67) e416 e417 ha420 hb421) (Ext.refl _) rfl
                        · intro f423 wd424 he425 hout426 hphi427
                          have hS428 : St wd2 wd424 [] := St.extend hS363 he425
                          have e429 : f423 70 = (Value.pointer (some (elA u65 ((k71 : Int)).toNat))) := hphi427 3 70 _ rfl rfl rfl
                          exact OpY.val u430 wd424 rfl (op_load one_23 e429 (Ext.cell (Ext.trans hE7 hS428.ext) hc431)) (Ext.refl _) rfl
                        · intro f433 wd434 he435 hout436 hphi437
                          have hS438 : St wd2 wd434 [] := St.extend hS363 he435
                          have e439 : f433 11 = (Value.int .i64 (k132 : Int)) := (hout436 11 rfl).trans e376
                          exact OpY.val (Value.int .i64 (k132 : Int)) wd434 rfl (op_move e439) (Ext.refl _) ⟨rfl, hr166⟩
                        · intro f440 wd441 he442 hout443 hphi444
                          have hS445 : St wd2 wd441 [] := St.extend hS363 he442
                          have e446 : f440 71 = u430 := hphi444 4 71 _ rfl rfl rfl
                          obtain ⟨e447, hr448⟩ : f440 72 = (Value.int .i64 (k132 : Int)) ∧ InR .i64 (k132 : Int) := hphi444 5 72 _ rfl rfl rfl
                          exact OpY.val (Value.pointer (some (elA u430 ((k132 : Int)).toNat))) wd441 rfl (op_idx sl_23 (Ty.lift _ (Ext.trans hE7 hS445.ext) hr432) e446 e447 ha450 hb451) (Ext.refl _) rfl
                        · intro f453 wd454 he455 hout456 hphi457
                          have hS458 : St wd2 wd454 [] := St.extend hS363 he455
                          have e459 : f453 73 = (Value.pointer (some (elA u430 ((k132 : Int)).toNat))) := hphi457 6 73 _ rfl rfl rfl
                          exact OpY.val (Value.int .i64 x449) wd454 rfl (op_load one_2 e459 (Ext.cell (Ext.trans hE7 hS458.ext) hc461)) (Ext.refl _) ⟨rfl, hr462⟩
                        · intro f463 wd464 he465 hout466 hphi467
                          have hS468 : St wd2 wd464 [] := St.extend hS363 he465
                          have e469 : f463 4 = u33 := (hout466 4 rfl).trans e370
                          exact OpY.val u33 wd464 rfl (op_move e469) (Ext.refl _) rfl
                        · intro f470 wd471 he472 hout473 hphi474
                          have hS475 : St wd2 wd471 [] := St.extend hS363 he472
                          have e476 : f470 11 = (Value.int .i64 (k132 : Int)) := (hout473 11 rfl).trans e376
                          exact OpY.val (Value.int .i64 (k132 : Int)) wd471 rfl (op_move e476) (Ext.refl _) ⟨rfl, hr166⟩
                        · intro f477 wd478 he479 hout480 hphi481
                          have hS482 : St wd2 wd478 [] := St.extend hS363 he479
                          have e483 : f477 75 = u33 := hphi481 8 75 _ rfl rfl rfl
                          obtain ⟨e484, hr485⟩ : f477 76 = (Value.int .i64 (k132 : Int)) ∧ InR .i64 (k132 : Int) := hphi481 9 76 _ rfl rfl rfl
                          exact OpY.val (Value.pointer (some (elA u33 ((k132 : Int)).toNat))) wd478 rfl (op_idx sl_22 (Ty.lift _ (Ext.trans hE7 hS482.ext) hr35) e483 e484 ha487 hb488) (Ext.refl _) rfl
                        · intro f490 wd491 he492 hout493 hphi494
                          have hS495 : St wd2 wd491 [] := St.extend hS363 he492
                          have e496 : f490 77 = (Value.pointer (some (elA u33 ((k132 : Int)).toNat))) := hphi494 10 77 _ rfl rfl rfl
                          exact OpY.val u497 wd491 rfl (op_load one_23 e496 (Ext.cell (Ext.trans hE7 hS495.ext) hc498)) (Ext.refl _) rfl
                        · intro f500 wd501 he502 hout503 hphi504
                          have hS505 : St wd2 wd501 [] := St.extend hS363 he502
                          have e506 : f500 8 = (Value.int .i64 (k100 : Int)) := (hout503 8 rfl).trans e374
                          exact OpY.val (Value.int .i64 (k100 : Int)) wd501 rfl (op_move e506) (Ext.refl _) ⟨rfl, hr125⟩
                        · intro f507 wd508 he509 hout510 hphi511
                          have hS512 : St wd2 wd508 [] := St.extend hS363 he509
                          have e513 : f507 78 = u497 := hphi511 11 78 _ rfl rfl rfl
                          obtain ⟨e514, hr515⟩ : f507 79 = (Value.int .i64 (k100 : Int)) ∧ InR .i64 (k100 : Int) := hphi511 12 79 _ rfl rfl rfl
                          exact OpY.val (Value.pointer (some (elA u497 ((k100 : Int)).toNat))) wd508 rfl (op_idx sl_23 (Ty.lift _ (Ext.trans hE7 hS512.ext) hr499) e513 e514 ha517 hb518) (Ext.refl _) rfl
                        · intro f520 wd521 he522 hout523 hphi524
                          have hS525 : St wd2 wd521 [] := St.extend hS363 he522
                          have e526 : f520 80 = (Value.pointer (some (elA u497 ((k100 : Int)).toNat))) := hphi524 13 80 _ rfl rfl rfl
                          exact OpY.val (Value.int .i64 x516) wd521 rfl (op_load one_2 e526 (Ext.cell (Ext.trans hE7 hS525.ext) hc528)) (Ext.refl _) ⟨rfl, hr529⟩
                        · intro f530 wd531 he532 hout533 hphi534
                          have hS535 : St wd2 wd531 [] := St.extend hS363 he532
                          obtain ⟨e536, hr537⟩ : f530 74 = (Value.int .i64 x449) ∧ InR .i64 x449 := hphi534 7 74 _ rfl rfl rfl
                          obtain ⟨e538, hr539⟩ : f530 81 = (Value.int .i64 x516) ∧ InR .i64 x516 := hphi534 14 81 _ rfl rfl rfl
                          exact OpY.val (Value.int .i64 (w64 (x449 * x516))) wd531 rfl (op_mul e536 e538) (Ext.refl _) ⟨rfl, (inR_wrap _ _)⟩
                        · intro f540 wd541 he542 hout543 hphi544
                          show WL _ _ _ _ _ _ _
                          have hS545 : St wd2 wd541 [] := St.extend hS363 he542
                          obtain ⟨e546, hr547⟩ : f540 67 = (Value.int .i64 x134) ∧ InR .i64 x134 := hphi544 0 67 _ (by decide) rfl rfl
                          obtain ⟨e548, hr549⟩ : f540 82 = (Value.int .i64 (w64 (x449 * x516))) ∧ InR .i64 (w64 (x449 * x516)) := hphi544 15 82 _ (by decide) rfl rfl
                          have e550 : f540 1 = (Value.pointer (some ⟨b1, 0, none⟩)) := (hout543 1 rfl).trans e368
                          have e551 : f540 3 = (Value.int .i64 (k12 : Int)) := (hout543 3 rfl).trans e369
                          have e552 : f540 4 = u33 := (hout543 4 rfl).trans e370
                          have e553 : f540 5 = (Value.int .i64 (k39 : Int)) := (hout543 5 rfl).trans e371
                          have e554 : f540 6 = u65 := (hout543 6 rfl).trans e372
                          have e555 : f540 7 = (Value.int .i64 (k71 : Int)) := (hout543 7 rfl).trans e373
                          have e556 : f540 8 = (Value.int .i64 (k100 : Int)) := (hout543 8 rfl).trans e374
                          have e557 : f540 9 = (Value.int .i64 (w64 (x133 + (w64 (x230 * x334))))) := (hout543 9 rfl).trans rfl
                          have e558 : f540 13 = v_r_Table := (hout543 13 rfl).trans e377
                          have e559 : f540 14 = (Value.int .i64 ((r_Table).length : Int)) := (hout543 14 rfl).trans e378
                          have e560 : f540 15 = (Value.int .i64 (k12 : Int)) := (hout543 15 rfl).trans e379
                          have e561 : f540 21 = v_r_Table := (hout543 21 rfl).trans e380
                          have e562 : f540 22 = (Value.int .i64 ((r_Table).length : Int)) := (hout543 22 rfl).trans e381
                          have e563 : f540 23 = (Value.int .i64 (k39 : Int)) := (hout543 23 rfl).trans e382
                          have e564 : f540 30 = (Value.int .i64 ((r_Table).length : Int)) := (hout543 30 rfl).trans e383
                          have e565 : f540 31 = (Value.int .i64 (k71 : Int)) := (hout543 31 rfl).trans e384
                          have e566 : f540 36 = (Value.int .i64 ((r_Table).length : Int)) := (hout543 36 rfl).trans e385
                          have e567 : f540 37 = (Value.int .i64 (k100 : Int)) := (hout543 37 rfl).trans e386
                          have e568 : f540 42 = (Value.int .i64 ((r_Table).length : Int)) := (hout543 42 rfl).trans e387
                          have e569 : f540 43 = (Value.int .i64 (k132 : Int)) := (hout543 43 rfl).trans e388
                          refine WL.val (Value.int .i64 (w64 (x134 + (w64 (x449 * x516))))) _ (op_add e546 e548) rfl ?_
                          refine WL.val (Value.int .i64 (w64 (x134 + (w64 (x449 * x516))))) _ (op_assign rfl) rfl ?_
                          refine WL.nil ?_
                          show W _ _ _ _ _ _
                          refine W.region ?_
                          refine WL.val (Value.int .i64 (w64 ((k132 : Int) + (1 : Int)))) _ (op_add e569 rfl) rfl ?_
                          refine WL.val (Value.int .i64 (w64 ((k132 : Int) + (1 : Int)))) _ (op_move rfl) rfl ?_
                          refine WL.nil ?_
                          obtain rfl := Option.some.inj hb139
                          show ∃ s, _ = Ctl.next s ∧ _
                          exact ⟨_, rfl, e550, e551, e552, e553, e554, e555, e556, e557, (inR_wrap _ _), rfl, (inR_wrap _ _), e558, e559, e560, e561, e562, e563, e564, e565, e566, e567, e568, (ctr_next hl168 hr129), (ctr_rng hl168 hr129), hS545⟩
                    · intro s575 f571 wd572 hs573 hI574
                      obtain ⟨x576, x577⟩ := s575
                      replace hI574 : f571 1 = (Value.pointer (some ⟨b1, 0, none⟩)) ∧ f571 3 = (Value.int .i64 (k12 : Int)) ∧ f571 4 = u33 ∧ f571 5 = (Value.int .i64 (k39 : Int)) ∧ f571 6 = u65 ∧ f571 7 = (Value.int .i64 (k71 : Int)) ∧ f571 8 = (Value.int .i64 (k100 : Int)) ∧ f571 9 = Value.int .i64 x576 ∧ InR .i64 x576 ∧ f571 10 = Value.int .i64 x577 ∧ InR .i64 x577 ∧ f571 13 = v_r_Table ∧ f571 14 = (Value.int .i64 ((r_Table).length : Int)) ∧ f571 15 = (Value.int .i64 (k12 : Int)) ∧ f571 21 = v_r_Table ∧ f571 22 = (Value.int .i64 ((r_Table).length : Int)) ∧ f571 23 = (Value.int .i64 (k39 : Int)) ∧ f571 30 = (Value.int .i64 ((r_Table).length : Int)) ∧ f571 31 = (Value.int .i64 (k71 : Int)) ∧ f571 36 = (Value.int .i64 ((r_Table).length : Int)) ∧ f571 37 = (Value.int .i64 (k100 : Int)) ∧ f571 42 = (Value.int .i64 ((r_Table).length : Int)) ∧ f571 43 = Value.int .i64 (((r_Table).length : Nat) : Int) ∧ InR .i64 (((r_Table).length : Nat) : Int) ∧ St wd2 wd572 [] := hI574
                      obtain ⟨hf578, hf579, hf580, hf581, hf582, hf583, hf584, hf585, hr586, hf587, hr588, hf589, hf590, hf591, hf592, hf593, hf594, hf595, hf596, hf597, hf598, hf599, hf600, hr601, hS602⟩ := hI574
                      refine W.seq ?_
                      refine W.region ?_
                      refine WL.val (Value.bool (decide ((((r_Table).length : Nat) : Int) < ((r_Table).length : Int)))) _ (op_lss hf600 hf599) rfl ?_
                      have hl603 : ¬ (((r_Table).length : Nat) : Int) < ((r_Table).length : Int) := by omega
                      refine WL.nil ?_
                      show W _ _ _ _ _ _
                      refine W.seq ?_
                      refine W.condF (decide ((((r_Table).length : Nat) : Int) < ((r_Table).length : Int))) rfl (decide_eq_false hl603) ?_
                      refine W.exit ?_
                      show _ = _ ∧ _
                      exact ⟨rfl, _, hs573, hf578, hf579, hf580, hf581, hf582, hf583, hf584, hf585, hr586, hf587, hr588, hf589, hf590, hf591, hf592, hf593, hf594, hf595, hf596, hf597, hf598, hS602⟩
                  · rintro f604 wd605 ⟨s607, rfl, hq606⟩
                    replace hb105 := onRes_fin hb105
                    obtain ⟨x608, x609⟩ := s607
                    replace hq606 : f604 1 = (Value.pointer (some ⟨b1, 0, none⟩)) ∧ f604 3 = (Value.int .i64 (k12 : Int)) ∧ f604 4 = u33 ∧ f604 5 = (Value.int .i64 (k39 : Int)) ∧ f604 6 = u65 ∧ f604 7 = (Value.int .i64 (k71 : Int)) ∧ f604 8 = (Value.int .i64 (k100 : Int)) ∧ f604 9 = Value.int .i64 x608 ∧ InR .i64 x608 ∧ f604 10 = Value.int .i64 x609 ∧ InR .i64 x609 ∧ f604 13 = v_r_Table ∧ f604 14 = (Value.int .i64 ((r_Table).length : Int)) ∧ f604 15 = (Value.int .i64 (k12 : Int)) ∧ f604 21 = v_r_Table ∧ f604 22 = (Value.int .i64 ((r_Table).length : Int)) ∧ f604 23 = (Value.int .i64 (k39 : Int)) ∧ f604 30 = (Value.int .i64 ((r_Table).length : Int)) ∧ f604 31 = (Value.int .i64 (k71 : Int)) ∧ f604 36 = (Value.int .i64 ((r_Table).length : Int)) ∧ f604 37 = (Value.int .i64 (k100 : Int)) ∧ St wd2 wd605 [] := hq606
                    replace hb105 : (_ : Option _) = _ := hb105
                    dsimp only at hb105
                    obtain ⟨hf610, hf611, hf612, hf613, hf614, hf615, hf616, hf617, hr618, hf619, hr620, hf621, hf622, hf623, hf624, hf625, hf626, hf627, hf628, hf629, hf630, hS631⟩ := hq606
                    show W _ _ _ _ _ _
                    refine W.seq ?_
                    refine W.region ?_
                    refine WL.val (Value.int .i64 x608) _ (op_move hf617) rfl ?_
                    refine WL.val (Value.int .i64 x609) _ (op_move hf619) rfl ?_
                    refine WL.val (Value.bool (x608 != x609)) _ (op_neq rfl rfl) rfl ?_
                    refine WL.nil ?_
                    show W _ _ _ _ _ _
                    refine W.cond (x608 != x609) rfl (fun hc632 => ?_) (fun hc632 => ?_)
                    · replace hb105 := ip hb105 hc632
                      refine W.seq ?_
                      refine W.region ?_
                      refine WL.val (Value.int .i64 (k12 : Int)) _ (op_move hf611) rfl ?_
                      refine WL.val (Value.int .i64 (k39 : Int)) _ (op_move hf613) rfl ?_
                      refine WL.val (Value.int .i64 (k71 : Int)) _ (op_move hf615) rfl ?_
                      refine WL.val (Value.int .i64 (k100 : Int)) _ (op_move hf616) rfl ?_
                      refine WL.litFlat (t := (Ty.i .i64)) (flat_i .i64) [(Value.int .i64 (3 : Int)), (Value.int .i64 (k12 : Int)), (Value.int .i64 (k39 : Int)), (Value.int .i64 (k71 : Int)), (Value.int .i64 (k100 : Int))] [(3 : Int), (k12 : Int), (k39 : Int), (k71 : Int), (k100 : Int)] hS631 sl_23 rfl rfl (fillL rfl ⟨rfl, rfl, rfl, rfl, rfl, rfl, rfl, rfl, rfl, rfl, rfl, rfl, rfl, rfl, rfl, trivial⟩) rfl rfl (litL ⟨⟨rfl, (inR_i64.2 (show (-9223372036854775808 : Int) ≤ 3 ∧ (3 : Int) ≤ 9223372036854775807 from by decide))⟩, ⟨rfl, hr25⟩, ⟨rfl, hr57⟩, ⟨rfl, hr93⟩, ⟨rfl, hr125⟩, trivial⟩) rfl ?_
                      intro u634 wd635 hS636 he637
                      replace hS636 : St wd2 wd635 [(Ty.sl (Ty.i .i64)).at u634 ([(3 : Int), (k12 : Int), (k39 : Int), (k71 : Int), (k100 : Int)] : (List Int))] := hS636
                      refine WL.val u634 _ (op_assign rfl) rfl ?_
                      refine WL.nil ?_
                      show W _ _ _ _ _ _
                      refine W.ret ?_
                      obtain rfl := Option.some.inj hb105
                      obtain rfl := hret108 _ rfl
                      replace hb76 := onRes_ret hb76
                      obtain rfl := Option.some.inj hb76
                      obtain rfl := hret79 _ rfl
                      replace hb44 := onRes_ret hb44
                      obtain rfl := Option.some.inj hb44
                      obtain rfl := hret47 _ rfl
                      replace hb17 := onRes_ret hb17
                      obtain rfl := Option.some.inj hb17
                      obtain rfl := hret20 _ rfl
                      replace h := onRes_ret h
                      obtain rfl := Option.some.inj h
                      show FinP _ _ _ _ _ _ _
                      exact FinP.ret _ (res1 rfl rfl) ⟨u634, rfl, (nil_cons), (Ext.trans hE7 hS636.ext), (St.out (St.pick hS636 [0] rfl) (hE7))⟩
                    · replace hb105 := inegb hb105 hc632
                      refine W.skip ?_
                      show W _ _ _ _ _ _
                      refine W.region ?_
                      refine WL.val (Value.int .i64 (w64 ((k100 : Int) + (1 : Int)))) _ (op_add hf630 rfl) rfl ?_
                      refine WL.val (Value.int .i64 (w64 ((k100 : Int) + (1 : Int)))) _ (op_move rfl) rfl ?_
                      refine WL.nil ?_
                      obtain rfl := Option.some.inj hb105
                      show ∃ s, _ = Ctl.next s ∧ _
                      exact ⟨_, rfl, hf610, hf611, hf612, hf613, hf614, hf615, hf621, hf622, hf623, hf624, hf625, hf626, hf627, hf628, hf629, (ctr_next hl127 hr97), (ctr_rng hl127 hr97), hS631⟩
                · intro s644 f640 wd641 hs642 hI643
                  obtain ⟨⟩ := s644
                  replace hI643 : f640 1 = (Value.pointer (some ⟨b1, 0, none⟩)) ∧ f640 3 = (Value.int .i64 (k12 : Int)) ∧ f640 4 = u33 ∧ f640 5 = (Value.int .i64 (k39 : Int)) ∧ f640 6 = u65 ∧ f640 7 = (Value.int .i64 (k71 : Int)) ∧ f640 13 = v_r_Table ∧ f640 14 = (Value.int .i64 ((r_Table).length : Int)) ∧ f640 15 = (Value.int .i64 (k12 : Int)) ∧ f640 21 = v_r_Table ∧ f640 22 = (Value.int .i64 ((r_Table).length : Int)) ∧ f640 23 = (Value.int .i64 (k39 : Int)) ∧ f640 30 = (Value.int .i64 ((r_Table).length : Int)) ∧ f640 31 = (Value.int .i64 (k71 : Int)) ∧ f640 36 = (Value.int .i64 ((r_Table).length : Int)) ∧ f640 37 = Value.int .i64 (((r_Table).length : Nat) : Int) ∧ InR .i64 (((r_Table).length : Nat) : Int) ∧ St wd2 wd641 [] := hI643
                  obtain ⟨hf645, hf646, hf647, hf648, hf649, hf650, hf651, hf652, hf653, hf654, hf655, hf656, hf657, hf658, hf659, hf660, hr661, hS662⟩ := hI643
                  refine W.seq ?_
                  refine W.region ?_
                  refine WL.val (Value.bool (decide ((((r_Table).length : Nat) : Int) < ((r_Table).length : Int)))) _ (op_lss hf660 hf659) rfl ?_
                  have hl663 : ¬ (((r_Table).length : Nat) : Int) < ((r_Table).length : Int) := by omega
                  refine WL.nil ?_
                  show W _ _ _ _ _ _
                  refine W.seq ?_
                  refine W.condF (decide ((((r_Table).length : Nat) : Int) < ((r_Table).length : Int))) rfl (decide_eq_false hl663) ?_
                  refine W.exit ?_
                  show _ = _ ∧ _
                  exact ⟨rfl, _, hs642, hf645, hf646, hf647, hf648, hf649, hf651, hf652, hf653, hf654, hf655, hf656, hf657, hf658, hS662⟩
              · rintro f664 wd665 ⟨s667, rfl, hq666⟩
                replace hb76 := onRes_fin hb76
                obtain ⟨⟩ := s667
                replace hq666 : f664 1 = (Value.pointer (some ⟨b1, 0, none⟩)) ∧ f664 3 = (Value.int .i64 (k12 : Int)) ∧ f664 4 = u33 ∧ f664 5 = (Value.int .i64 (k39 : Int)) ∧ f664 6 = u65 ∧ f664 13 = v_r_Table ∧ f664 14 = (Value.int .i64 ((r_Table).length : Int)) ∧ f664 15 = (Value.int .i64 (k12 : Int)) ∧ f664 21 = v_r_Table ∧ f664 22 = (Value.int .i64 ((r_Table).length : Int)) ∧ f664 23 = (Value.int .i64 (k39 : Int)) ∧ f664 30 = (Value.int .i64 ((r_Table).length : Int)) ∧ f664 31 = (Value.int .i64 (k71 : Int)) ∧ St wd2 wd665 [] := hq666
                obtain ⟨hf668, hf669, hf670, hf671, hf672, hf673, hf674, hf675, hf676, hf677, hf678, hf679, hf680, hS681⟩ := hq666
                show W _ _ _ _ _ _
                refine W.region ?_
                refine WL.val (Value.int .i64 (w64 ((k71 : Int) + (1 : Int)))) _ (op_add hf680 rfl) rfl ?_
                refine WL.val (Value.int .i64 (w64 ((k71 : Int) + (1 : Int)))) _ (op_move rfl) rfl ?_
                refine WL.nil ?_
                obtain rfl := Option.some.inj hb76
                show ∃ s, _ = Ctl.next s ∧ _
                exact ⟨_, rfl, hf668, hf669, hf670, hf671, hf672, hf673, hf674, hf675, hf676, hf677, hf678, hf679, (ctr_next hl95 hr68), (ctr_rng hl95 hr68), hS681⟩
            · intro s688 f684 wd685 hs686 hI687
              obtain ⟨⟩ := s688
              replace hI687 : f684 1 = (Value.pointer (some ⟨b1, 0, none⟩)) ∧ f684 3 = (Value.int .i64 (k12 : Int)) ∧ f684 4 = u33 ∧ f684 5 = (Value.int .i64 (k39 : Int)) ∧ f684 6 = u65 ∧ f684 13 = v_r_Table ∧ f684 14 = (Value.int .i64 ((r_Table).length : Int)) ∧ f684 15 = (Value.int .i64 (k12 : Int)) ∧ f684 21 = v_r_Table ∧ f684 22 = (Value.int .i64 ((r_Table).length : Int)) ∧ f684 23 = (Value.int .i64 (k39 : Int)) ∧ f684 30 = (Value.int .i64 ((r_Table).length : Int)) ∧ f684 31 = Value.int .i64 (((r_Table).length : Nat) : Int) ∧ InR .i64 (((r_Table).length : Nat) : Int) ∧ St wd2 wd685 [] := hI687
              obtain ⟨hf689, hf690, hf691, hf692, hf693, hf694, hf695, hf696, hf697, hf698, hf699, hf700, hf701, hr702, hS703⟩ := hI687
              refine W.seq ?_
              refine W.region ?_
              refine WL.val (Value.bool (decide ((((r_Table).length : Nat) : Int) < ((r_Table).length : Int)))) _ (op_lss hf701 hf700) rfl ?_
              have hl704 : ¬ (((r_Table).length : Nat) : Int) < ((r_Table).length : Int) := by omega
              refine WL.nil ?_
              show W _ _ _ _ _ _
              refine W.seq ?_
              refine W.condF (decide ((((r_Table).length : Nat) : Int) < ((r_Table).length : Int))) rfl (decide_eq_false hl704) ?_
              refine W.exit ?_
              show _ = _ ∧ _
              exact ⟨rfl, _, hs686, hf689, hf690, hf691, hf694, hf695, hf696, hf697, hf698, hf699, hS703⟩
          · rintro f705 wd706 ⟨s708, rfl, hq707⟩
            replace hb44 := onRes_fin hb44
            obtain ⟨⟩ := s708
            replace hq707 : f705 1 = (Value.pointer (some ⟨b1, 0, none⟩)) ∧ f705 3 = (Value.int .i64 (k12 : Int)) ∧ f705 4 = u33 ∧ f705 13 = v_r_Table ∧ f705 14 = (Value.int .i64 ((r_Table).length : Int)) ∧ f705 15 = (Value.int .i64 (k12 : Int)) ∧ f705 21 = v_r_Table ∧ f705 22 = (Value.int .i64 ((r_Table).length : Int)) ∧ f705 23 = (Value.int .i64 (k39 : Int)) ∧ St wd2 wd706 [] := hq707
            obtain ⟨hf709, hf710, hf711, hf712, hf713, hf714, hf715, hf716, hf717, hS718⟩ := hq707
            show W _ _ _ _ _ _
            refine W.region ?_
            refine WL.val (Value.int .i64 (w64 ((k39 : Int) + (1 : Int)))) _ (op_add hf717 rfl) rfl ?_
            refine WL.val (Value.int .i64 (w64 ((k39 : Int) + (1 : Int)))) _ (op_move rfl) rfl ?_
            refine WL.nil ?_
            obtain rfl := Option.some.inj hb44
            show ∃ s, _ = Ctl.next s ∧ _
            exact ⟨_, rfl, hf709, hf710, hf711, hf712, hf713, hf714, hf715, hf716, (ctr_next hl59 hr36), (ctr_rng hl59 hr36), hS718⟩
        · intro s725 f721 wd722 hs723 hI724
          obtain ⟨⟩ := s725
          replace hI724 : f721 1 = (Value.pointer (some ⟨b1, 0, none⟩)) ∧ f721 3 = (Value.int .i64 (k12 : Int)) ∧ f721 4 = u33 ∧ f721 13 = v_r_Table ∧ f721 14 = (Value.int .i64 ((r_Table).length : Int)) ∧ f721 15 = (Value.int .i64 (k12 : Int)) ∧ f721 21 = v_r_Table ∧ f721 22 = (Value.int .i64 ((r_Table).length : Int)) ∧ f721 23 = Value.int .i64 (((r_Table).length : Nat) : Int) ∧ InR .i64 (((r_Table).length : Nat) : Int) ∧ St wd2 wd722 [] := hI724
          obtain ⟨hf726, hf727, hf728, hf729, hf730, hf731, hf732, hf733, hf734, hr735, hS736⟩ := hI724
          refine W.seq ?_
          refine W.region ?_
          refine WL.val (Value.bool (decide ((((r_Table).length : Nat) : Int) < ((r_Table).length : Int)))) _ (op_lss hf734 hf733) rfl ?_
          have hl737 : ¬ (((r_Table).length : Nat) : Int) < ((r_Table).length : Int) := by omega
          refine WL.nil ?_
          show W _ _ _ _ _ _
          refine W.seq ?_
          refine W.condF (decide ((((r_Table).length : Nat) : Int) < ((r_Table).length : Int))) rfl (decide_eq_false hl737) ?_
          refine W.exit ?_
          show _ = _ ∧ _
          exact ⟨rfl, _, hs723, hf726, hf729, hf730, hf731, hS736⟩
      · rintro f738 wd739 ⟨s741, rfl, hq740⟩
        replace hb17 := onRes_fin hb17
        obtain ⟨⟩ := s741
        replace hq740 : f738 1 = (Value.pointer (some ⟨b1, 0, none⟩)) ∧ f738 13 = v_r_Table ∧ f738 14 = (Value.int .i64 ((r_Table).length : Int)) ∧ f738 15 = (Value.int .i64 (k12 : Int)) ∧ St wd2 wd739 [] := hq740
        obtain ⟨hf742, hf743, hf744, hf745, hS746⟩ := hq740
        show W _ _ _ _ _ _
        refine W.region ?_
        refine WL.val (Value.int .i64 (w64 ((k12 : Int) + (1 : Int)))) _ (op_add hf745 rfl) rfl ?_
        refine WL.val (Value.int .i64 (w64 ((k12 : Int) + (1 : Int)))) _ (op_move rfl) rfl ?_
        refine WL.nil ?_
        obtain rfl := Option.some.inj hb17
        show ∃ s, _ = Ctl.next s ∧ _
        exact ⟨_, rfl, hf742, hf743, hf744, (ctr_next hl27 hr9), (ctr_rng hl27 hr9), hS746⟩
    · intro s753 f749 wd750 hs751 hI752
      obtain ⟨⟩ := s753
      replace hI752 : f749 1 = (Value.pointer (some ⟨b1, 0, none⟩)) ∧ f749 13 = v_r_Table ∧ f749 14 = (Value.int .i64 ((r_Table).length : Int)) ∧ f749 15 = Value.int .i64 (((r_Table).length : Nat) : Int) ∧ InR .i64 (((r_Table).length : Nat) : Int) ∧ St wd2 wd750 [] := hI752
      obtain ⟨hf754, hf755, hf756, hf757, hr758, hS759⟩ := hI752
      refine W.seq ?_
      refine W.region ?_
      refine WL.val (Value.bool (decide ((((r_Table).length : Nat) : Int) < ((r_Table).length : Int)))) _ (op_lss hf757 hf756) rfl ?_
      have hl760 : ¬ (((r_Table).length : Nat) : Int) < ((r_Table).length : Int) := by omega
      refine WL.nil ?_
      show W _ _ _ _ _ _
      refine W.seq ?_
      refine W.condF (decide ((((r_Table).length : Nat) : Int) < ((r_Table).length : Int))) rfl (decide_eq_false hl760) ?_
      refine W.exit ?_
      show _ = _ ∧ _
      exact ⟨rfl, _, hs751, hS759⟩
  · rintro f761 wd762 ⟨s764, rfl, hq763⟩
    replace h := onRes_fin h
    obtain ⟨⟩ := s764
    replace hq763 : St wd2 wd762 [] := hq763
    have hS765 := hq763
    show W _ _ _ _ _ _
    refine W.seq ?_
    refine W.region ?_
    refine WL.val (Value.slice none 0 0) _ (op_assign rfl) rfl ?_
    refine WL.nil ?_
    show W _ _ _ _ _ _
    refine W.ret ?_
    obtain rfl := Option.some.inj h
    show FinP _ _ _ _ _ _ _
    exact FinP.ret _ (res1 rfl rfl) ⟨(Value.slice none 0 0), rfl, (fun _ => ⟨0, 0, rfl⟩), (Ext.trans hE7 hS765.ext), (St.out (St.pick (St.addNil (Ty.i .i64) hS765) [0] rfl) (hE7))⟩

theorem c_impl_Ring_fault {w : World} {r_Table : (List (List (List Int)))} {v_r_Table : Value} (r_r_Table : (Ty.sl (Ty.sl (Ty.sl (Ty.i .i64)))).rep w v_r_Table r_Table) {res : (List Int)} (h : p_impl_Ring_fault r_Table  = some res) :
    Ret Try.prog 121 #[(Value.agg #[v_r_Table])] w (fun v w' => ∃ (u0 : Value), v = u0 ∧ NilIff u0 res ∧ Ext w w' ∧ Sep w.heap.size w' [(Ty.sl (Ty.i .i64)).at u0 res]) := by
  unfold p_impl_Ring_fault at h
  have hS0 : St w w [] := St.start w
  refine Ret.start (fn := Try.f121) Try.func121 rfl 24 rfl rfl ?_
  refine W.seq ?_
  refine W.region ?_
  refine WL.box hS0 rfl (cs := [v_r_Table]) rfl rfl ?_
  intro b1 wd2 hS3 he4 hx5
  replace hS3 : St w wd2 [bx b1 [v_r_Table]] := hS3
  have hx6 := St.boxAt hS3 0 rfl
  have hE7 : Ext w wd2 := hS3.ext
  have hS8 : St wd2 wd2 [] := St.start wd2
  refine WL.val (Value.slice none 0 0) _ (op_assign rfl) rfl ?_
  refine WL.nil ?_
  show W _ _ _ _ _ _
  refine W.seq ?_
  refine W.seq ?_
  refine W.region ?_
  refine WL.val (Value.agg #[v_r_Table]) _ (op_loadBox st_27 rfl (BoxAt.lift hS8.ext hx6) rfl rfl) rfl ?_
  obtain ⟨x9, hx10, h⟩ := bs h
  refine WL.call _ (op_call fn_142 (args1 rfl)) (c_impl_Ring_unitFault (Ty.lift _ (Ext.trans hE7 hS8.ext) r_r_Table) hx10) rfl ?_
  rintro u11 wd13 ⟨_, rfl, hn12, he14, hs15⟩
  have hS16 := St.join hS8 he14 hs15
  replace hS16 : St wd2 wd13 [(Ty.sl (Ty.i .i64)).at u11 x9] := hS16
  refine WL.val u11 _ (op_assign rfl) rfl ?_
  refine WL.nil ?_
  show W _ _ _ _ _ _
  refine W.seq ?_
  refine W.region ?_
  refine WL.val u11 _ (op_move rfl) rfl ?_
  refine WL.val (Value.bool (!(x9).isEmpty)) _ (op_neqNilL sl_23 (St.rep (t := (Ty.sl (Ty.i .i64))) hS16 0 rfl) hn12 rfl rfl) rfl ?_
  refine WL.nil ?_
  show W _ _ _ _ _ _
  refine W.cond (!(x9).isEmpty) rfl (fun hc17 => ?_) (fun hc17 => ?_)
  · replace h := ip h hc17
    refine W.seq ?_
    refine W.region ?_
    refine WL.val u11 _ (op_move rfl) rfl ?_
    refine WL.val u11 _ (op_assign rfl) rfl ?_
    refine WL.nil ?_
    show W _ _ _ _ _ _
    refine W.ret ?_
    obtain rfl := Option.some.inj h
    show FinP _ _ _ _ _ _ _
    exact FinP.ret _ (res1 rfl rfl) ⟨u11, rfl, hn12, (Ext.trans hE7 hS16.ext), (St.out (St.pick hS16 [0] rfl) (hE7))⟩
  · replace h := inegb h hc17
    refine W.skip ?_
    show W _ _ _ _ _ _
    refine W.seq ?_
    refine W.seq ?_
    refine W.region ?_
    refine WL.val (Value.agg #[v_r_Table]) _ (op_loadBox st_27 rfl (BoxAt.lift hS16.ext hx6) rfl rfl) rfl ?_
    obtain ⟨x19, hx20, h⟩ := bs h
    refine WL.call _ (op_call fn_143 (args1 rfl)) (c_impl_Ring_dualFault (Ty.lift _ (Ext.trans hE7 hS16.ext) r_r_Table) hx20) rfl ?_
    rintro _ wd22 ⟨rfl, hr21, he23⟩
    have hS25 := St.extend hS16 he23
    replace hS25 : St wd2 wd22 [(Ty.sl (Ty.i .i64)).at u11 x9] := hS25
    refine WL.val (Value.int .i64 x19) _ (op_assign rfl) rfl ?_
    refine WL.nil ?_
    show W _ _ _ _ _ _
    refine W.seq ?_
    refine W.region ?_
    refine WL.val (Value.int .i64 x19) _ (op_move rfl) rfl ?_
    refine WL.val (Value.bool (decide (x19 ≥ (0 : Int)))) _ (op_geq rfl rfl) rfl ?_
    refine WL.nil ?_
    show W _ _ _ _ _ _
    refine W.cond (decide (x19 ≥ (0 : Int))) rfl (fun hc26 => ?_) (fun hc26 => ?_)
    · replace h := ip h hc26
      refine W.seq ?_
      refine W.region ?_
      refine WL.val (Value.int .i64 x19) _ (op_move rfl) rfl ?_
      refine WL.litFlat (t := (Ty.i .i64)) (flat_i .i64) [(Value.int .i64 (1 : Int)), (Value.int .i64 x19)] [(1 : Int), x19] hS25 sl_23 rfl rfl (fillL rfl ⟨rfl, rfl, rfl, rfl, rfl, rfl, trivial⟩) rfl rfl (litL ⟨⟨rfl, (inR_i64.2 (show (-9223372036854775808 : Int) ≤ 1 ∧ (1 : Int) ≤ 9223372036854775807 from by decide))⟩, ⟨rfl, hr21⟩, trivial⟩) rfl ?_
      intro u28 wd29 hS30 he31
      replace hS30 : St wd2 wd29 [(Ty.sl (Ty.i .i64)).at u11 x9, (Ty.sl (Ty.i .i64)).at u28 ([(1 : Int), x19] : (List Int))] := hS30
      refine WL.val u28 _ (op_assign rfl) rfl ?_
      refine WL.nil ?_
      show W _ _ _ _ _ _
      refine W.ret ?_
      obtain rfl := Option.some.inj h
      show FinP _ _ _ _ _ _ _
      exact FinP.ret _ (res1 rfl rfl) ⟨u28, rfl, (nil_cons), (Ext.trans hE7 hS30.ext), (St.out (St.pick hS30 [1] rfl) (hE7))⟩
    · replace h := inegb h hc26
      refine W.skip ?_
      show W _ _ _ _ _ _
      refine W.seq ?_
      refine W.seq ?_
      refine W.region ?_
      refine WL.val (Value.agg #[v_r_Table]) _ (op_loadBox st_27 rfl (BoxAt.lift hS25.ext hx6) rfl rfl) rfl ?_
      obtain ⟨x32, hx33, h⟩ := bs h
      refine WL.call _ (op_call fn_144 (args1 rfl)) (c_impl_Ring_turnFault (Ty.lift _ (Ext.trans hE7 hS25.ext) r_r_Table) hx33) rfl ?_
      rintro u34 wd36 ⟨_, rfl, hn35, he37, hs38⟩
      have hS39 := St.join hS25 he37 hs38
      replace hS39 : St wd2 wd36 [(Ty.sl (Ty.i .i64)).at u11 x9, (Ty.sl (Ty.i .i64)).at u34 x32] := hS39
      refine WL.val u34 _ (op_assign rfl) rfl ?_
      refine WL.nil ?_
      show W _ _ _ _ _ _
      refine W.seq ?_
      refine W.region ?_
      refine WL.val u34 _ (op_move rfl) rfl ?_
      refine WL.val (Value.bool (!(x32).isEmpty)) _ (op_neqNilL sl_23 (St.rep (t := (Ty.sl (Ty.i .i64))) hS39 1 rfl) hn35 rfl rfl) rfl ?_
      refine WL.nil ?_
      show W _ _ _ _ _ _
      refine W.cond (!(x32).isEmpty) rfl (fun hc40 => ?_) (fun hc40 => ?_)
      · replace h := ip h hc40
        refine W.seq ?_
        refine W.region ?_
        refine WL.val u34 _ (op_move rfl) rfl ?_
        refine WL.val u34 _ (op_assign rfl) rfl ?_
        refine WL.nil ?_
        show W _ _ _ _ _ _
        refine W.ret ?_
        obtain rfl := Option.some.inj h
        show FinP _ _ _ _ _ _ _
        exact FinP.ret _ (res1 rfl rfl) ⟨u34, rfl, hn35, (Ext.trans hE7 hS39.ext), (St.out (St.pick hS39 [1] rfl) (hE7))⟩
      · replace h := inegb h hc40
        refine W.skip ?_
        show W _ _ _ _ _ _
        refine W.seq ?_
        refine W.region ?_
        refine WL.val (Value.agg #[v_r_Table]) _ (op_loadBox st_27 rfl (BoxAt.lift hS39.ext hx6) rfl rfl) rfl ?_
        obtain ⟨x42, hx43, h⟩ := bs h
        refine WL.call _ (op_call fn_145 (args1 rfl)) (c_impl_Ring_bracketFault (Ty.lift _ (Ext.trans hE7 hS39.ext) r_r_Table) hx43) rfl ?_
        rintro u44 wd46 ⟨_, rfl, hn45, he47, hs48⟩
        have hS49 := St.join hS39 he47 hs48
        replace hS49 : St wd2 wd46 [(Ty.sl (Ty.i .i64)).at u11 x9, (Ty.sl (Ty.i .i64)).at u34 x32, (Ty.sl (Ty.i .i64)).at u44 x42] := hS49
        refine WL.val u44 _ (op_assign rfl) rfl ?_
        refine WL.nil ?_
        show W _ _ _ _ _ _
        refine W.ret ?_
        obtain rfl := Option.some.inj h
        show FinP _ _ _ _ _ _ _
        exact FinP.ret _ (res1 rfl rfl) ⟨u44, rfl, hn45, (Ext.trans hE7 hS49.ext), (St.out (St.pick hS49 [2] rfl) (hE7))⟩

theorem c_impl_IsRing {w : World} {r_Table : (List (List (List Int)))} {v_r_Table : Value} (r_r_Table : (Ty.sl (Ty.sl (Ty.sl (Ty.i .i64)))).rep w v_r_Table r_Table) {res : Bool} (h : p_impl_IsRing r_Table  = some res) :
    Ret Try.prog 69 #[(Value.agg #[v_r_Table])] w (fun v w' => v = Value.bool res ∧ Ext w w') := by
  unfold p_impl_IsRing at h
  have hS0 : St w w [] := St.start w
  refine Ret.start (fn := Try.f69) Try.func69 rfl 10 rfl rfl ?_
  refine W.seq ?_
  refine W.region ?_
  refine WL.box hS0 rfl (cs := [v_r_Table]) rfl rfl ?_
  intro b1 wd2 hS3 he4 hx5
  replace hS3 : St w wd2 [bx b1 [v_r_Table]] := hS3
  have hx6 := St.boxAt hS3 0 rfl
  have hE7 : Ext w wd2 := hS3.ext
  have hS8 : St wd2 wd2 [] := St.start wd2
  refine WL.val (Value.bool false) _ (op_assign rfl) rfl ?_
  refine WL.nil ?_
  show W _ _ _ _ _ _
  refine W.seq ?_
  refine W.region ?_
  refine WL.val (Value.agg #[v_r_Table]) _ (op_loadBox st_27 rfl (BoxAt.lift hS8.ext hx6) rfl rfl) rfl ?_
  obtain ⟨x9, hx10, h⟩ := bs h
  refine WL.call _ (op_call fn_120 (args1 rfl)) (c_impl_isCube (Ty.lift _ (Ext.trans hE7 hS8.ext) r_r_Table) hx10) rfl ?_
  rintro _ wd11 ⟨rfl, he12⟩
  have hS14 := St.extend hS8 he12
  replace hS14 : St wd2 wd11 [] := hS14
  refine WL.val (Value.bool x9) _ (op_move rfl) rfl ?_
  obtain ⟨x16, hj17, h⟩ := bs h
  refine WL.cut 4 (fun fq wq => fq 9 = Value.bool x16 ∧ St wd2 wq []) ?_ ?_
  · rcases Bool.eq_false_or_eq_true x9 with hc15 | hc15
    · replace hj17 := ip hj17 hc15
      refine WL.grun rfl (bool_of rfl hc15) ?_
      refine WL.val (Value.agg #[v_r_Table]) _ (op_loadBox st_27 rfl (BoxAt.lift hS14.ext hx6) rfl rfl) rfl ?_
      refine WL.grun rfl (bool_of rfl hc15) ?_
      obtain ⟨x21, hx22, hj17⟩ := bs hj17
      refine WL.call _ (op_call fn_121 (args1 rfl)) (c_impl_Ring_fault (Ty.lift _ (Ext.trans hE7 hS14.ext) r_r_Table) hx22) rfl ?_
      rintro u23 wd25 ⟨_, rfl, hn24, he26, hs27⟩
      have hS28 := St.join hS14 he26 hs27
      replace hS28 : St wd2 wd25 [(Ty.sl (Ty.i .i64)).at u23 x21] := hS28
      refine WL.grun rfl (bool_of rfl hc15) ?_
      refine WL.val (Value.bool (x21).isEmpty) _ (op_eqlNilL sl_23 (St.rep (t := (Ty.sl (Ty.i .i64))) hS28 0 rfl) hn24 rfl rfl) rfl ?_
      refine WL.val (Value.bool (x21).isEmpty) _ (op_pick_t (evb_of rfl hc15) rfl) rfl ?_
      refine WL.nil ?_
      obtain rfl := Option.some.inj hj17
      exact ⟨rfl, rfl, (St.pick hS28 [] rfl)⟩
    · replace hj17 := inegb hj17 hc15
      refine WL.gskip rfl (bool_of rfl hc15) rfl ?_
      refine WL.gskip rfl (bool_of rfl hc15) rfl ?_
      refine WL.gskip rfl (bool_of rfl hc15) rfl ?_
      refine WL.val (Value.bool false) _ (op_pick_f (evb_of rfl hc15) rfl) rfl ?_
      refine WL.nil ?_
      obtain rfl := Option.some.inj hj17
      exact ⟨rfl, rfl, hS14⟩
  · intro f18 wd19 hq20
    obtain ⟨hf29, hS30⟩ := hq20
    refine WL.val (Value.bool x16) _ (op_assign hf29) rfl ?_
    refine WL.nil ?_
    show W _ _ _ _ _ _
    refine W.ret ?_
    obtain rfl := Option.some.inj h
    show FinP _ _ _ _ _ _ _
    exact FinP.ret _ (res1 rfl rfl) ⟨rfl, (Ext.trans hE7 hS30.ext)⟩

theorem c_slices_Clone_Lint64_int64 {w : World} {s1 : (List Int)} {v_s1 : Value} (r_s1 : (Ty.sl (Ty.i .i64)).rep w v_s1 s1) {res : (List Int)} (h : p_slices_Clone_Lint64_int64 s1  = some res) :
    Ret Try.prog 108 #[v_s1] w (fun v w' => ∃ (u0 : Value), v = u0 ∧ Ext w w' ∧ Sep w.heap.size w' [(Ty.sl (Ty.i .i64)).at u0 res]) := by
  unfold p_slices_Clone_Lint64_int64 at h
  have hS0 : St w w [] := St.start w
  obtain ⟨p0, c0, hv0, hl10, hl20, hp0, hel0⟩ := id r_s1
  refine Ret.start (fn := Try.f108) Try.func108 rfl 8 rfl rfl ?_
  refine W.seq ?_
  refine W.region ?_
  refine WL.val (Value.slice none 0 0) _ (op_assign rfl) rfl ?_
  refine WL.nil ?_
  show W _ _ _ _ _ _
  refine W.seq ?_
  refine W.seq ?_
  refine W.region ?_
  refine WL.val v_s1 _ (op_move rfl) rfl ?_
  refine WL.val (Value.bool p0.isNone) _ (op_eqlNil (Eq.trans rfl hv0) rfl sl_23.1) rfl ?_
  refine WL.nil ?_
  show W _ _ _ _ _ _
  refine W.cond p0.isNone rfl (fun hc1 => ?_) (fun hc1 => ?_)
  · obtain rfl : p0 = none := by cases p0 <;> simp_all
    obtain rfl : s1 = [] := Classical.byContradiction fun hn => hp0 hn rfl
    simp [appL] at h
    subst h
    refine W.seq ?_
    refine W.region ?_
    refine WL.val (Value.slice none 0 0) _ (op_assign rfl) rfl ?_
    refine WL.nil ?_
    show W _ _ _ _ _ _
    refine W.ret ?_
    show FinP _ _ _ _ _ _ _
    exact FinP.ret _ (res1 rfl rfl) ⟨(Value.slice none 0 0), rfl, hS0.ext, (St.out (St.pick (St.addNil (Ty.i .i64) hS0) [0] rfl) (Ext.refl _))⟩
  · refine W.skip ?_
    show W _ _ _ _ _ _
    refine W.seq ?_
    refine W.region ?_
    refine WL.lit0 (t := (Ty.i .i64)) hS0 sl_23 rfl rfl ?_
    intro u2 wd3 hS4 he5
    replace hS4 : St w wd3 [(Ty.sl (Ty.i .i64)).at u2 ([] : (List Int))] := hS4
    refine WL.val v_s1 _ (op_move rfl) rfl ?_
    obtain ⟨x6, hx7, h⟩ := bs h
    refine WL.append (flat_i .i64) hS4 (k := 0) rfl sl_23 rfl rfl rfl rfl (Ty.lift _ hS4.ext r_s1) hx7 rfl ?_
    intro u8 wd9 hS10 hz11
    replace hS10 : St w wd9 [(Ty.sl (Ty.i .i64)).at u8 x6] := hS10
    refine WL.val u8 _ (op_assign rfl) rfl ?_
    refine WL.nil ?_
    show W _ _ _ _ _ _
    refine W.ret ?_
    obtain rfl := Option.some.inj h
    show FinP _ _ _ _ _ _ _
    exact FinP.ret _ (res1 rfl rfl) ⟨u8, rfl, hS10.ext, (St.out (St.pick hS10 [0] rfl) (Ext.refl _))⟩

theorem c_impl_Ring_opposite {w : World} {r_Table : (List (List (List Int)))} {v_r_Table : Value} (r_r_Table : (Ty.sl (Ty.sl (Ty.sl (Ty.i .i64)))).rep w v_r_Table r_Table) {res : (List (List (List Int)))} (h : p_impl_Ring_opposite r_Table  = some res) :
    Ret Try.prog 123 #[(Value.agg #[v_r_Table])] w (fun v w' => ∃ (u0 : Value), v = (Value.agg #[u0]) ∧ Ext w w' ∧ Sep w.heap.size w' [(Ty.sl (Ty.sl (Ty.sl (Ty.i .i64)))).at u0 res]) := by
  unfold p_impl_Ring_opposite at h
  have hS0 : St w w [] := St.start w
  refine Ret.start (fn := Try.f123) Try.func123 rfl 42 rfl rfl ?_
  refine W.seq ?_
  refine W.region ?_
  refine WL.box hS0 rfl (cs := [v_r_Table]) rfl rfl ?_
  intro b1 wd2 hS3 he4 hx5
  replace hS3 : St w wd2 [bx b1 [v_r_Table]] := hS3
  have hx6 := St.boxAt hS3 0 rfl
  have hE7 : Ext w wd2 := hS3.ext
  have hS8 : St wd2 wd2 [] := St.start wd2
  refine WL.alloc hS8 ze_27 (cs := [(Value.slice none 0 0)]) rfl rfl ?_
  intro b9 wd10 hS11 he12
  replace hS11 : St wd2 wd10 [bx b9 [(Value.slice none 0 0)]] := hS11
  refine WL.nil ?_
  show W _ _ _ _ _ _
  refine W.seq ?_
  refine W.region ?_
  refine WL.val (Value.agg #[(Value.slice none 0 0)]) _ (op_build bd_27 (parts := []) (partsL trivial) trivial rfl) rfl ?_
  refine WL.alloc hS11 ze_27 (cs := [(Value.slice none 0 0)]) rfl rfl ?_
  intro b13 wd14 hS15 he16
  replace hS15 : St wd2 wd14 [bx b9 [(Value.slice none 0 0)], bx b13 [(Value.slice none 0 0)]] := hS15
  have hS19 := St.addNil (Ty.sl (Ty.sl (Ty.i .i64))) hS15
  replace hS19 : St wd2 wd14 [bx b9 [(Value.slice none 0 0)], bx b13 [(Value.slice none 0 0)], (Ty.sl (Ty.sl (Ty.sl (Ty.i .i64)))).at (Value.slice none 0 0) ([] : (List (List (List Int))))] := hS19
  refine WL.storeBox [(Value.slice none 0 0)] hS19 (k := 1) rfl rfl rfl (us := [(Value.slice none 0 0)]) rfl sz_27 rfl rfl (all_rep (St.rep (t := (Ty.sl (Ty.sl (Ty.sl (Ty.i .i64))))) hS19 2 rfl) all_nil) rfl ?_
  intro wd17 hS18
  replace hS18 : St wd2 wd17 [bx b9 [(Value.slice none 0 0)], bx b13 [(Value.slice none 0 0)], (Ty.sl (Ty.sl (Ty.sl (Ty.i .i64)))).at (Value.slice none 0 0) ([] : (List (List (List Int))))] := hS18
  refine WL.nil ?_
  show W _ _ _ _ _ _
  refine W.seq ?_
  refine W.seq ?_
  refine W.region ?_
  refine WL.val (Value.pointer (some ⟨b1, 0, none⟩)) _ (op_fieldAddr fd_27_0 rfl) rfl ?_
  refine WL.val v_r_Table _ (op_load one_25 rfl (BoxAt.cell (BoxAt.lift hS18.ext hx6) rfl)) rfl ?_
  have hr20 := inR_len (Ty.lift _ (Ext.trans hE7 hS18.ext) r_r_Table)
  refine WL.val (Value.int .i64 ((r_Table).length : Int)) _ (op_lenL sl_25 (Ty.lift _ (Ext.trans hE7 hS18.ext) r_r_Table) rfl) rfl ?_
  refine WL.val (Value.int .i64 (0 : Int)) _ (op_move rfl) rfl ?_
  refine WL.nil ?_
  show W _ _ _ _ _ _
  obtain ⟨res21, hres22, h⟩ := bs h
  refine W.blockLoop (fun fq wq => ∃ s, res21 = Res.fin s ∧ ∃ (uu0 : Value), fq 2 = (Value.pointer (some ⟨b9, 0, none⟩)) ∧ fq 3 = (Value.pointer (some ⟨b13, 0, none⟩)) ∧ St wd2 wq [bx b9 [(Value.slice none 0 0)], bx b13 [uu0], (Ty.sl (Ty.sl (Ty.sl (Ty.i .i64)))).at uu0 s]) ?_ ?_
  · refine W.forN (fun k (s : (List (List (List Int)))) fq wq => ∃ (uu0 : Value), fq 1 = (Value.pointer (some ⟨b1, 0, none⟩)) ∧ fq 2 = (Value.pointer (some ⟨b9, 0, none⟩)) ∧ fq 3 = (Value.pointer (some ⟨b13, 0, none⟩)) ∧ fq 10 = (Value.int .i64 ((r_Table).length : Int)) ∧ fq 11 = Value.int .i64 (k : Int) ∧ InR .i64 (k : Int) ∧ St wd2 wq [bx b9 [(Value.slice none 0 0)], bx b13 [uu0], (Ty.sl (Ty.sl (Ty.sl (Ty.i .i64)))).at uu0 s]) hres22 ⟨(Value.slice none 0 0), rfl, rfl, rfl, rfl, rfl, (inR_i64.2 (show (-9223372036854775808 : Int) ≤ 0 ∧ (0 : Int) ≤ 9223372036854775807 from by decide)), hS18⟩ ?_ ?_
    · intro k23 x24 ct25 f26 wd27 hk28 hb29 hI30 hbrk31 hret32
      replace hI30 : ∃ (uu0 : Value), f26 1 = (Value.pointer (some ⟨b1, 0, none⟩)) ∧ f26 2 = (Value.pointer (some ⟨b9, 0, none⟩)) ∧ f26 3 = (Value.pointer (some ⟨b13, 0, none⟩)) ∧ f26 10 = (Value.int .i64 ((r_Table).length : Int)) ∧ f26 11 = Value.int .i64 (k23 : Int) ∧ InR .i64 (k23 : Int) ∧ St wd2 wd27 [bx b9 [(Value.slice none 0 0)], bx b13 [uu0], (Ty.sl (Ty.sl (Ty.sl (Ty.i .i64)))).at uu0 x24] := hI30
      replace hb29 : p_impl_Ring_opposite_L1 r_Table k23 x24 = some ct25 := hb29
      unfold p_impl_Ring_opposite_L1 at hb29
      obtain ⟨u33, hf34, hf35, hf36, hf37, hf38, hr39, hS40⟩ := hI30
      refine W.seq ?_
      refine W.region ?_
      refine WL.val (Value.bool (decide ((k23 : Int) < ((r_Table).length : Int)))) _ (op_lss hf38 hf37) rfl ?_
      have hl41 : (k23 : Int) < ((r_Table).length : Int) := by omega
      refine WL.nil ?_
      show W _ _ _ _ _ _
      refine W.seq ?_
      refine W.condT (decide ((k23 : Int) < ((r_Table).length : Int))) rfl (decide_eq_true hl41) ?_
      refine W.skip ?_
      show W _ _ _ _ _ _
      refine W.seq ?_
      refine W.block ?_
      refine W.seq ?_
      refine W.region ?_
      refine WL.val (Value.int .i64 (k23 : Int)) _ (op_move hf38) rfl ?_
      refine WL.val (Value.int .i64 (k23 : Int)) _ (op_assign rfl) rfl ?_
      refine WL.nil ?_
      show W _ _ _ _ _ _
      refine W.seq ?_
      refine W.region ?_
      refine WL.lit0 (t := (Ty.sl (Ty.i .i64))) hS40 sl_22 rfl rfl ?_
      intro u43 wd44 hS45 he46
      replace hS45 : St wd2 wd44 [bx b9 [(Value.slice none 0 0)], bx b13 [u33], (Ty.sl (Ty.sl (Ty.sl (Ty.i .i64)))).at u33 x24, (Ty.sl (Ty.sl (Ty.i .i64))).at u43 ([] : (List (List Int)))] := hS45
      refine WL.val u43 _ (op_assign rfl) rfl ?_
      refine WL.nil ?_
      show W _ _ _ _ _ _
      refine W.seq ?_
      refine W.seq ?_
      refine W.region ?_
      refine WL.val (Value.pointer (some ⟨b1, 0, none⟩)) _ (op_fieldAddr fd_27_0 hf34) rfl ?_
      refine WL.val v_r_Table _ (op_load one_25 rfl (BoxAt.cell (BoxAt.lift hS45.ext hx6) rfl)) rfl ?_
      have hr47 := inR_len (Ty.lift _ (Ext.trans hE7 hS45.ext) r_r_Table)
      refine WL.val (Value.int .i64 ((r_Table).length : Int)) _ (op_lenL sl_25 (Ty.lift _ (Ext.trans hE7 hS45.ext) r_r_Table) rfl) rfl ?_
      refine WL.val (Value.int .i64 (0 : Int)) _ (op_move rfl) rfl ?_
      refine WL.nil ?_
      show W _ _ _ _ _ _
      obtain ⟨res48, hres49, hb29⟩ := bs hb29
      refine W.blockLoop (fun fq wq => ∃ s, res48 = Res.fin s ∧ ∃ (uu0 : Value), fq 1 = (Value.pointer (some ⟨b1, 0, none⟩)) ∧ fq 2 = (Value.pointer (some ⟨b9, 0, none⟩)) ∧ fq 3 = (Value.pointer (some ⟨b13, 0, none⟩)) ∧ fq 5 = uu0 ∧ fq 10 = (Value.int .i64 ((r_Table).length : Int)) ∧ fq 11 = (Value.int .i64 (k23 : Int)) ∧ St wd2 wq [bx b9 [(Value.slice none 0 0)], bx b13 [u33], (Ty.sl (Ty.sl (Ty.sl (Ty.i .i64)))).at u33 x24, (Ty.sl (Ty.sl (Ty.i .i64))).at uu0 s]) ?_ ?_
      · refine W.forN (fun k (s : (List (List Int))) fq wq => ∃ (uu0 : Value), fq 1 = (Value.pointer (some ⟨b1, 0, none⟩)) ∧ fq 2 = (Value.pointer (some ⟨b9, 0, none⟩)) ∧ fq 3 = (Value.pointer (some ⟨b13, 0, none⟩)) ∧ fq 4 = (Value.int .i64 (k23 : Int)) ∧ fq 5 = uu0 ∧ fq 10 = (Value.int .i64 ((r_Table).length : Int)) ∧ fq 11 = (Value.int .i64 (k23 : Int)) ∧ fq 17 = (Value.int .i64 ((r_Table).length : Int)) ∧ fq 18 = Value.int .i64 (k : Int) ∧ InR .i64 (k : Int) ∧ St wd2 wq [bx b9 [(Value.slice none 0 0)], bx b13 [u33], (Ty.sl (Ty.sl (Ty.sl (Ty.i .i64)))).at u33 x24, (Ty.sl (Ty.sl (Ty.i .i64))).at uu0 s]) hres49 ⟨u43, hf34, hf35, hf36, rfl, rfl, hf37, hf38, rfl, rfl, (inR_i64.2 (show (-9223372036854775808 : Int) ≤ 0 ∧ (0 : Int) ≤ 9223372036854775807 from by decide)), hS45⟩ ?_ ?_
        · intro k50 x51 ct52 f53 wd54 hk55 hb56 hI57 hbrk58 hret59
          replace hI57 : ∃ (uu0 : Value), f53 1 = (Value.pointer (some ⟨b1, 0, none⟩)) ∧ f53 2 = (Value.pointer (some ⟨b9, 0, none⟩)) ∧ f53 3 = (Value.pointer (some ⟨b13, 0, none⟩)) ∧ f53 4 = (Value.int .i64 (k23 : Int)) ∧ f53 5 = uu0 ∧ f53 10 = (Value.int .i64 ((r_Table).length : Int)) ∧ f53 11 = (Value.int .i64 (k23 : Int)) ∧ f53 17 = (Value.int .i64 ((r_Table).length : Int)) ∧ f53 18 = Value.int .i64 (k50 : Int) ∧ InR .i64 (k50 : Int) ∧ St wd2 wd54 [bx b9 [(Value.slice none 0 0)], bx b13 [u33], (Ty.sl (Ty.sl (Ty.sl (Ty.i .i64)))).at u33 x24, (Ty.sl (Ty.sl (Ty.i .i64))).at uu0 x51] := hI57
          replace hb56 : p_impl_Ring_opposite_L2 r_Table k23 k50 x51 = some ct52 := hb56
          unfold p_impl_Ring_opposite_L2 at hb56
          obtain ⟨u60, hf61, hf62, hf63, hf64, hf65, hf66, hf67, hf68, hf69, hr70, hS71⟩ := hI57
          refine W.seq ?_
          refine W.region ?_
          refine WL.val (Value.bool (decide ((k50 : Int) < ((r_Table).length : Int)))) _ (op_lss hf69 hf68) rfl ?_
          have hl72 : (k50 : Int) < ((r_Table).length : Int) := by omega
          refine WL.nil ?_
          show W _ _ _ _ _ _
          refine W.seq ?_
          refine W.condT (decide ((k50 : Int) < ((r_Table).length : Int))) rfl (decide_eq_true hl72) ?_
          refine W.skip ?_
          show W _ _ _ _ _ _
          refine W.seq ?_
          refine W.block ?_
          refine W.seq ?_
          refine W.region ?_
          refine WL.val (Value.int .i64 (k50 : Int)) _ (op_move hf69) rfl ?_
          refine WL.val (Value.int .i64 (k50 : Int)) _ (op_assign rfl) rfl ?_
          refine WL.nil ?_
          show W _ _ _ _ _ _
          refine W.region ?_
          refine WL.val u60 _ (op_move hf65) rfl ?_
          refine WL.val (Value.pointer (some ⟨b1, 0, none⟩)) _ (op_fieldAddr fd_27_0 hf61) rfl ?_
          refine WL.val v_r_Table _ (op_load one_25 rfl (BoxAt.cell (BoxAt.lift hS71.ext hx6) rfl)) rfl ?_
          refine WL.val (Value.int .i64 (k50 : Int)) _ (op_move rfl) rfl ?_
          obtain ⟨x74, hx77, hb56⟩ := bs hb56
          obtain ⟨ha75, hb76, hx77⟩ := idx_some hx77
          refine WL.val (Value.pointer (some (elA v_r_Table ((k50 : Int)).toNat))) _ (op_idx sl_25 (Ty.lift _ (Ext.trans hE7 hS71.ext) r_r_Table) rfl rfl ha75 hb76) rfl ?_
          obtain ⟨u78, hc79, hr80⟩ := repSl.el r_r_Table hx77
          refine WL.val u78 _ (op_load one_22 rfl (Ext.cell (Ext.trans hE7 hS71.ext) hc79)) rfl ?_
          refine WL.val (Value.int .i64 (k23 : Int)) _ (op_move hf64) rfl ?_
          obtain ⟨x81, hx84, hb56⟩ := bs hb56
          obtain ⟨ha82, hb83, hx84⟩ := idx_some hx84
          refine WL.val (Value.pointer (some (elA u78 ((k23 : Int)).toNat))) _ (op_idx sl_22 (Ty.lift _ (Ext.trans hE7 hS71.ext) hr80) rfl rfl ha82 hb83) rfl ?_
          obtain ⟨u85, hc86, hr87⟩ := repSl.el hr80 hx84
          refine WL.val u85 _ (op_load one_23 rfl (Ext.cell (Ext.trans hE7 hS71.ext) hc86)) rfl ?_
          obtain ⟨x88, hx89, hb56⟩ := bs hb56
          refine WL.call _ (op_call fn_108 (args1 rfl)) (c_slices_Clone_Lint64_int64 (Ty.lift _ (Ext.trans hE7 hS71.ext) hr87) hx89) rfl ?_
          rintro u90 wd91 ⟨_, rfl, he92, hs93⟩
          have hS94 := St.join hS71 he92 hs93
          replace hS94 : St wd2 wd91 [bx b9 [(Value.slice none 0 0)], bx b13 [u33], (Ty.sl (Ty.sl (Ty.sl (Ty.i .i64)))).at u33 x24, (Ty.sl (Ty.sl (Ty.i .i64))).at u60 x51, (Ty.sl (Ty.i .i64)).at u90 x88] := hS94
          refine WL.lit [u90] hS94 sl_22 rfl rfl (fillL rfl ⟨rfl, rfl, (cells_rep (St.rep (t := (Ty.sl (Ty.i .i64))) hS94 4 rfl)), trivial⟩) rfl rfl ?_
          intro b99 wd96 hS97 he98 hx100
          replace hS97 : St wd2 wd96 [bx b9 [(Value.slice none 0 0)], bx b13 [u33], (Ty.sl (Ty.sl (Ty.sl (Ty.i .i64)))).at u33 x24, (Ty.sl (Ty.sl (Ty.i .i64))).at u60 x51, (Ty.sl (Ty.i .i64)).at u90 x88, bx b99 [u90]] := hS97
          obtain ⟨x101, hx102, hb56⟩ := bs hb56
          refine WL.appendRow hS97 (k := 3) (k2 := 4) (k3 := 5) rfl rfl rfl rfl sl_22 rfl rfl rfl rfl hx102 rfl ?_
          intro u103 wd104 hS105 hz106
          replace hS105 : St wd2 wd104 [bx b9 [(Value.slice none 0 0)], bx b13 [u33], (Ty.sl (Ty.sl (Ty.sl (Ty.i .i64)))).at u33 x24, (Ty.sl (Ty.sl (Ty.i .i64))).at u103 x101, emp, bx b99 [u90]] := hS105
          refine WL.val u103 _ (op_assign rfl) rfl ?_
          refine WL.nil ?_
          show W _ _ _ _ _ _
          refine W.region ?_
          refine WL.val (Value.int .i64 (w64 ((k50 : Int) + (1 : Int)))) _ (op_add hf69 rfl) rfl ?_
          refine WL.val (Value.int .i64 (w64 ((k50 : Int) + (1 : Int)))) _ (op_move rfl) rfl ?_
          refine WL.nil ?_
          obtain rfl := Option.some.inj hb56
          show ∃ s, _ = Ctl.next s ∧ _
          exact ⟨_, rfl, u103, hf61, hf62, hf63, hf64, rfl, hf66, hf67, hf68, (ctr_next hl72 hr47), (ctr_rng hl72 hr47), (St.pick hS105 [0, 1, 2, 3] rfl)⟩
        · intro x113 f108 wd109 hs110 hI111
          replace hI111 : ∃ (uu0 : Value), f108 1 = (Value.pointer (some ⟨b1, 0, none⟩)) ∧ f108 2 = (Value.pointer (some ⟨b9, 0, none⟩)) ∧ f108 3 = (Value.pointer (some ⟨b13, 0, none⟩)) ∧ f108 4 = (Value.int .i64 (k23 : Int)) ∧ f108 5 = uu0 ∧ f108 10 = (Value.int .i64 ((r_Table).length : Int)) ∧ f108 11 = (Value.int .i64 (k23 : Int)) ∧ f108 17 = (Value.int .i64 ((r_Table).length : Int)) ∧ f108 18 = Value.int .i64 (((r_Table).length : Nat) : Int) ∧ InR .i64 (((r_Table).length : Nat) : Int) ∧ St wd2 wd109 [bx b9 [(Value.slice none 0 0)], bx b13 [u33], (Ty.sl (Ty.sl (Ty.sl (Ty.i .i64)))).at u33 x24, (Ty.sl (Ty.sl (Ty.i .i64))).at uu0 x113] := hI111
          obtain ⟨u114, hf115, hf116, hf117, hf118, hf119, hf120, hf121, hf122, hf123, hr124, hS125⟩ := hI111
          refine W.seq ?_
          refine W.region ?_
          refine WL.val (Value.bool (decide ((((r_Table).length : Nat) : Int) < ((r_Table).length : Int)))) _ (op_lss hf123 hf122) rfl ?_
          have hl126 : ¬ (((r_Table).length : Nat) : Int) < ((r_Table).length : Int) := by omega
          refine WL.nil ?_
          show W _ _ _ _ _ _
          refine W.seq ?_
          refine W.condF (decide ((((r_Table).length : Nat) : Int) < ((r_Table).length : Int))) rfl (decide_eq_false hl126) ?_
          refine W.exit ?_
          show _ = _ ∧ _
          exact ⟨rfl, _, hs110, u114, hf115, hf116, hf117, hf119, hf120, hf121, hS125⟩
      · rintro f127 wd128 ⟨x131, rfl, hq129⟩
        replace hb29 := onRes_fin hb29
        replace hq129 : ∃ (uu0 : Value), f127 1 = (Value.pointer (some ⟨b1, 0, none⟩)) ∧ f127 2 = (Value.pointer (some ⟨b9, 0, none⟩)) ∧ f127 3 = (Value.pointer (some ⟨b13, 0, none⟩)) ∧ f127 5 = uu0 ∧ f127 10 = (Value.int .i64 ((r_Table).length : Int)) ∧ f127 11 = (Value.int .i64 (k23 : Int)) ∧ St wd2 wd128 [bx b9 [(Value.slice none 0 0)], bx b13 [u33], (Ty.sl (Ty.sl (Ty.sl (Ty.i .i64)))).at u33 x24, (Ty.sl (Ty.sl (Ty.i .i64))).at uu0 x131] := hq129
        obtain ⟨u132, hf133, hf134, hf135, hf136, hf137, hf138, hS139⟩ := hq129
        show W _ _ _ _ _ _
        refine W.region ?_
        refine WL.val (Value.pointer (some ⟨b13, 0, none⟩)) _ (op_fieldAddr fd_27_0 hf135) rfl ?_
        refine WL.val u33 _ (op_load one_25 rfl (BoxAt.cell (St.boxAt hS139 1 rfl) rfl)) rfl ?_
        refine WL.val u132 _ (op_move hf136) rfl ?_
        refine WL.lit [u132] hS139 sl_25 rfl rfl (fillL rfl ⟨rfl, rfl, (cells_rep (St.rep (t := (Ty.sl (Ty.sl (Ty.i .i64)))) hS139 3 rfl)), trivial⟩) rfl rfl ?_
        intro b144 wd141 hS142 he143 hx145
        replace hS142 : St wd2 wd141 [bx b9 [(Value.slice none 0 0)], bx b13 [u33], (Ty.sl (Ty.sl (Ty.sl (Ty.i .i64)))).at u33 x24, (Ty.sl (Ty.sl (Ty.i .i64))).at u132 x131, bx b144 [u132]] := hS142
        obtain ⟨x146, hx147, hb29⟩ := bs hb29
        refine WL.appendRow hS142 (k := 2) (k2 := 3) (k3 := 4) rfl rfl rfl rfl sl_25 rfl rfl rfl rfl hx147 rfl ?_
        intro u148 wd149 hS150 hz151
        replace hS150 : St wd2 wd149 [bx b9 [(Value.slice none 0 0)], bx b13 [u33], (Ty.sl (Ty.sl (Ty.sl (Ty.i .i64)))).at u148 x146, emp, bx b144 [u132]] := hS150
        refine WL.val (Value.pointer (some ⟨b13, 0, none⟩)) _ (op_fieldAddr fd_27_0 hf135) rfl ?_
        refine WL.storeBox [u148] hS150 (k := 1) rfl rfl rfl (us := [u148]) (cells_rep (St.rep (t := (Ty.sl (Ty.sl (Ty.sl (Ty.i .i64))))) hS150 2 rfl)) sz_25 rfl rfl (all_rep (St.rep (t := (Ty.sl (Ty.sl (Ty.sl (Ty.i .i64))))) hS150 2 rfl) all_nil) rfl ?_
        intro wd152 hS153
        replace hS153 : St wd2 wd152 [bx b9 [(Value.slice none 0 0)], bx b13 [u148], (Ty.sl (Ty.sl (Ty.sl (Ty.i .i64)))).at u148 x146, emp, bx b144 [u132]] := hS153
        refine WL.nil ?_
        show W _ _ _ _ _ _
        refine W.region ?_
        refine WL.val (Value.int .i64 (w64 ((k23 : Int) + (1 : Int)))) _ (op_add hf138 rfl) rfl ?_
        refine WL.val (Value.int .i64 (w64 ((k23 : Int) + (1 : Int)))) _ (op_move rfl) rfl ?_
        refine WL.nil ?_
        obtain rfl := Option.some.inj hb29
        show ∃ s, _ = Ctl.next s ∧ _
        exact ⟨_, rfl, u148, hf133, hf134, hf135, hf137, (ctr_next hl41 hr20), (ctr_rng hl41 hr20), (St.pick hS153 [0, 1, 2] rfl)⟩
    · intro x161 f156 wd157 hs158 hI159
      replace hI159 : ∃ (uu0 : Value), f156 1 = (Value.pointer (some ⟨b1, 0, none⟩)) ∧ f156 2 = (Value.pointer (some ⟨b9, 0, none⟩)) ∧ f156 3 = (Value.pointer (some ⟨b13, 0, none⟩)) ∧ f156 10 = (Value.int .i64 ((r_Table).length : Int)) ∧ f156 11 = Value.int .i64 (((r_Table).length : Nat) : Int) ∧ InR .i64 (((r_Table).length : Nat) : Int) ∧ St wd2 wd157 [bx b9 [(Value.slice none 0 0)], bx b13 [uu0], (Ty.sl (Ty.sl (Ty.sl (Ty.i .i64)))).at uu0 x161] := hI159
      obtain ⟨u162, hf163, hf164, hf165, hf166, hf167, hr168, hS169⟩ := hI159
      refine W.seq ?_
      refine W.region ?_
      refine WL.val (Value.bool (decide ((((r_Table).length : Nat) : Int) < ((r_Table).length : Int)))) _ (op_lss hf167 hf166) rfl ?_
      have hl170 : ¬ (((r_Table).length : Nat) : Int) < ((r_Table).length : Int) := by omega
      refine WL.nil ?_
      show W _ _ _ _ _ _
      refine W.seq ?_
      refine W.condF (decide ((((r_Table).length : Nat) : Int) < ((r_Table).length : Int))) rfl (decide_eq_false hl170) ?_
      refine W.exit ?_
      show _ = _ ∧ _
      exact ⟨rfl, _, hs158, u162, hf164, hf165, hS169⟩
  · rintro f171 wd172 ⟨x175, rfl, hq173⟩
    replace h := onRes_fin h
    replace hq173 : ∃ (uu0 : Value), f171 2 = (Value.pointer (some ⟨b9, 0, none⟩)) ∧ f171 3 = (Value.pointer (some ⟨b13, 0, none⟩)) ∧ St wd2 wd172 [bx b9 [(Value.slice none 0 0)], bx b13 [uu0], (Ty.sl (Ty.sl (Ty.sl (Ty.i .i64)))).at uu0 x175] := hq173
    obtain ⟨u176, hf177, hf178, hS179⟩ := hq173
    show W _ _ _ _ _ _
    refine W.seq ?_
    refine W.region ?_
    refine WL.val (Value.agg #[u176]) _ (op_loadBox st_27 hf178 (St.boxAt hS179 1 rfl) rfl rfl) rfl ?_
    refine WL.storeBox [u176] hS179 (k := 0) rfl hf177 rfl (us := [u176]) rfl sz_27 rfl rfl (all_rep (St.rep (t := (Ty.sl (Ty.sl (Ty.sl (Ty.i .i64))))) hS179 2 rfl) all_nil) rfl ?_
    intro wd180 hS181
    replace hS181 : St wd2 wd180 [bx b9 [u176], bx b13 [u176], (Ty.sl (Ty.sl (Ty.sl (Ty.i .i64)))).at u176 x175] := hS181
    refine WL.nil ?_
    show W _ _ _ _ _ _
    refine W.ret ?_
    obtain rfl := Option.some.inj h
    show FinP _ _ _ _ _ _ _
    exact FinP.ret _ (resC rfl hf177 st_27 (St.boxAt hS181 0 rfl) rfl) ⟨u176, rfl, (Ext.trans hE7 hS181.ext), (St.out (St.pick hS181 [2] rfl) (hE7))⟩

theorem c_slices_EqualFunc_LLLint64_LLLint64_LLint64_LLint64 {w : World} {s1 : (List (List (List Int)))} {v_s1 : Value} {s2 : (List (List (List Int)))} {v_s2 : Value} {eq : (List (List Int)) → (List (List Int)) → Option Bool} {v_eq : Value} (r_s1 : (Ty.sl (Ty.sl (Ty.sl (Ty.i .i64)))).rep w v_s1 s1) (r_s2 : (Ty.sl (Ty.sl (Ty.sl (Ty.i .i64)))).rep w v_s2 s2) (r_eq : FnT_lli_lli_to_b Try.prog v_eq w eq) {res : Bool} (h : p_slices_EqualFunc_LLLint64_LLLint64_LLint64_LLint64 s1 s2 eq  = some res) :
    Ret Try.prog 146 #[v_s1, v_s2, v_eq] w (fun v w' => v = Value.bool res ∧ Ext w w') := by
  unfold p_slices_EqualFunc_LLLint64_LLLint64_LLint64_LLint64 at h
  have hS0 : St w w [] := St.start w
  have q_eq := r_eq
  obtain ⟨g_eq, fst_eq, cap_eq, eq_eq, ok_eq, call_eq⟩ := q_eq
  subst eq_eq
  refine Ret.start (fn := Try.f146) Try.func146 rfl 32 rfl rfl ?_
  refine W.seq ?_
  refine W.region ?_
  refine WL.val (Value.bool false) _ (op_assign rfl) rfl ?_
  refine WL.nil ?_
  show W _ _ _ _ _ _
  refine W.seq ?_
  refine W.seq ?_
  refine W.region ?_
  refine WL.val v_s1 _ (op_move rfl) rfl ?_
  have hr1 := inR_len (Ty.lift _ hS0.ext r_s1)
  refine WL.val (Value.int .i64 ((s1).length : Int)) _ (op_lenL sl_25 (Ty.lift _ hS0.ext r_s1) rfl) rfl ?_
  refine WL.val v_s2 _ (op_move rfl) rfl ?_
  have hr2 := inR_len (Ty.lift _ hS0.ext r_s2)
  refine WL.val (Value.int .i64 ((s2).length : Int)) _ (op_lenL sl_25 (Ty.lift _ hS0.ext r_s2) rfl) rfl ?_
  refine WL.val (Value.bool (((s1).length : Int) != ((s2).length : Int))) _ (op_neq rfl rfl) rfl ?_
  refine WL.nil ?_
  show W _ _ _ _ _ _
  refine W.cond (((s1).length : Int) != ((s2).length : Int)) rfl (fun hc3 => ?_) (fun hc3 => ?_)
  · replace h := ip h hc3
    refine W.seq ?_
    refine W.region ?_
    refine WL.val (Value.bool false) _ (op_assign rfl) rfl ?_
    refine WL.nil ?_
    show W _ _ _ _ _ _
    refine W.ret ?_
    obtain rfl := Option.some.inj h
    show FinP _ _ _ _ _ _ _
    exact FinP.ret _ (res1 rfl rfl) ⟨rfl, hS0.ext⟩
  · replace h := inegb h hc3
    refine W.skip ?_
    show W _ _ _ _ _ _
    refine W.seq ?_
    refine W.seq ?_
    refine W.region ?_
    refine WL.val v_s1 _ (op_move rfl) rfl ?_
    have hr5 := inR_len (Ty.lift _ hS0.ext r_s1)
    refine WL.val (Value.int .i64 ((s1).length : Int)) _ (op_lenL sl_25 (Ty.lift _ hS0.ext r_s1) rfl) rfl ?_
    refine WL.val (Value.int .i64 (0 : Int)) _ (op_move rfl) rfl ?_
    refine WL.nil ?_
    show W _ _ _ _ _ _
    obtain ⟨res6, hres7, h⟩ := bs h
    refine W.blockLoop (fun fq wq => ∃ s, res6 = Res.fin s ∧ St w wq []) ?_ ?_
    · refine W.forN (fun k (s : Unit) fq wq => fq 1 = v_s2 ∧ fq 2 = (Value.func (.func g_eq) fst_eq cap_eq) ∧ fq 15 = v_s1 ∧ fq 16 = (Value.int .i64 ((s1).length : Int)) ∧ fq 17 = Value.int .i64 (k : Int) ∧ InR .i64 (k : Int) ∧ St w wq []) hres7 ⟨rfl, rfl, rfl, rfl, rfl, (inR_i64.2 (show (-9223372036854775808 : Int) ≤ 0 ∧ (0 : Int) ≤ 9223372036854775807 from by decide)), hS0⟩ ?_ ?_
      · intro k8 s48 ct9 f10 wd11 hk12 hb13 hI14 hbrk15 hret16
        obtain ⟨⟩ := s48
        replace hI14 : f10 1 = v_s2 ∧ f10 2 = (Value.func (.func g_eq) fst_eq cap_eq) ∧ f10 15 = v_s1 ∧ f10 16 = (Value.int .i64 ((s1).length : Int)) ∧ f10 17 = Value.int .i64 (k8 : Int) ∧ InR .i64 (k8 : Int) ∧ St w wd11 [] := hI14
        replace hb13 : p_slices_EqualFunc_LLLint64_LLLint64_LLint64_LLint64_L1 s1 s2 eq k8  = some ct9 := hb13
        unfold p_slices_EqualFunc_LLLint64_LLLint64_LLint64_LLint64_L1 at hb13
        obtain ⟨hf17, hf18, hf19, hf20, hf21, hr22, hS23⟩ := hI14
        refine W.seq ?_
        refine W.region ?_
        refine WL.val (Value.bool (decide ((k8 : Int) < ((s1).length : Int)))) _ (op_lss hf21 hf20) rfl ?_
        have hl24 : (k8 : Int) < ((s1).length : Int) := by omega
        refine WL.nil ?_
        show W _ _ _ _ _ _
        refine W.seq ?_
        refine W.condT (decide ((k8 : Int) < ((s1).length : Int))) rfl (decide_eq_true hl24) ?_
        refine W.skip ?_
        show W _ _ _ _ _ _
        refine W.seq ?_
        refine W.block ?_
        refine W.seq ?_
        refine W.region ?_
        refine WL.val (Value.int .i64 (k8 : Int)) _ (op_move hf21) rfl ?_
        obtain ⟨x26, hx29, hb13⟩ := bs hb13
        obtain ⟨ha27, hb28, hx29⟩ := idx_some hx29
        refine WL.val (Value.pointer (some (elA v_s1 ((k8 : Int)).toNat))) _ (op_idx sl_25 (Ty.lift _ hS23.ext r_s1) hf19 hf21 ha27 hb28) rfl ?_
        obtain ⟨u30, hc31, hr32⟩ := repSl.el r_s1 hx29
        refine WL.val u30 _ (op_load one_22 rfl (Ext.cell hS23.ext hc31)) rfl ?_
        refine WL.val (Value.int .i64 (k8 : Int)) _ (op_assign rfl) rfl ?_
        refine WL.val u30 _ (op_assign rfl) rfl ?_
        refine WL.nil ?_
        show W _ _ _ _ _ _
        refine W.seq ?_
        refine W.region ?_
        refine WL.val v_s2 _ (op_move hf17) rfl ?_
        refine WL.val (Value.int .i64 (k8 : Int)) _ (op_move rfl) rfl ?_
        obtain ⟨x33, hx36, hb13⟩ := bs hb13
        obtain ⟨ha34, hb35, hx36⟩ := idx_some hx36
        refine WL.val (Value.pointer (some (elA v_s2 ((k8 : Int)).toNat))) _ (op_idx sl_25 (Ty.lift _ hS23.ext r_s2) rfl rfl ha34 hb35) rfl ?_
        obtain ⟨u37, hc38, hr39⟩ := repSl.el r_s2 hx36
        refine WL.val u37 _ (op_load one_22 rfl (Ext.cell hS23.ext hc38)) rfl ?_
        refine WL.val u37 _ (op_assign rfl) rfl ?_
        refine WL.nil ?_
        show W _ _ _ _ _ _
        refine W.seq ?_
        refine W.region ?_
        refine WL.val (Value.func (.func g_eq) fst_eq cap_eq) _ (op_move hf18) rfl ?_
        refine WL.val u30 _ (op_move rfl) rfl ?_
        refine WL.val u37 _ (op_move rfl) rfl ?_
        obtain ⟨x40, hx41, hb13⟩ := bs hb13
        refine WL.call _ (op_callV rfl ok_eq (args2 rfl rfl)) (call_eq wd11 u30 x26 u37 x33 x40 hS23.ext (Ty.lift _ hS23.ext hr32) (Ty.lift _ hS23.ext hr39) hx41) rfl ?_
        rintro _ wd42 ⟨rfl, he43⟩
        have hS45 := St.extend hS23 he43
        refine WL.val (Value.bool (!x40)) _ (op_not rfl) rfl ?_
        refine WL.nil ?_
        show W _ _ _ _ _ _
        refine W.cond (!x40) rfl (fun hc46 => ?_) (fun hc46 => ?_)
        · replace hb13 := ip hb13 hc46
          refine W.seq ?_
          refine W.region ?_
          refine WL.val (Value.bool false) _ (op_assign rfl) rfl ?_
          refine WL.nil ?_
          show W _ _ _ _ _ _
          refine W.ret ?_
          obtain rfl := Option.some.inj hb13
          obtain rfl := hret16 _ rfl
          replace h := onRes_ret h
          obtain rfl := Option.some.inj h
          show FinP _ _ _ _ _ _ _
          exact FinP.ret _ (res1 rfl rfl) ⟨rfl, hS45.ext⟩
        · replace hb13 := inegb hb13 hc46
          refine W.skip ?_
          show W _ _ _ _ _ _
          refine W.region ?_
          refine WL.val (Value.int .i64 (w64 ((k8 : Int) + (1 : Int)))) _ (op_add hf21 rfl) rfl ?_
          refine WL.val (Value.int .i64 (w64 ((k8 : Int) + (1 : Int)))) _ (op_move rfl) rfl ?_
          refine WL.nil ?_
          obtain rfl := Option.some.inj hb13
          show ∃ s, _ = Ctl.next s ∧ _
          exact ⟨_, rfl, hf17, hf18, hf19, hf20, (ctr_next hl24 hr5), (ctr_rng hl24 hr5), hS45⟩
      · intro s53 f49 wd50 hs51 hI52
        obtain ⟨⟩ := s53
        replace hI52 : f49 1 = v_s2 ∧ f49 2 = (Value.func (.func g_eq) fst_eq cap_eq) ∧ f49 15 = v_s1 ∧ f49 16 = (Value.int .i64 ((s1).length : Int)) ∧ f49 17 = Value.int .i64 (((s1).length : Nat) : Int) ∧ InR .i64 (((s1).length : Nat) : Int) ∧ St w wd50 [] := hI52
        obtain ⟨hf54, hf55, hf56, hf57, hf58, hr59, hS60⟩ := hI52
        refine W.seq ?_
        refine W.region ?_
        refine WL.val (Value.bool (decide ((((s1).length : Nat) : Int) < ((s1).length : Int)))) _ (op_lss hf58 hf57) rfl ?_
        have hl61 : ¬ (((s1).length : Nat) : Int) < ((s1).length : Int) := by omega
        refine WL.nil ?_
        show W _ _ _ _ _ _
        refine W.seq ?_
        refine W.condF (decide ((((s1).length : Nat) : Int) < ((s1).length : Int))) rfl (decide_eq_false hl61) ?_
        refine W.exit ?_
        show _ = _ ∧ _
        exact ⟨rfl, _, hs51, hS60⟩
    · rintro f62 wd63 ⟨s65, rfl, hq64⟩
      replace h := onRes_fin h
      obtain ⟨⟩ := s65
      replace hq64 : St w wd63 [] := hq64
      have hS66 := hq64
      show W _ _ _ _ _ _
      refine W.seq ?_
      refine W.region ?_
      refine WL.val (Value.bool true) _ (op_assign rfl) rfl ?_
      refine WL.nil ?_
      show W _ _ _ _ _ _
      refine W.ret ?_
      obtain rfl := Option.some.inj h
      show FinP _ _ _ _ _ _ _
      exact FinP.ret _ (res1 rfl rfl) ⟨rfl, hS66.ext⟩

end Go.VG
