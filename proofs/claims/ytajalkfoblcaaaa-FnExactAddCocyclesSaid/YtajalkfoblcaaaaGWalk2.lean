/- The walks, part 2: each Go function returns what its plain twin returns. No condition beyond what each names. -/
import Derived.Test.YtajalkfoblcaaaaGWalk1
set_option linter.all false
namespace Go.VG
open Go.Proofs
attribute [local irreducible] W WL Sep FinP

theorem c_slices_ContainsFunc_LLLint64_LLint64 {w : World} {s1 : (List (List (List Int)))} {v_s1 : Value} {f1 : (List (List Int)) → Option Bool} {v_f1 : Value} (r_s1 : (Ty.sl (Ty.sl (Ty.sl (Ty.i .i64)))).rep w v_s1 s1) (r_f1 : FnT_lli_to_b Try.prog v_f1 w f1) {res : Bool} (h : p_slices_ContainsFunc_LLLint64_LLint64 s1 f1  = some res) :
    Ret Try.prog 91 #[v_s1, v_f1] w (fun v w' => v = Value.bool res ∧ Ext w w') := by
  unfold p_slices_ContainsFunc_LLLint64_LLint64 at h
  have hS0 : St w w [] := St.start w
  have q_f1 := r_f1
  obtain ⟨g_f1, fst_f1, cap_f1, eq_f1, ok_f1, call_f1⟩ := q_f1
  subst eq_f1
  refine Ret.start (fn := Try.f91) Try.func91 rfl 9 rfl rfl ?_
  refine W.seq (W.region ?_)
  refine WL.val (Value.bool false) _ (op_assign rfl) rfl ?_
  refine WL.nil ?_
  show W _ _ _ _ _ _
  refine W.seq (W.region ?_)
  refine WL.val v_s1 _ (op_move rfl) rfl ?_
  refine WL.val (Value.func (.func g_f1) fst_f1 cap_f1) _ (op_move rfl) rfl ?_
  obtain ⟨x1, hx2, h⟩ := bs h
  refine WL.call _ (op_call fn_103 (args2 rfl rfl)) (c_slices_IndexFunc_LLLint64_LLint64 (Ty.lift _ hS0.ext r_s1) (FnT_lli_to_b.lift hS0.ext r_f1) hx2) rfl ?_
  rintro _ wd4 ⟨rfl, hr3, he5⟩
  have hS7 := St.extend hS0 he5
  replace hS7 : St w wd4 [] := hS7
  refine WL.val (Value.bool (decide (x1 ≥ (0 : Int)))) _ (op_geq rfl rfl) rfl ?_
  refine WL.val (Value.bool (decide (x1 ≥ (0 : Int)))) _ (op_assign rfl) rfl ?_
  refine WL.nil ?_
  show W _ _ _ _ _ _
  refine W.ret ?_
  obtain rfl := Option.some.inj h
  show FinP _ _ _ _ _ _ _
  exact FinP.ret _ (res1 rfl rfl) ⟨rfl, hS7.ext⟩

theorem c_impl_isCochain {w : World} {c_Orders : (List Int)} {v_c_Orders : Value} {c_Modulus : Int} {c_Values : (List (List (List Int)))} {v_c_Values : Value} (r_c_Orders : (Ty.sl (Ty.i .i64)).rep w v_c_Orders c_Orders) (r_c_Modulus : InR .i64 c_Modulus) (r_c_Values : (Ty.sl (Ty.sl (Ty.sl (Ty.i .i64)))).rep w v_c_Values c_Values) {res : Bool} (h : p_impl_isCochain c_Orders c_Modulus c_Values  = some res) :
    Ret Try.prog 65 #[(Value.agg #[v_c_Orders, (Value.int .i64 c_Modulus), v_c_Values])] w (fun v w' => v = Value.bool res ∧ Ext w w') := by
  unfold p_impl_isCochain at h
  have hS0 : St w w [] := St.start w
  refine Ret.start (fn := Try.f65) Try.func65 rfl 28 rfl rfl ?_
  refine W.seq (W.region ?_)
  refine WL.box hS0 rfl (cs := [v_c_Orders, (Value.int .i64 c_Modulus), v_c_Values]) rfl rfl ?_
  intro b1 wd2 hS3 he4 hx5
  replace hS3 : St w wd2 [bx b1 [v_c_Orders, (Value.int .i64 c_Modulus), v_c_Values]] := hS3
  have hx6 := St.boxAt hS3 0 rfl
  have hE7 : Ext w wd2 := hS3.ext
  have hS8 : St wd2 wd2 [] := St.start wd2
  refine WL.val (Value.bool false) _ (op_assign rfl) rfl ?_
  refine WL.nil ?_
  show W _ _ _ _ _ _
  refine W.seq (W.region ?_)
  refine WL.val (Value.pointer (some ⟨b1, 0, none⟩)) _ (op_fieldAddr fd_30_0 rfl) rfl ?_
  refine WL.val v_c_Orders _ (op_load one_22 rfl (BoxAt.cell (BoxAt.lift hS8.ext hx6) rfl)) rfl ?_
  obtain ⟨x9, hx10, h⟩ := bs h
  refine WL.call _ (op_call fn_80 (args1 rfl)) (c_impl_groupSize (Ty.lift _ (Ext.trans hE7 hS8.ext) r_c_Orders) hx10) rfl ?_
  rintro _ wd12 ⟨rfl, hr11, he13⟩
  have hS15 := St.extend hS8 he13
  replace hS15 : St wd2 wd12 [] := hS15
  refine WL.alloc hS15 ze_2 (cs := [(Value.int .i64 (0 : Int))]) rfl rfl ?_
  intro b16 wd17 hS18 he19
  replace hS18 : St wd2 wd17 [bx b16 [(Value.int .i64 (0 : Int))]] := hS18
  refine WL.storeBox [(Value.int .i64 x9)] hS18 (k := 0) rfl rfl rfl (us := [(Value.int .i64 x9)]) rfl sz_2 rfl rfl (all_cons rfl all_nil) rfl ?_
  intro wd20 hS21
  replace hS21 : St wd2 wd20 [bx b16 [(Value.int .i64 x9)]] := hS21
  refine WL.nil ?_
  show W _ _ _ _ _ _
  refine W.seq (W.seq (W.region ?_))
  refine WL.val (Value.int .i64 x9) _ (op_load one_2 rfl (BoxAt.cell (St.boxAt hS21 0 rfl) rfl)) rfl ?_
  obtain ⟨x22, hx23, h⟩ := bs h
  refine WL.call _ (op_call fn_68 (args3 rfl rfl rfl)) (c_impl_within hr11 (inR_i64.2 (show (-9223372036854775808 : Int) ≤ 1 ∧ (1 : Int) ≤ 9223372036854775807 from by decide)) (inR_i64.2 (show (-9223372036854775808 : Int) ≤ 8 ∧ (8 : Int) ≤ 9223372036854775807 from by decide)) hx23) rfl ?_
  rintro _ wd24 ⟨rfl, he25⟩
  have hS27 := St.extend hS21 he25
  replace hS27 : St wd2 wd24 [bx b16 [(Value.int .i64 x9)]] := hS27
  refine WL.val (Value.bool (!x22)) _ (op_not rfl) rfl ?_
  refine WL.val (Value.bool (!x22)) _ (op_move rfl) rfl ?_
  obtain ⟨x29, hj30, h⟩ := bs h
  refine WL.cut 5 (fun fq wq => fq 1 = (Value.pointer (some ⟨b1, 0, none⟩)) ∧ fq 3 = (Value.pointer (some ⟨b16, 0, none⟩)) ∧ fq 15 = Value.bool x29 ∧ St wd2 wq [bx b16 [(Value.int .i64 x9)]]) ?_ ?_
  · rcases Bool.eq_false_or_eq_true (!x22) with hc28 | hc28
    · replace hj30 := ip hj30 hc28
      refine WL.gskip rfl (bool_of rfl hc28) rfl ?_
      refine WL.gskip rfl (bool_of rfl hc28) rfl ?_
      refine WL.gskip rfl (bool_of rfl hc28) rfl ?_
      refine WL.gskip rfl (bool_of rfl hc28) rfl ?_
      refine WL.val (Value.bool true) _ (op_pick_t (evb_of rfl hc28) rfl) rfl ?_
      refine WL.nil ?_
      obtain rfl := Option.some.inj hj30
      exact ⟨rfl, rfl, rfl, rfl, hS27⟩
    · replace hj30 := inegb hj30 hc28
      refine WL.grun rfl (bool_of rfl hc28) ?_
      refine WL.val (Value.pointer (some ⟨b1, 1, none⟩)) _ (op_fieldAddr fd_30_1 rfl) rfl ?_
      refine WL.grun rfl (bool_of rfl hc28) ?_
      refine WL.val (Value.int .i64 c_Modulus) _ (op_load one_2 rfl (BoxAt.cell (BoxAt.lift hS27.ext hx6) rfl)) rfl ?_
      refine WL.grun rfl (bool_of rfl hc28) ?_
      obtain ⟨x34, hx35, hj30⟩ := bs hj30
      refine WL.call _ (op_call fn_79 (args1 rfl)) (c_impl_isModulus r_c_Modulus hx35) rfl ?_
      rintro _ wd36 ⟨rfl, he37⟩
      have hS39 := St.extend hS27 he37
      replace hS39 : St wd2 wd36 [bx b16 [(Value.int .i64 x9)]] := hS39
      refine WL.grun rfl (bool_of rfl hc28) ?_
      refine WL.val (Value.bool (!x34)) _ (op_not rfl) rfl ?_
      refine WL.val (Value.bool (!x34)) _ (op_pick_f (evb_of rfl hc28) rfl) rfl ?_
      refine WL.nil ?_
      obtain rfl := Option.some.inj hj30
      exact ⟨rfl, rfl, rfl, rfl, hS39⟩
  · intro f31 wd32 hq33
    obtain ⟨hf40, hf41, hf42, hS43⟩ := hq33
    refine WL.val (Value.bool x29) _ (op_move hf42) rfl ?_
    refine WL.cut 6 (fun fq wq => fq 1 = (Value.pointer (some ⟨b1, 0, none⟩)) ∧ fq 3 = (Value.pointer (some ⟨b16, 0, none⟩)) ∧ fq 22 = (Value.bool (x29 || (((c_Values).length : Int) != x9))) ∧ St wd2 wq [bx b16 [(Value.int .i64 x9)]]) ?_ ?_
    · rcases Bool.eq_false_or_eq_true x29 with hc44 | hc44
      · refine WL.gskip rfl (bool_of rfl hc44) rfl ?_
        refine WL.gskip rfl (bool_of rfl hc44) rfl ?_
        refine WL.gskip rfl (bool_of rfl hc44) rfl ?_
        refine WL.gskip rfl (bool_of rfl hc44) rfl ?_
        refine WL.gskip rfl (bool_of rfl hc44) rfl ?_
        refine WL.val (Value.bool true) _ (op_pick_t (evb_of rfl hc44) rfl) rfl ?_
        refine WL.nil ?_
        exact ⟨rfl, hf40, hf41, (orT hc44), hS43⟩
      · refine WL.grun rfl (bool_of rfl hc44) ?_
        refine WL.val (Value.pointer (some ⟨b1, 2, none⟩)) _ (op_fieldAddr fd_30_2 hf40) rfl ?_
        refine WL.grun rfl (bool_of rfl hc44) ?_
        refine WL.val v_c_Values _ (op_load one_23 rfl (BoxAt.cell (BoxAt.lift hS43.ext hx6) rfl)) rfl ?_
        refine WL.grun rfl (bool_of rfl hc44) ?_
        have hr48 := inR_len (Ty.lift _ (Ext.trans hE7 hS43.ext) r_c_Values)
        refine WL.val (Value.int .i64 ((c_Values).length : Int)) _ (op_lenL sl_23 (Ty.lift _ (Ext.trans hE7 hS43.ext) r_c_Values) rfl) rfl ?_
        refine WL.grun rfl (bool_of rfl hc44) ?_
        refine WL.val (Value.int .i64 x9) _ (op_load one_2 hf41 (BoxAt.cell (St.boxAt hS43 0 rfl) rfl)) rfl ?_
        refine WL.grun rfl (bool_of rfl hc44) ?_
        refine WL.val (Value.bool (((c_Values).length : Int) != x9)) _ (op_neq rfl rfl) rfl ?_
        refine WL.val (Value.bool (((c_Values).length : Int) != x9)) _ (op_pick_f (evb_of rfl hc44) rfl) rfl ?_
        refine WL.nil ?_
        exact ⟨rfl, hf40, hf41, (orF hc44), hS43⟩
    · intro f45 wd46 hq47
      obtain ⟨hf49, hf50, hf51, hS52⟩ := hq47
      refine WL.nil ?_
      show W _ _ _ _ _ _
      refine W.cond (x29 || (((c_Values).length : Int) != x9)) hf51 (fun hc53 => ?_) (fun hc53 => ?_)
      · replace h := ip h hc53
        refine W.seq (W.region ?_)
        refine WL.val (Value.bool false) _ (op_assign rfl) rfl ?_
        refine WL.nil ?_
        show W _ _ _ _ _ _
        refine W.ret ?_
        obtain rfl := Option.some.inj h
        show FinP _ _ _ _ _ _ _
        exact FinP.ret _ (res1 rfl rfl) ⟨rfl, (Ext.trans hE7 hS52.ext)⟩
      · replace h := inegb h hc53
        refine W.skip ?_
        show W _ _ _ _ _ _
        refine W.seq (W.region ?_)
        refine WL.val (Value.pointer (some ⟨b1, 2, none⟩)) _ (op_fieldAddr fd_30_2 hf49) rfl ?_
        refine WL.val v_c_Values _ (op_load one_23 rfl (BoxAt.cell (BoxAt.lift hS52.ext hx6) rfl)) rfl ?_
        refine WL.val (Value.func (.func 92) #[] #[(Value.pointer (some ⟨b16, 0, none⟩)), (Value.pointer (some ⟨b1, 0, none⟩))]) _ (op_makeFunc (va := #[]) (vb := #[(Value.pointer (some ⟨b16, 0, none⟩)), (Value.pointer (some ⟨b1, 0, none⟩))]) args0 (args2 hf50 hf49)) rfl ?_
        obtain ⟨x59, hx60, h⟩ := bs h
        refine WL.call _ (op_call fn_91 (args2 rfl rfl)) (c_slices_ContainsFunc_LLLint64_LLint64 (Ty.lift _ (Ext.trans hE7 hS52.ext) r_c_Values) (⟨92, #[], #[(Value.pointer (some ⟨b16, 0, none⟩)), (Value.pointer (some ⟨b1, 0, none⟩))], rfl, fn_92, fun wd55 u0_56 a0_56 r57 he56 ra0_56 hq58 => c_impl_isCochain_c1 ra0_56 (BoxAt.lift he56 (St.boxAt hS52 0 rfl)) hr11 (BoxAt.lift (Ext.trans hS52.ext he56) hx6) (Ty.lift _ (Ext.trans (Ext.trans hE7 hS52.ext) he56) r_c_Orders) r_c_Modulus (Ty.lift _ (Ext.trans (Ext.trans hE7 hS52.ext) he56) r_c_Values) hq58⟩) hx60) rfl ?_
        rintro _ wd61 ⟨rfl, he62⟩
        have hS64 := St.extend hS52 he62
        replace hS64 : St wd2 wd61 [bx b16 [(Value.int .i64 x9)]] := hS64
        refine WL.val (Value.bool (!x59)) _ (op_not rfl) rfl ?_
        refine WL.val (Value.bool (!x59)) _ (op_assign rfl) rfl ?_
        refine WL.nil ?_
        show W _ _ _ _ _ _
        refine W.ret ?_
        obtain rfl := Option.some.inj h
        show FinP _ _ _ _ _ _ _
        exact FinP.ret _ (res1 rfl rfl) ⟨rfl, (Ext.trans hE7 hS64.ext)⟩

theorem c_impl_Cocycle_isNormalised {w : World} {c_Orders : (List Int)} {v_c_Orders : Value} {c_Modulus : Int} {c_Values : (List (List (List Int)))} {v_c_Values : Value} (r_c_Orders : (Ty.sl (Ty.i .i64)).rep w v_c_Orders c_Orders) (r_c_Modulus : InR .i64 c_Modulus) (r_c_Values : (Ty.sl (Ty.sl (Ty.sl (Ty.i .i64)))).rep w v_c_Values c_Values) {res : Bool} (h : p_impl_Cocycle_isNormalised c_Orders c_Modulus c_Values  = some res) :
    Ret Try.prog 66 #[(Value.agg #[v_c_Orders, (Value.int .i64 c_Modulus), v_c_Values])] w (fun v w' => v = Value.bool res ∧ Ext w w') := by
  unfold p_impl_Cocycle_isNormalised at h
  have hS0 : St w w [] := St.start w
  refine Ret.start (fn := Try.f66) Try.func66 rfl 48 rfl rfl ?_
  refine W.seq (W.region ?_)
  refine WL.box hS0 rfl (cs := [v_c_Orders, (Value.int .i64 c_Modulus), v_c_Values]) rfl rfl ?_
  intro b1 wd2 hS3 he4 hx5
  replace hS3 : St w wd2 [bx b1 [v_c_Orders, (Value.int .i64 c_Modulus), v_c_Values]] := hS3
  have hx6 := St.boxAt hS3 0 rfl
  have hE7 : Ext w wd2 := hS3.ext
  have hS8 : St wd2 wd2 [] := St.start wd2
  refine WL.val (Value.bool false) _ (op_assign rfl) rfl ?_
  refine WL.nil ?_
  show W _ _ _ _ _ _
  refine W.seq (W.seq (W.region ?_))
  refine WL.val (Value.pointer (some ⟨b1, 2, none⟩)) _ (op_fieldAddr fd_30_2 rfl) rfl ?_
  refine WL.val v_c_Values _ (op_load one_23 rfl (BoxAt.cell (BoxAt.lift hS8.ext hx6) rfl)) rfl ?_
  have hr9 := inR_len (Ty.lift _ (Ext.trans hE7 hS8.ext) r_c_Values)
  refine WL.val (Value.int .i64 ((c_Values).length : Int)) _ (op_lenL sl_23 (Ty.lift _ (Ext.trans hE7 hS8.ext) r_c_Values) rfl) rfl ?_
  refine WL.val (Value.int .i64 (0 : Int)) _ (op_move rfl) rfl ?_
  refine WL.nil ?_
  show W _ _ _ _ _ _
  obtain ⟨res10, hres11, h⟩ := bs h
  refine W.blockLoop (fun fq wq => ∃ s, res10 = Res.fin s ∧ St wd2 wq []) ?_ ?_
  · refine W.forN (fun k (s : Unit) fq wq => fq 10 = v_c_Values ∧ fq 11 = (Value.int .i64 ((c_Values).length : Int)) ∧ fq 12 = Value.int .i64 (k : Int) ∧ InR .i64 (k : Int) ∧ St wd2 wq []) hres11 ⟨rfl, rfl, rfl, (inR_i64.2 (show (-9223372036854775808 : Int) ≤ 0 ∧ (0 : Int) ≤ 9223372036854775807 from by decide)), hS8⟩ ?_ ?_
    · intro k12 s181 ct13 f14 wd15 hk16 hb17 hI18 hbrk19 hret20
      obtain ⟨⟩ := s181
      replace hI18 : f14 10 = v_c_Values ∧ f14 11 = (Value.int .i64 ((c_Values).length : Int)) ∧ f14 12 = Value.int .i64 (k12 : Int) ∧ InR .i64 (k12 : Int) ∧ St wd2 wd15 [] := hI18
      replace hb17 : p_impl_Cocycle_isNormalised_L1 c_Values k12  = some ct13 := hb17
      unfold p_impl_Cocycle_isNormalised_L1 at hb17
      obtain ⟨hf21, hf22, hf23, hr24, hS25⟩ := hI18
      refine W.seq (W.region ?_)
      refine WL.val (Value.bool (decide ((k12 : Int) < ((c_Values).length : Int)))) _ (op_lss hf23 hf22) rfl ?_
      have hl26 : (k12 : Int) < ((c_Values).length : Int) := by omega
      refine WL.nil ?_
      show W _ _ _ _ _ _
      refine W.seq ?_
      refine W.condT (decide ((k12 : Int) < ((c_Values).length : Int))) rfl (decide_eq_true hl26) ?_
      refine W.skip ?_
      show W _ _ _ _ _ _
      refine W.seq ?_
      refine W.block ?_
      refine W.seq (W.region ?_)
      refine WL.val (Value.int .i64 (k12 : Int)) _ (op_move hf23) rfl ?_
      obtain ⟨x28, hx31, hb17⟩ := bs hb17
      obtain ⟨ha29, hb30, hx31⟩ := idx_some hx31
      refine WL.val (Value.pointer (some (elA v_c_Values ((k12 : Int)).toNat))) _ (op_idx sl_23 (Ty.lift _ (Ext.trans hE7 hS25.ext) r_c_Values) hf21 hf23 ha29 hb30) rfl ?_
      obtain ⟨u32, hc33, hr34⟩ := repSl.el r_c_Values hx31
      refine WL.val u32 _ (op_load one_27 rfl (Ext.cell (Ext.trans hE7 hS25.ext) hc33)) rfl ?_
      refine WL.val (Value.int .i64 (k12 : Int)) _ (op_assign rfl) rfl ?_
      refine WL.val u32 _ (op_assign rfl) rfl ?_
      refine WL.nil ?_
      show W _ _ _ _ _ _
      refine W.seq (W.region ?_)
      refine WL.val u32 _ (op_move rfl) rfl ?_
      have hr35 := inR_len (Ty.lift _ (Ext.trans hE7 hS25.ext) hr34)
      refine WL.val (Value.int .i64 ((x28).length : Int)) _ (op_lenL sl_27 (Ty.lift _ (Ext.trans hE7 hS25.ext) hr34) rfl) rfl ?_
      refine WL.val (Value.int .i64 (0 : Int)) _ (op_move rfl) rfl ?_
      refine WL.nil ?_
      show W _ _ _ _ _ _
      obtain ⟨res36, hres37, hb17⟩ := bs hb17
      refine W.blockLoop (fun fq wq => ∃ s, res36 = Res.fin s ∧ fq 10 = v_c_Values ∧ fq 11 = (Value.int .i64 ((c_Values).length : Int)) ∧ fq 12 = (Value.int .i64 (k12 : Int)) ∧ St wd2 wq []) ?_ ?_
      · refine W.forN (fun k (s : Unit) fq wq => fq 3 = (Value.int .i64 (k12 : Int)) ∧ fq 10 = v_c_Values ∧ fq 11 = (Value.int .i64 ((c_Values).length : Int)) ∧ fq 12 = (Value.int .i64 (k12 : Int)) ∧ fq 17 = u32 ∧ fq 18 = (Value.int .i64 ((x28).length : Int)) ∧ fq 19 = Value.int .i64 (k : Int) ∧ InR .i64 (k : Int) ∧ St wd2 wq []) hres37 ⟨rfl, hf21, hf22, hf23, rfl, rfl, rfl, (inR_i64.2 (show (-9223372036854775808 : Int) ≤ 0 ∧ (0 : Int) ≤ 9223372036854775807 from by decide)), hS25⟩ ?_ ?_
        · intro k38 s156 ct39 f40 wd41 hk42 hb43 hI44 hbrk45 hret46
          obtain ⟨⟩ := s156
          replace hI44 : f40 3 = (Value.int .i64 (k12 : Int)) ∧ f40 10 = v_c_Values ∧ f40 11 = (Value.int .i64 ((c_Values).length : Int)) ∧ f40 12 = (Value.int .i64 (k12 : Int)) ∧ f40 17 = u32 ∧ f40 18 = (Value.int .i64 ((x28).length : Int)) ∧ f40 19 = Value.int .i64 (k38 : Int) ∧ InR .i64 (k38 : Int) ∧ St wd2 wd41 [] := hI44
          replace hb43 : p_impl_Cocycle_isNormalised_L2 x28 k12 k38  = some ct39 := hb43
          unfold p_impl_Cocycle_isNormalised_L2 at hb43
          obtain ⟨hf47, hf48, hf49, hf50, hf51, hf52, hf53, hr54, hS55⟩ := hI44
          refine W.seq (W.region ?_)
          refine WL.val (Value.bool (decide ((k38 : Int) < ((x28).length : Int)))) _ (op_lss hf53 hf52) rfl ?_
          have hl56 : (k38 : Int) < ((x28).length : Int) := by omega
          refine WL.nil ?_
          show W _ _ _ _ _ _
          refine W.seq ?_
          refine W.condT (decide ((k38 : Int) < ((x28).length : Int))) rfl (decide_eq_true hl56) ?_
          refine W.skip ?_
          show W _ _ _ _ _ _
          refine W.seq ?_
          refine W.block ?_
          refine W.seq (W.region ?_)
          refine WL.val (Value.int .i64 (k38 : Int)) _ (op_move hf53) rfl ?_
          obtain ⟨x58, hx61, hb43⟩ := bs hb43
          obtain ⟨ha59, hb60, hx61⟩ := idx_some hx61
          refine WL.val (Value.pointer (some (elA u32 ((k38 : Int)).toNat))) _ (op_idx sl_27 (Ty.lift _ (Ext.trans hE7 hS55.ext) hr34) hf51 hf53 ha59 hb60) rfl ?_
          obtain ⟨u62, hc63, hr64⟩ := repSl.el hr34 hx61
          refine WL.val u62 _ (op_load one_22 rfl (Ext.cell (Ext.trans hE7 hS55.ext) hc63)) rfl ?_
          refine WL.val (Value.int .i64 (k38 : Int)) _ (op_assign rfl) rfl ?_
          refine WL.val u62 _ (op_assign rfl) rfl ?_
          refine WL.nil ?_
          show W _ _ _ _ _ _
          refine W.seq (W.region ?_)
          refine WL.val u62 _ (op_move rfl) rfl ?_
          have hr65 := inR_len (Ty.lift _ (Ext.trans hE7 hS55.ext) hr64)
          refine WL.val (Value.int .i64 ((x58).length : Int)) _ (op_lenL sl_22 (Ty.lift _ (Ext.trans hE7 hS55.ext) hr64) rfl) rfl ?_
          refine WL.val (Value.int .i64 (0 : Int)) _ (op_move rfl) rfl ?_
          refine WL.nil ?_
          show W _ _ _ _ _ _
          obtain ⟨res66, hres67, hb43⟩ := bs hb43
          refine W.blockLoop (fun fq wq => ∃ s, res66 = Res.fin s ∧ fq 3 = (Value.int .i64 (k12 : Int)) ∧ fq 10 = v_c_Values ∧ fq 11 = (Value.int .i64 ((c_Values).length : Int)) ∧ fq 12 = (Value.int .i64 (k12 : Int)) ∧ fq 17 = u32 ∧ fq 18 = (Value.int .i64 ((x28).length : Int)) ∧ fq 19 = (Value.int .i64 (k38 : Int)) ∧ St wd2 wq []) ?_ ?_
          · refine W.forN (fun k (s : Unit) fq wq => fq 3 = (Value.int .i64 (k12 : Int)) ∧ fq 5 = (Value.int .i64 (k38 : Int)) ∧ fq 10 = v_c_Values ∧ fq 11 = (Value.int .i64 ((c_Values).length : Int)) ∧ fq 12 = (Value.int .i64 (k12 : Int)) ∧ fq 17 = u32 ∧ fq 18 = (Value.int .i64 ((x28).length : Int)) ∧ fq 19 = (Value.int .i64 (k38 : Int)) ∧ fq 24 = u62 ∧ fq 25 = (Value.int .i64 ((x58).length : Int)) ∧ fq 26 = Value.int .i64 (k : Int) ∧ InR .i64 (k : Int) ∧ St wd2 wq []) hres67 ⟨hf47, rfl, hf48, hf49, hf50, hf51, hf52, hf53, rfl, rfl, rfl, (inR_i64.2 (show (-9223372036854775808 : Int) ≤ 0 ∧ (0 : Int) ≤ 9223372036854775807 from by decide)), hS55⟩ ?_ ?_
            · intro k68 s123 ct69 f70 wd71 hk72 hb73 hI74 hbrk75 hret76
              obtain ⟨⟩ := s123
              replace hI74 : f70 3 = (Value.int .i64 (k12 : Int)) ∧ f70 5 = (Value.int .i64 (k38 : Int)) ∧ f70 10 = v_c_Values ∧ f70 11 = (Value.int .i64 ((c_Values).length : Int)) ∧ f70 12 = (Value.int .i64 (k12 : Int)) ∧ f70 17 = u32 ∧ f70 18 = (Value.int .i64 ((x28).length : Int)) ∧ f70 19 = (Value.int .i64 (k38 : Int)) ∧ f70 24 = u62 ∧ f70 25 = (Value.int .i64 ((x58).length : Int)) ∧ f70 26 = Value.int .i64 (k68 : Int) ∧ InR .i64 (k68 : Int) ∧ St wd2 wd71 [] := hI74
              replace hb73 : p_impl_Cocycle_isNormalised_L3 x58 k12 k38 k68  = some ct69 := hb73
              unfold p_impl_Cocycle_isNormalised_L3 at hb73
              obtain ⟨hf77, hf78, hf79, hf80, hf81, hf82, hf83, hf84, hf85, hf86, hf87, hr88, hS89⟩ := hI74
              refine W.seq (W.region ?_)
              refine WL.val (Value.bool (decide ((k68 : Int) < ((x58).length : Int)))) _ (op_lss hf87 hf86) rfl ?_
              have hl90 : (k68 : Int) < ((x58).length : Int) := by omega
              refine WL.nil ?_
              show W _ _ _ _ _ _
              refine W.seq ?_
              refine W.condT (decide ((k68 : Int) < ((x58).length : Int))) rfl (decide_eq_true hl90) ?_
              refine W.skip ?_
              show W _ _ _ _ _ _
              refine W.seq ?_
              refine W.block ?_
              refine W.seq (W.region ?_)
              refine WL.val (Value.int .i64 (k68 : Int)) _ (op_move hf87) rfl ?_
              obtain ⟨x92, hx95, hb73⟩ := bs hb73
              obtain ⟨ha93, hb94, hx95⟩ := idx_some hx95
              refine WL.val (Value.pointer (some (elA u62 ((k68 : Int)).toNat))) _ (op_idx sl_22 (Ty.lift _ (Ext.trans hE7 hS89.ext) hr64) hf85 hf87 ha93 hb94) rfl ?_
              obtain ⟨u96, hc97, hr98⟩ := repSl.el hr64 hx95
              obtain ⟨rfl, hr98⟩ := hr98
              refine WL.val (Value.int .i64 x92) _ (op_load one_2 rfl (Ext.cell (Ext.trans hE7 hS89.ext) hc97)) rfl ?_
              refine WL.val (Value.int .i64 (k68 : Int)) _ (op_assign rfl) rfl ?_
              refine WL.val (Value.int .i64 x92) _ (op_assign rfl) rfl ?_
              refine WL.nil ?_
              show W _ _ _ _ _ _
              refine W.seq ?_
              obtain ⟨x99, hj100, hb73⟩ := bs hb73
              refine W.cutCode (fun fq wq => fq 3 = (Value.int .i64 (k12 : Int)) ∧ fq 5 = (Value.int .i64 (k38 : Int)) ∧ fq 10 = v_c_Values ∧ fq 11 = (Value.int .i64 ((c_Values).length : Int)) ∧ fq 12 = (Value.int .i64 (k12 : Int)) ∧ fq 17 = u32 ∧ fq 18 = (Value.int .i64 ((x28).length : Int)) ∧ fq 19 = (Value.int .i64 (k38 : Int)) ∧ fq 24 = u62 ∧ fq 25 = (Value.int .i64 ((x58).length : Int)) ∧ fq 26 = (Value.int .i64 (k68 : Int)) ∧ fq 44 = Value.bool x99 ∧ St wd2 wq []) ?_ ?_
              · refine W.region ?_
                refine WL.val (Value.int .i64 x92) _ (op_move rfl) rfl ?_
                refine WL.val (Value.bool (x92 != (0 : Int))) _ (op_neq rfl rfl) rfl ?_
                refine WL.val (Value.bool (x92 != (0 : Int))) _ (op_move rfl) rfl ?_
                rcases Bool.eq_false_or_eq_true (x92 != (0 : Int)) with hc101 | hc101
                · replace hj100 := ip hj100 hc101
                  refine WL.grun rfl (bool_of rfl hc101) ?_
                  refine WL.val (Value.int .i64 (k12 : Int)) _ (op_move hf77) rfl ?_
                  refine WL.grun rfl (bool_of rfl hc101) ?_
                  refine WL.val (Value.bool ((k12 : Int) == (0 : Int))) _ (op_eql rfl rfl) rfl ?_
                  refine WL.grun rfl (bool_of rfl hc101) ?_
                  refine WL.val (Value.bool ((k12 : Int) == (0 : Int))) _ (op_move rfl) rfl ?_
                  rcases Bool.eq_false_or_eq_true ((k12 : Int) == (0 : Int)) with hc102 | hc102
                  · replace hj100 := ip hj100 hc102
                    refine WL.gskip rfl (bool_of rfl hc102) rfl ?_
                    refine WL.gskip rfl (bool_of rfl hc102) rfl ?_
                    refine WL.grun rfl (bool_of rfl hc101) ?_
                    refine WL.val (Value.bool true) _ (op_pick_t (evb_of rfl hc102) rfl) rfl ?_
                    refine WL.grun rfl (bool_of rfl hc101) ?_
                    refine WL.val (Value.bool true) _ (op_move rfl) rfl ?_
                    rcases Bool.eq_false_or_eq_true true with hc103 | hc103
                    · replace hj100 := ip hj100 hc103
                      refine WL.gskip rfl (bool_of rfl hc103) rfl ?_
                      refine WL.gskip rfl (bool_of rfl hc103) rfl ?_
                      refine WL.grun rfl (bool_of rfl hc101) ?_
                      refine WL.val (Value.bool true) _ (op_pick_t (evb_of rfl hc103) rfl) rfl ?_
                      refine WL.val (Value.bool true) _ (op_pick_t (evb_of rfl hc101) rfl) rfl ?_
                      refine WL.nil ?_
                      obtain rfl := Option.some.inj hj100
                      exact ⟨hf77, hf78, hf79, hf80, hf81, hf82, hf83, hf84, hf85, hf86, hf87, rfl, hS89⟩
                    · replace hj100 := inegb hj100 hc103
                      refine WL.grun rfl (bool_of rfl hc103) ?_
                      refine WL.val (Value.int .i64 (k68 : Int)) _ (op_move rfl) rfl ?_
                      refine WL.grun rfl (bool_of rfl hc103) ?_
                      refine WL.val (Value.bool ((k68 : Int) == (0 : Int))) _ (op_eql rfl rfl) rfl ?_
                      refine WL.grun rfl (bool_of rfl hc101) ?_
                      refine WL.val (Value.bool ((k68 : Int) == (0 : Int))) _ (op_pick_f (evb_of rfl hc103) rfl) rfl ?_
                      refine WL.val (Value.bool ((k68 : Int) == (0 : Int))) _ (op_pick_t (evb_of rfl hc101) rfl) rfl ?_
                      refine WL.nil ?_
                      obtain rfl := Option.some.inj hj100
                      exact ⟨hf77, hf78, hf79, hf80, hf81, hf82, hf83, hf84, hf85, hf86, hf87, rfl, hS89⟩
                  · replace hj100 := inegb hj100 hc102
                    refine WL.grun rfl (bool_of rfl hc102) ?_
                    refine WL.val (Value.int .i64 (k38 : Int)) _ (op_move hf78) rfl ?_
                    refine WL.grun rfl (bool_of rfl hc102) ?_
                    refine WL.val (Value.bool ((k38 : Int) == (0 : Int))) _ (op_eql rfl rfl) rfl ?_
                    refine WL.grun rfl (bool_of rfl hc101) ?_
                    refine WL.val (Value.bool ((k38 : Int) == (0 : Int))) _ (op_pick_f (evb_of rfl hc102) rfl) rfl ?_
                    refine WL.grun rfl (bool_of rfl hc101) ?_
                    refine WL.val (Value.bool ((k38 : Int) == (0 : Int))) _ (op_move rfl) rfl ?_
                    rcases Bool.eq_false_or_eq_true ((k38 : Int) == (0 : Int)) with hc104 | hc104
                    · replace hj100 := ip hj100 hc104
                      refine WL.gskip rfl (bool_of rfl hc104) rfl ?_
                      refine WL.gskip rfl (bool_of rfl hc104) rfl ?_
                      refine WL.grun rfl (bool_of rfl hc101) ?_
                      refine WL.val (Value.bool true) _ (op_pick_t (evb_of rfl hc104) rfl) rfl ?_
                      refine WL.val (Value.bool true) _ (op_pick_t (evb_of rfl hc101) rfl) rfl ?_
                      refine WL.nil ?_
                      obtain rfl := Option.some.inj hj100
                      exact ⟨hf77, hf78, hf79, hf80, hf81, hf82, hf83, hf84, hf85, hf86, hf87, rfl, hS89⟩
                    · replace hj100 := inegb hj100 hc104
                      refine WL.grun rfl (bool_of rfl hc104) ?_
                      refine WL.val (Value.int .i64 (k68 : Int)) _ (op_move rfl) rfl ?_
                      refine WL.grun rfl (bool_of rfl hc104) ?_
                      refine WL.val (Value.bool ((k68 : Int) == (0 : Int))) _ (op_eql rfl rfl) rfl ?_
                      refine WL.grun rfl (bool_of rfl hc101) ?_
                      refine WL.val (Value.bool ((k68 : Int) == (0 : Int))) _ (op_pick_f (evb_of rfl hc104) rfl) rfl ?_
                      refine WL.val (Value.bool ((k68 : Int) == (0 : Int))) _ (op_pick_t (evb_of rfl hc101) rfl) rfl ?_
                      refine WL.nil ?_
                      obtain rfl := Option.some.inj hj100
                      exact ⟨hf77, hf78, hf79, hf80, hf81, hf82, hf83, hf84, hf85, hf86, hf87, rfl, hS89⟩
                · replace hj100 := inegb hj100 hc101
                  refine WL.gskip rfl (bool_of rfl hc101) rfl ?_
                  refine WL.gskip rfl (bool_of rfl hc101) rfl ?_
                  refine WL.gskip rfl (bool_of rfl hc101) rfl ?_
                  refine WL.gskipu rfl rfl rfl ?_
                  refine WL.gskipu rfl rfl rfl ?_
                  refine WL.gskip rfl (bool_of rfl hc101) rfl ?_
                  refine WL.gskip rfl (bool_of rfl hc101) rfl ?_
                  refine WL.gskipu rfl rfl rfl ?_
                  refine WL.gskipu rfl rfl rfl ?_
                  refine WL.gskip rfl (bool_of rfl hc101) rfl ?_
                  refine WL.val (Value.bool false) _ (op_pick_f (evb_of rfl hc101) rfl) rfl ?_
                  refine WL.nil ?_
                  obtain rfl := Option.some.inj hj100
                  exact ⟨hf77, hf78, hf79, hf80, hf81, hf82, hf83, hf84, hf85, hf86, hf87, rfl, hS89⟩
              · intro f105 wd106 hq107
                obtain ⟨hf108, hf109, hf110, hf111, hf112, hf113, hf114, hf115, hf116, hf117, hf118, hf119, hS120⟩ := hq107
                show W _ _ _ _ _ _
                refine W.cond x99 hf119 (fun hc121 => ?_) (fun hc121 => ?_)
                · replace hb73 := ip hb73 hc121
                  refine W.seq (W.region ?_)
                  refine WL.val (Value.bool false) _ (op_assign rfl) rfl ?_
                  refine WL.nil ?_
                  show W _ _ _ _ _ _
                  refine W.ret ?_
                  obtain rfl := Option.some.inj hb73
                  obtain rfl := hret76 _ rfl
                  replace hb43 := onRes_ret hb43
                  obtain rfl := Option.some.inj hb43
                  obtain rfl := hret46 _ rfl
                  replace hb17 := onRes_ret hb17
                  obtain rfl := Option.some.inj hb17
                  obtain rfl := hret20 _ rfl
                  replace h := onRes_ret h
                  obtain rfl := Option.some.inj h
                  show FinP _ _ _ _ _ _ _
                  exact FinP.ret _ (res1 rfl rfl) ⟨rfl, (Ext.trans hE7 hS120.ext)⟩
                · replace hb73 := inegb hb73 hc121
                  refine W.skip ?_
                  show W _ _ _ _ _ _
                  refine W.region ?_
                  refine WL.val (Value.int .i64 (w64 ((k68 : Int) + (1 : Int)))) _ (op_add hf118 rfl) rfl ?_
                  refine WL.val (Value.int .i64 (w64 ((k68 : Int) + (1 : Int)))) _ (op_move rfl) rfl ?_
                  refine WL.nil ?_
                  obtain rfl := Option.some.inj hb73
                  show ∃ s, _ = Ctl.next s ∧ _
                  exact ⟨_, rfl, hf108, hf109, hf110, hf111, hf112, hf113, hf114, hf115, hf116, hf117, (ctr_next hl90 hr65), (ctr_rng hl90 hr65), hS120⟩
            · intro s128 f124 wd125 hs126 hI127
              obtain ⟨⟩ := s128
              replace hI127 : f124 3 = (Value.int .i64 (k12 : Int)) ∧ f124 5 = (Value.int .i64 (k38 : Int)) ∧ f124 10 = v_c_Values ∧ f124 11 = (Value.int .i64 ((c_Values).length : Int)) ∧ f124 12 = (Value.int .i64 (k12 : Int)) ∧ f124 17 = u32 ∧ f124 18 = (Value.int .i64 ((x28).length : Int)) ∧ f124 19 = (Value.int .i64 (k38 : Int)) ∧ f124 24 = u62 ∧ f124 25 = (Value.int .i64 ((x58).length : Int)) ∧ f124 26 = Value.int .i64 (((x58).length : Nat) : Int) ∧ InR .i64 (((x58).length : Nat) : Int) ∧ St wd2 wd125 [] := hI127
              obtain ⟨hf129, hf130, hf131, hf132, hf133, hf134, hf135, hf136, hf137, hf138, hf139, hr140, hS141⟩ := hI127
              refine W.seq (W.region ?_)
              refine WL.val (Value.bool (decide ((((x58).length : Nat) : Int) < ((x58).length : Int)))) _ (op_lss hf139 hf138) rfl ?_
              have hl142 : ¬ (((x58).length : Nat) : Int) < ((x58).length : Int) := by omega
              refine WL.nil ?_
              show W _ _ _ _ _ _
              refine W.seq ?_
              refine W.condF (decide ((((x58).length : Nat) : Int) < ((x58).length : Int))) rfl (decide_eq_false hl142) ?_
              refine W.exit ?_
              show _ = _ ∧ _
              exact ⟨rfl, _, hs126, hf129, hf131, hf132, hf133, hf134, hf135, hf136, hS141⟩
          · rintro f143 wd144 ⟨s146, rfl, hq145⟩
            replace hb43 := onRes_fin hb43
            obtain ⟨⟩ := s146
            replace hq145 : f143 3 = (Value.int .i64 (k12 : Int)) ∧ f143 10 = v_c_Values ∧ f143 11 = (Value.int .i64 ((c_Values).length : Int)) ∧ f143 12 = (Value.int .i64 (k12 : Int)) ∧ f143 17 = u32 ∧ f143 18 = (Value.int .i64 ((x28).length : Int)) ∧ f143 19 = (Value.int .i64 (k38 : Int)) ∧ St wd2 wd144 [] := hq145
            obtain ⟨hf147, hf148, hf149, hf150, hf151, hf152, hf153, hS154⟩ := hq145
            show W _ _ _ _ _ _
            refine W.region ?_
            refine WL.val (Value.int .i64 (w64 ((k38 : Int) + (1 : Int)))) _ (op_add hf153 rfl) rfl ?_
            refine WL.val (Value.int .i64 (w64 ((k38 : Int) + (1 : Int)))) _ (op_move rfl) rfl ?_
            refine WL.nil ?_
            obtain rfl := Option.some.inj hb43
            show ∃ s, _ = Ctl.next s ∧ _
            exact ⟨_, rfl, hf147, hf148, hf149, hf150, hf151, hf152, (ctr_next hl56 hr35), (ctr_rng hl56 hr35), hS154⟩
        · intro s161 f157 wd158 hs159 hI160
          obtain ⟨⟩ := s161
          replace hI160 : f157 3 = (Value.int .i64 (k12 : Int)) ∧ f157 10 = v_c_Values ∧ f157 11 = (Value.int .i64 ((c_Values).length : Int)) ∧ f157 12 = (Value.int .i64 (k12 : Int)) ∧ f157 17 = u32 ∧ f157 18 = (Value.int .i64 ((x28).length : Int)) ∧ f157 19 = Value.int .i64 (((x28).length : Nat) : Int) ∧ InR .i64 (((x28).length : Nat) : Int) ∧ St wd2 wd158 [] := hI160
          obtain ⟨hf162, hf163, hf164, hf165, hf166, hf167, hf168, hr169, hS170⟩ := hI160
          refine W.seq (W.region ?_)
          refine WL.val (Value.bool (decide ((((x28).length : Nat) : Int) < ((x28).length : Int)))) _ (op_lss hf168 hf167) rfl ?_
          have hl171 : ¬ (((x28).length : Nat) : Int) < ((x28).length : Int) := by omega
          refine WL.nil ?_
          show W _ _ _ _ _ _
          refine W.seq ?_
          refine W.condF (decide ((((x28).length : Nat) : Int) < ((x28).length : Int))) rfl (decide_eq_false hl171) ?_
          refine W.exit ?_
          show _ = _ ∧ _
          exact ⟨rfl, _, hs159, hf163, hf164, hf165, hS170⟩
      · rintro f172 wd173 ⟨s175, rfl, hq174⟩
        replace hb17 := onRes_fin hb17
        obtain ⟨⟩ := s175
        replace hq174 : f172 10 = v_c_Values ∧ f172 11 = (Value.int .i64 ((c_Values).length : Int)) ∧ f172 12 = (Value.int .i64 (k12 : Int)) ∧ St wd2 wd173 [] := hq174
        obtain ⟨hf176, hf177, hf178, hS179⟩ := hq174
        show W _ _ _ _ _ _
        refine W.region ?_
        refine WL.val (Value.int .i64 (w64 ((k12 : Int) + (1 : Int)))) _ (op_add hf178 rfl) rfl ?_
        refine WL.val (Value.int .i64 (w64 ((k12 : Int) + (1 : Int)))) _ (op_move rfl) rfl ?_
        refine WL.nil ?_
        obtain rfl := Option.some.inj hb17
        show ∃ s, _ = Ctl.next s ∧ _
        exact ⟨_, rfl, hf176, hf177, (ctr_next hl26 hr9), (ctr_rng hl26 hr9), hS179⟩
    · intro s186 f182 wd183 hs184 hI185
      obtain ⟨⟩ := s186
      replace hI185 : f182 10 = v_c_Values ∧ f182 11 = (Value.int .i64 ((c_Values).length : Int)) ∧ f182 12 = Value.int .i64 (((c_Values).length : Nat) : Int) ∧ InR .i64 (((c_Values).length : Nat) : Int) ∧ St wd2 wd183 [] := hI185
      obtain ⟨hf187, hf188, hf189, hr190, hS191⟩ := hI185
      refine W.seq (W.region ?_)
      refine WL.val (Value.bool (decide ((((c_Values).length : Nat) : Int) < ((c_Values).length : Int)))) _ (op_lss hf189 hf188) rfl ?_
      have hl192 : ¬ (((c_Values).length : Nat) : Int) < ((c_Values).length : Int) := by omega
      refine WL.nil ?_
      show W _ _ _ _ _ _
      refine W.seq ?_
      refine W.condF (decide ((((c_Values).length : Nat) : Int) < ((c_Values).length : Int))) rfl (decide_eq_false hl192) ?_
      refine W.exit ?_
      show _ = _ ∧ _
      exact ⟨rfl, _, hs184, hS191⟩
  · rintro f193 wd194 ⟨s196, rfl, hq195⟩
    replace h := onRes_fin h
    obtain ⟨⟩ := s196
    replace hq195 : St wd2 wd194 [] := hq195
    have hS197 := hq195
    show W _ _ _ _ _ _
    refine W.seq (W.region ?_)
    refine WL.val (Value.bool true) _ (op_assign rfl) rfl ?_
    refine WL.nil ?_
    show W _ _ _ _ _ _
    refine W.ret ?_
    obtain rfl := Option.some.inj h
    show FinP _ _ _ _ _ _ _
    exact FinP.ret _ (res1 rfl rfl) ⟨rfl, (Ext.trans hE7 hS197.ext)⟩

theorem c_slices_Backward_Lint64_int64_c1 {w : World} {yield : Int → Int → Option Bool} {v_yield : Value} {b_c0 : Nat} {c0 : (List Int)} {v_c0 : Value} (r_yield : FnT_i_i_to_b Try.prog v_yield w yield) (k_c0 : BoxAt w b_c0 [v_c0]) (r_c0 : (Ty.sl (Ty.i .i64)).rep w v_c0 c0) {res : Unit} (h : p_slices_Backward_Lint64_int64_c1 yield c0 = some res) :
    Ret Try.prog 111 #[v_yield, (Value.pointer (some ⟨b_c0, 0, none⟩))] w (fun v w' => v = (Value.tuple #[]) ∧ Ext w w') := by
  unfold p_slices_Backward_Lint64_int64_c1 at h
  have hS0 : St w w [] := St.start w
  have q_yield := r_yield
  obtain ⟨g_yield, fst_yield, cap_yield, eq_yield, ok_yield, call_yield⟩ := q_yield
  subst eq_yield
  refine Ret.start (fn := Try.f111) Try.func111 rfl 19 rfl rfl ?_
  refine W.seq (W.region ?_)
  refine WL.val v_c0 _ (op_load one_22 rfl (BoxAt.cell (BoxAt.lift hS0.ext k_c0) rfl)) rfl ?_
  have hr1 := inR_len (Ty.lift _ hS0.ext r_c0)
  refine WL.val (Value.int .i64 ((c0).length : Int)) _ (op_lenL sl_22 (Ty.lift _ hS0.ext r_c0) rfl) rfl ?_
  refine WL.val (Value.int .i64 (w64 (((c0).length : Int) - (1 : Int)))) _ (op_sub rfl rfl) rfl ?_
  refine WL.val (Value.int .i64 (w64 (((c0).length : Int) - (1 : Int)))) _ (op_assign rfl) rfl ?_
  refine WL.nil ?_
  show W _ _ _ _ _ _
  obtain ⟨res2, hres3, h⟩ := bs h
  refine W.blockLoop (fun fq wq => ∃ s, res2 = Res.fin s ∧ St w wq []) ?_ ?_
  · refine W.whileC (fun (s : Int) fq wq => fq 0 = (Value.func (.func g_yield) fst_yield cap_yield) ∧ fq 1 = (Value.pointer (some ⟨b_c0, 0, none⟩)) ∧ fq 3 = Value.int .i64 s ∧ InR .i64 s ∧ St w wq []) hres3 ⟨rfl, rfl, rfl, (inR_wrap _ _), hS0⟩ ?_
    intro x5 ct6 f7 wd8 hb10 hI11 hbrk12 hret13
    replace hI11 : f7 0 = (Value.func (.func g_yield) fst_yield cap_yield) ∧ f7 1 = (Value.pointer (some ⟨b_c0, 0, none⟩)) ∧ f7 3 = Value.int .i64 x5 ∧ InR .i64 x5 ∧ St w wd8 [] := hI11
    replace hb10 : p_slices_Backward_Lint64_int64_c1_L1 c0 yield  x5 = some ct6 := hb10
    unfold p_slices_Backward_Lint64_int64_c1_L1 at hb10
    obtain ⟨hf14, hf15, hf16, hr17, hS18⟩ := hI11
    refine W.seq (W.seq (W.region ?_))
    refine WL.val (Value.int .i64 x5) _ (op_move hf16) rfl ?_
    refine WL.val (Value.bool (decide (x5 ≥ (0 : Int)))) _ (op_geq rfl rfl) rfl ?_
    refine WL.nil ?_
    show W _ _ _ _ _ _
    refine W.cond (decide (x5 ≥ (0 : Int))) rfl (fun hc19 => ?_) (fun hc19 => ?_)
    · replace hb10 := ip hb10 hc19
      refine W.skip ?_
      show W _ _ _ _ _ _
      refine W.seq ?_
      refine W.block ?_
      refine W.seq (W.region ?_)
      refine WL.val (Value.func (.func g_yield) fst_yield cap_yield) _ (op_move hf14) rfl ?_
      refine WL.val (Value.int .i64 x5) _ (op_move hf16) rfl ?_
      refine WL.val v_c0 _ (op_load one_22 hf15 (BoxAt.cell (BoxAt.lift hS18.ext k_c0) rfl)) rfl ?_
      refine WL.val (Value.int .i64 x5) _ (op_move hf16) rfl ?_
      obtain ⟨x21, hx24, hb10⟩ := bs hb10
      obtain ⟨ha22, hb23, hx24⟩ := idx_some hx24
      refine WL.val (Value.pointer (some (elA v_c0 (x5).toNat))) _ (op_idx sl_22 (Ty.lift _ hS18.ext r_c0) rfl rfl ha22 hb23) rfl ?_
      obtain ⟨u25, hc26, hr27⟩ := repSl.el r_c0 hx24
      obtain ⟨rfl, hr27⟩ := hr27
      refine WL.val (Value.int .i64 x21) _ (op_load one_2 rfl (Ext.cell hS18.ext hc26)) rfl ?_
      obtain ⟨x28, hx29, hb10⟩ := bs hb10
      refine WL.call _ (op_callV rfl ok_yield (args2 rfl rfl)) (call_yield wd8 x5 x21 x28 hS18.ext hr17 hr27 hx29) rfl ?_
      rintro _ wd30 ⟨rfl, he31⟩
      have hS33 := St.extend hS18 he31
      refine WL.val (Value.bool (!x28)) _ (op_not rfl) rfl ?_
      refine WL.nil ?_
      show W _ _ _ _ _ _
      refine W.cond (!x28) rfl (fun hc34 => ?_) (fun hc34 => ?_)
      · replace hb10 := ip hb10 hc34
        refine W.ret ?_
        obtain rfl := Option.some.inj hb10
        obtain rfl := hret13 _ rfl
        replace h := onRes_ret h
        obtain rfl := Option.some.inj h
        show FinP _ _ _ _ _ _ _
        exact FinP.ret _ (res0 rfl) ⟨rfl, hS33.ext⟩
      · replace hb10 := inegb hb10 hc34
        refine W.skip ?_
        show W _ _ _ _ _ _
        refine W.region ?_
        refine WL.val (Value.int .i64 x5) _ (op_move hf16) rfl ?_
        refine WL.val (Value.int .i64 (w64 (x5 - (1 : Int)))) _ (op_sub rfl rfl) rfl ?_
        refine WL.val (Value.int .i64 (w64 (x5 - (1 : Int)))) _ (op_assign rfl) rfl ?_
        refine WL.nil ?_
        obtain rfl := Option.some.inj hb10
        show ∃ s, _ = Ctl.next s ∧ _
        exact ⟨_, rfl, hf14, hf15, rfl, (inR_wrap _ _), hS33⟩
    · replace hb10 := inegb hb10 hc19
      refine W.exit ?_
      obtain rfl := Option.some.inj hb10
      show _ = _ ∧ _
      exact ⟨rfl, _, hbrk12 _ rfl, hS18⟩
  · rintro f37 wd38 ⟨x41, rfl, hq39⟩
    replace h := onRes_fin h
    replace hq39 : St w wd38 [] := hq39
    have hS42 := hq39
    obtain rfl := Option.some.inj h
    show FinP _ _ _ _ _ _ _
    exact FinP.end _ (res0 rfl) ⟨rfl, hS42.ext⟩

attribute [local irreducible] WR WI WLI
/-- The rounds' code. -/
noncomputable def bkBody : Code := match Try.f101.body with
  | some (.seq _ (.seq _ (.seq (.seq _ (.block _ (.rangeFunc _ _ _ c))) _))) => c
  | _ => .skip
theorem bk_body {w Wd : World} {f : Fr} {b1 b6 b11 b15 : Nat} {EE : Ent} {a b s0 p0 mm : Int} {m lr : Nat} (r_a : InR .i64 a) (r_b : InR .i64 b) (r_s0 : InR .i64 s0) (r_p0 : InR .i64 p0) (r_mm : InR .i64 mm) (h0m : mm ≠ 0)
    (hf4 : f 4 = Value.pointer (some ⟨b1, 0, none⟩)) (hf5 : f 5 = Value.pointer (some ⟨b6, 0, none⟩)) (hf7 : f 7 = Value.pointer (some ⟨b11, 0, none⟩)) (hf8 : f 8 = Value.pointer (some ⟨b15, 0, none⟩)) (hf10 : f 10 = Value.int .i64 mm)
    (hS22 : St w Wd [bx b1 [Value.int .i64 a], bx b6 [Value.int .i64 b], bx b11 [Value.int .i64 s0], bx b15 [Value.int .i64 p0], EE]) :
    WR Try.prog 38 m lr bkBody (fun _ w' => St w w' [bx b1 [Value.int .i64 (p_impl_addElements_S mm (a, b, s0, p0)).1], bx b6 [Value.int .i64 (p_impl_addElements_S mm (a, b, s0, p0)).2.1], bx b11 [Value.int .i64 (p_impl_addElements_S mm (a, b, s0, p0)).2.2.1], bx b15 [Value.int .i64 (p_impl_addElements_S mm (a, b, s0, p0)).2.2.2], EE]) f Wd := by
  have hfin0 := True.intro
  refine WR.block ?_
  refine WR.seq ?_
  obtain ⟨x60, hz61⟩ : ∃ x, x = (a).tmod mm := ⟨_, rfl⟩ -- HZ
  have h062 := h0m
  obtain ⟨x94, hz95⟩ : ∃ x, x = (b).tmod mm := ⟨_, rfl⟩ -- HZ
  have h096 := h0m
  obtain ⟨x137, hz138⟩ : ∃ x, x = (w64 (x60 + x94)).tmod mm := ⟨_, rfl⟩ -- HZ
  have h0139 := h0m
  have hfin : ∀ {w2 : World}, St w w2 [bx b1 [Value.int .i64 (w64 (a.tdiv mm))], bx b6 [Value.int .i64 (w64 (b.tdiv mm))], bx b11 [Value.int .i64 (w64 (s0 + (w64 (x137 * p0))))], bx b15 [Value.int .i64 (w64 (p0 * mm))], EE] → St w w2 [bx b1 [Value.int .i64 (p_impl_addElements_S mm (a, b, s0, p0)).1], bx b6 [Value.int .i64 (p_impl_addElements_S mm (a, b, s0, p0)).2.1], bx b11 [Value.int .i64 (p_impl_addElements_S mm (a, b, s0, p0)).2.2.1], bx b15 [Value.int .i64 (p_impl_addElements_S mm (a, b, s0, p0)).2.2.2], EE] := by
    intro w2 h; rw [hz138, hz61, hz95] at h; exact h
  refine WR.drawR mixo (by kernel_rfl) 12 [] [fun _ v _ _ => v = (Value.int .i64 s0) ∧ InR .i64 s0, fun _ v _ _ => v = (Value.int .i64 a) ∧ InR .i64 a, fun _ v _ _ => v = (Value.int .i64 mm) ∧ InR .i64 mm, fun _ v _ _ => v = (Value.int .i64 x60) ∧ InR .i64 x60, fun _ v _ _ => v = (Value.int .i64 b) ∧ InR .i64 b, fun _ v _ _ => v = (Value.int .i64 mm) ∧ InR .i64 mm, fun _ v _ _ => v = (Value.int .i64 x94) ∧ InR .i64 x94, fun _ v _ _ => v = (Value.int .i64 (w64 (x60 + x94))) ∧ InR .i64 (w64 (x60 + x94)), fun _ v _ _ => v = (Value.int .i64 mm) ∧ InR .i64 mm, fun _ v _ _ => v = (Value.int .i64 x137) ∧ InR .i64 x137, fun _ v _ _ => v = (Value.int .i64 p0) ∧ InR .i64 p0, fun _ v _ _ => v = (Value.int .i64 (w64 (x137 * p0))) ∧ InR .i64 (w64 (x137 * p0))] (by kernel_rfl) (by kernel_rfl) ⟨⟨fun _ _ _ _ _ _ h => h, fun _ _ _ _ _ _ h => h⟩, ⟨fun _ _ _ _ _ _ h => h, fun _ _ _ _ _ _ h => h⟩, ⟨fun _ _ _ _ _ _ h => h, fun _ _ _ _ _ _ h => h⟩, ⟨fun _ _ _ _ _ _ h => h, fun _ _ _ _ _ _ h => h⟩, ⟨fun _ _ _ _ _ _ h => h, fun _ _ _ _ _ _ h => h⟩, ⟨fun _ _ _ _ _ _ h => h, fun _ _ _ _ _ _ h => h⟩, ⟨fun _ _ _ _ _ _ h => h, fun _ _ _ _ _ _ h => h⟩, ⟨fun _ _ _ _ _ _ h => h, fun _ _ _ _ _ _ h => h⟩, ⟨fun _ _ _ _ _ _ h => h, fun _ _ _ _ _ _ h => h⟩, ⟨fun _ _ _ _ _ _ h => h, fun _ _ _ _ _ _ h => h⟩, ⟨fun _ _ _ _ _ _ h => h, fun _ _ _ _ _ _ h => h⟩, ⟨fun _ _ _ _ _ _ h => h, fun _ _ _ _ _ _ h => h⟩, trivial⟩ ⟨?_, ?_, ?_, ?_, ?_, ?_, ?_, ?_, ?_, ?_, ?_, ?_, trivial⟩ ?_
  · refine ObX.op rfl ?_
    intro f23 wd24 he25 hout26 hphi27
    have hS28 : St w wd24 [bx b1 [(Value.int .i64 a)], bx b6 [(Value.int .i64 b)], bx b11 [(Value.int .i64 s0)], bx b15 [(Value.int .i64 p0)], EE] := St.extend hS22 he25
    have e29 : f23 7 = (Value.pointer (some ⟨b11, 0, none⟩)) := (hout26 7 rfl).trans hf7
    exact OpX.val (Value.int .i64 s0) wd24 rfl (op_load one_2 e29 (BoxAt.cell (St.boxAt hS28 2 rfl) rfl)) (Ext.refl _) ⟨rfl, r_s0⟩
  · refine ObX.op rfl ?_
    intro f30 wd31 he32 hout33 hphi34
    have hS35 : St w wd31 [bx b1 [(Value.int .i64 a)], bx b6 [(Value.int .i64 b)], bx b11 [(Value.int .i64 s0)], bx b15 [(Value.int .i64 p0)], EE] := St.extend hS22 he32
    have e36 : f30 4 = (Value.pointer (some ⟨b1, 0, none⟩)) := (hout33 4 rfl).trans hf4
    exact OpX.val (Value.int .i64 a) wd31 rfl (op_load one_2 e36 (BoxAt.cell (St.boxAt hS35 0 rfl) rfl)) (Ext.refl _) ⟨rfl, r_a⟩
  · refine ObX.op rfl ?_
    intro f37 wd38 he39 hout40 hphi41
    have hS42 : St w wd38 [bx b1 [(Value.int .i64 a)], bx b6 [(Value.int .i64 b)], bx b11 [(Value.int .i64 s0)], bx b15 [(Value.int .i64 p0)], EE] := St.extend hS22 he39
    have e43 : f37 10 = (Value.int .i64 mm) := (hout40 10 rfl).trans hf10
    exact OpX.val (Value.int .i64 mm) wd38 rfl (op_move e43) (Ext.refl _) ⟨rfl, r_mm⟩
  · refine ObX.op rfl ?_
    intro f44 wd45 he46 hout47 hphi48
    have hS49 : St w wd45 [bx b1 [(Value.int .i64 a)], bx b6 [(Value.int .i64 b)], bx b11 [(Value.int .i64 s0)], bx b15 [(Value.int .i64 p0)], EE] := St.extend hS22 he46
    obtain ⟨S50, hS51, hf52⟩ := hphi48 1 16 _ rfl rfl rfl
    obtain ⟨e53, hr54⟩ : f44 16 = (Value.int .i64 a) ∧ InR .i64 a := hf52
    obtain ⟨S55, hS56, hf57⟩ := hphi48 2 17 _ rfl rfl rfl
    obtain ⟨e58, hr59⟩ : f44 17 = (Value.int .i64 mm) ∧ InR .i64 mm := hf57
    have hr63 : InR .i64 x60 := by rw [hz61]; exact inR_tmod hr54
    exact OpX.val (Value.int .i64 x60) wd45 rfl (by rw [hz61]; exact op_rem e53 e58 h062) (Ext.refl _) ⟨rfl, hr63⟩
  · refine ObX.op rfl ?_
    intro f64 wd65 he66 hout67 hphi68
    have hS69 : St w wd65 [bx b1 [(Value.int .i64 a)], bx b6 [(Value.int .i64 b)], bx b11 [(Value.int .i64 s0)], bx b15 [(Value.int .i64 p0)], EE] := St.extend hS22 he66
    have e70 : f64 5 = (Value.pointer (some ⟨b6, 0, none⟩)) := (hout67 5 rfl).trans hf5
    exact OpX.val (Value.int .i64 b) wd65 rfl (op_load one_2 e70 (BoxAt.cell (St.boxAt hS69 1 rfl) rfl)) (Ext.refl _) ⟨rfl, r_b⟩
  · refine ObX.op rfl ?_
    intro f71 wd72 he73 hout74 hphi75
    have hS76 : St w wd72 [bx b1 [(Value.int .i64 a)], bx b6 [(Value.int .i64 b)], bx b11 [(Value.int .i64 s0)], bx b15 [(Value.int .i64 p0)], EE] := St.extend hS22 he73
    have e77 : f71 10 = (Value.int .i64 mm) := (hout74 10 rfl).trans hf10
    exact OpX.val (Value.int .i64 mm) wd72 rfl (op_move e77) (Ext.refl _) ⟨rfl, r_mm⟩
  · refine ObX.op rfl ?_
    intro f78 wd79 he80 hout81 hphi82
    have hS83 : St w wd79 [bx b1 [(Value.int .i64 a)], bx b6 [(Value.int .i64 b)], bx b11 [(Value.int .i64 s0)], bx b15 [(Value.int .i64 p0)], EE] := St.extend hS22 he80
    obtain ⟨S84, hS85, hf86⟩ := hphi82 4 19 _ rfl rfl rfl
    obtain ⟨e87, hr88⟩ : f78 19 = (Value.int .i64 b) ∧ InR .i64 b := hf86
    obtain ⟨S89, hS90, hf91⟩ := hphi82 5 20 _ rfl rfl rfl
    obtain ⟨e92, hr93⟩ : f78 20 = (Value.int .i64 mm) ∧ InR .i64 mm := hf91
    have hr97 : InR .i64 x94 := by rw [hz95]; exact inR_tmod hr88
    exact OpX.val (Value.int .i64 x94) wd79 rfl (by rw [hz95]; exact op_rem e87 e92 h096) (Ext.refl _) ⟨rfl, hr97⟩
  · refine ObX.op rfl ?_
    intro f98 wd99 he100 hout101 hphi102
    have hS103 : St w wd99 [bx b1 [(Value.int .i64 a)], bx b6 [(Value.int .i64 b)], bx b11 [(Value.int .i64 s0)], bx b15 [(Value.int .i64 p0)], EE] := St.extend hS22 he100
    obtain ⟨S104, hS105, hf106⟩ := hphi102 3 18 _ rfl rfl rfl
    obtain ⟨e107, hr108⟩ : f98 18 = (Value.int .i64 x60) ∧ InR .i64 x60 := hf106
    obtain ⟨S109, hS110, hf111⟩ := hphi102 6 21 _ rfl rfl rfl
    obtain ⟨e112, hr113⟩ : f98 21 = (Value.int .i64 x94) ∧ InR .i64 x94 := hf111
    exact OpX.val (Value.int .i64 (w64 (x60 + x94))) wd99 rfl (op_add e107 e112) (Ext.refl _) ⟨rfl, (inR_wrap _ _)⟩
  · refine ObX.op rfl ?_
    intro f114 wd115 he116 hout117 hphi118
    have hS119 : St w wd115 [bx b1 [(Value.int .i64 a)], bx b6 [(Value.int .i64 b)], bx b11 [(Value.int .i64 s0)], bx b15 [(Value.int .i64 p0)], EE] := St.extend hS22 he116
    have e120 : f114 10 = (Value.int .i64 mm) := (hout117 10 rfl).trans hf10
    exact OpX.val (Value.int .i64 mm) wd115 rfl (op_move e120) (Ext.refl _) ⟨rfl, r_mm⟩
  · refine ObX.op rfl ?_
    intro f121 wd122 he123 hout124 hphi125
    have hS126 : St w wd122 [bx b1 [(Value.int .i64 a)], bx b6 [(Value.int .i64 b)], bx b11 [(Value.int .i64 s0)], bx b15 [(Value.int .i64 p0)], EE] := St.extend hS22 he123
    obtain ⟨S127, hS128, hf129⟩ := hphi125 7 22 _ rfl rfl rfl
    obtain ⟨e130, hr131⟩ : f121 22 = (Value.int .i64 (w64 (x60 + x94))) ∧ InR .i64 (w64 (x60 + x94)) := hf129
    obtain ⟨S132, hS133, hf134⟩ := hphi125 8 23 _ rfl rfl rfl
    obtain ⟨e135, hr136⟩ : f121 23 = (Value.int .i64 mm) ∧ InR .i64 mm := hf134
    have hr140 : InR .i64 x137 := by rw [hz138]; exact inR_tmod hr131
    exact OpX.val (Value.int .i64 x137) wd122 rfl (by rw [hz138]; exact op_rem e130 e135 h0139) (Ext.refl _) ⟨rfl, hr140⟩
  · refine ObX.op rfl ?_
    intro f141 wd142 he143 hout144 hphi145
    have hS146 : St w wd142 [bx b1 [(Value.int .i64 a)], bx b6 [(Value.int .i64 b)], bx b11 [(Value.int .i64 s0)], bx b15 [(Value.int .i64 p0)], EE] := St.extend hS22 he143
    have e147 : f141 8 = (Value.pointer (some ⟨b15, 0, none⟩)) := (hout144 8 rfl).trans hf8
    exact OpX.val (Value.int .i64 p0) wd142 rfl (op_load one_2 e147 (BoxAt.cell (St.boxAt hS146 3 rfl) rfl)) (Ext.refl _) ⟨rfl, r_p0⟩
  · refine ObX.op rfl ?_
    intro f148 wd149 he150 hout151 hphi152
    have hS153 : St w wd149 [bx b1 [(Value.int .i64 a)], bx b6 [(Value.int .i64 b)], bx b11 [(Value.int .i64 s0)], bx b15 [(Value.int .i64 p0)], EE] := St.extend hS22 he150
    obtain ⟨S154, hS155, hf156⟩ := hphi152 9 24 _ rfl rfl rfl
    obtain ⟨e157, hr158⟩ : f148 24 = (Value.int .i64 x137) ∧ InR .i64 x137 := hf156
    obtain ⟨S159, hS160, hf161⟩ := hphi152 10 25 _ rfl rfl rfl
    obtain ⟨e162, hr163⟩ : f148 25 = (Value.int .i64 p0) ∧ InR .i64 p0 := hf161
    exact OpX.val (Value.int .i64 (w64 (x137 * p0))) wd149 rfl (op_mul e157 e162) (Ext.refl _) ⟨rfl, (inR_wrap _ _)⟩
  · intro f164 wd165 Ss166 he167 hout168 hSn169 hSd170 hphi171
    show WL _ _ _ _ _ _ _
    have hS172 : St w wd165 [bx b1 [(Value.int .i64 a)], bx b6 [(Value.int .i64 b)], bx b11 [(Value.int .i64 s0)], bx b15 [(Value.int .i64 p0)], EE] := St.extend hS22 he167
    obtain ⟨e173, hr174⟩ : f164 15 = (Value.int .i64 s0) ∧ InR .i64 s0 := hphi171 0 15 _ (by decide) rfl rfl
    obtain ⟨e175, hr176⟩ : f164 26 = (Value.int .i64 (w64 (x137 * p0))) ∧ InR .i64 (w64 (x137 * p0)) := hphi171 11 26 _ (by decide) rfl rfl
    have e177 : f164 4 = (Value.pointer (some ⟨b1, 0, none⟩)) := (hout168 4 rfl).trans hf4
    have e178 : f164 5 = (Value.pointer (some ⟨b6, 0, none⟩)) := (hout168 5 rfl).trans hf5
    have e179 : f164 7 = (Value.pointer (some ⟨b11, 0, none⟩)) := (hout168 7 rfl).trans hf7
    have e180 : f164 8 = (Value.pointer (some ⟨b15, 0, none⟩)) := (hout168 8 rfl).trans hf8
    have e181 : f164 10 = (Value.int .i64 mm) := (hout168 10 rfl).trans hf10
    refine WL.val (Value.int .i64 (w64 (s0 + (w64 (x137 * p0))))) _ (op_add e173 e175) rfl ?_
    refine WL.storeBox [(Value.int .i64 (w64 (s0 + (w64 (x137 * p0)))))] hS172 (k := 2) rfl e179 rfl (us := [(Value.int .i64 (w64 (s0 + (w64 (x137 * p0)))))]) rfl sz_2 rfl rfl (all_cons rfl all_nil) rfl ?_
    intro wd182 hS183
    replace hS183 : St w wd182 [bx b1 [(Value.int .i64 a)], bx b6 [(Value.int .i64 b)], bx b11 [(Value.int .i64 (w64 (s0 + (w64 (x137 * p0)))))], bx b15 [(Value.int .i64 p0)], EE] := hS183
    refine WL.nil ?_
    show WR _ _ _ _ _ _ _ _
    refine WR.seq ?_
    refine WR.region (by kernel_rfl) ?_
    refine WL.val (Value.int .i64 p0) _ (op_load one_2 e180 (BoxAt.cell (St.boxAt hS183 3 rfl) rfl)) rfl ?_
    refine WL.val (Value.int .i64 mm) _ (op_move e181) rfl ?_
    refine WL.val (Value.int .i64 (w64 (p0 * mm))) _ (op_mul rfl rfl) rfl ?_
    refine WL.storeBox [(Value.int .i64 (w64 (p0 * mm)))] hS183 (k := 3) rfl e180 rfl (us := [(Value.int .i64 (w64 (p0 * mm)))]) rfl sz_2 rfl rfl (all_cons rfl all_nil) rfl ?_
    intro wd184 hS185
    replace hS185 : St w wd184 [bx b1 [(Value.int .i64 a)], bx b6 [(Value.int .i64 b)], bx b11 [(Value.int .i64 (w64 (s0 + (w64 (x137 * p0)))))], bx b15 [(Value.int .i64 (w64 (p0 * mm)))], EE] := hS185
    refine WL.nil ?_
    show WR _ _ _ _ _ _ _ _
    refine WR.orders mixo (by kernel_rfl) ?_
    intro wd186 he187
    have hS188 : St w wd186 [bx b1 [(Value.int .i64 a)], bx b6 [(Value.int .i64 b)], bx b11 [(Value.int .i64 (w64 (s0 + (w64 (x137 * p0)))))], bx b15 [(Value.int .i64 (w64 (p0 * mm)))], EE] := St.extend hS185 he187
    refine WA.take (Value.int .i64 mm) (i := 1) rfl rfl rfl rfl (by kernel_rfl) (fun _ => (op_move e181)) ?_
    refine WA.take (Value.int .i64 mm) (i := 4) rfl rfl rfl rfl (by kernel_rfl) (fun _ => (op_move e181)) ?_
    refine WA.all [0, 3] (by kernel_rfl) rfl ⟨⟨_, rfl, ?_⟩, ⟨_, rfl, ?_⟩, trivial⟩
    · refine WL.val (Value.int .i64 a) _ (op_load one_2 e177 (BoxAt.cell (St.boxAt hS188 0 rfl) rfl)) rfl ?_
      refine WL.nil ?_
      show WA _ _ _ _ _ _ _ _
      refine WA.all [2, 3] (by kernel_rfl) rfl ⟨⟨_, rfl, ?_⟩, ⟨_, rfl, ?_⟩, trivial⟩
      · refine WL.val (Value.int .i64 (w64 ((a).tdiv mm))) _ (op_quo (b := mm) rfl rfl h0m) rfl ?_
        refine WL.nil ?_
        show WA _ _ _ _ _ _ _ _
        refine WA.all [3, 6] (by kernel_rfl) rfl ⟨⟨_, rfl, ?_⟩, ⟨_, rfl, ?_⟩, trivial⟩
        · refine WL.val (Value.int .i64 b) _ (op_load one_2 e178 (BoxAt.cell (St.boxAt hS188 1 rfl) rfl)) rfl ?_
          refine WL.nil ?_
          show WA _ _ _ _ _ _ _ _
          refine WA.all [5, 6] (by kernel_rfl) rfl ⟨⟨_, rfl, ?_⟩, ⟨_, rfl, ?_⟩, trivial⟩
          · refine WL.val (Value.int .i64 (w64 ((b).tdiv mm))) _ (op_quo (b := mm) rfl rfl h0m) rfl ?_
            refine WL.nil ?_
            show WA _ _ _ _ _ _ _ _
            refine WA.all [6] (by kernel_rfl) rfl ⟨⟨_, rfl, ?_⟩, trivial⟩
            · refine WL.storeBox [(Value.int .i64 (w64 ((a).tdiv mm)))] hS188 (k := 0) rfl e177 rfl (us := [(Value.int .i64 (w64 ((a).tdiv mm)))]) rfl sz_2 rfl rfl (all_cons rfl all_nil) rfl ?_
              intro wd189 hS190
              replace hS190 : St w wd189 [bx b1 [(Value.int .i64 (w64 ((a).tdiv mm)))], bx b6 [(Value.int .i64 b)], bx b11 [(Value.int .i64 (w64 (s0 + (w64 (x137 * p0)))))], bx b15 [(Value.int .i64 (w64 (p0 * mm)))], EE] := hS190
              refine WL.nil ?_
              show WA _ _ _ _ _ _ _ _
              refine WA.all [7] (by kernel_rfl) rfl ⟨⟨_, rfl, ?_⟩, trivial⟩
              · refine WL.storeBox [(Value.int .i64 (w64 ((b).tdiv mm)))] hS190 (k := 1) rfl e178 rfl (us := [(Value.int .i64 (w64 ((b).tdiv mm)))]) rfl sz_2 rfl rfl (all_cons rfl all_nil) rfl ?_
                intro wd191 hS192
                replace hS192 : St w wd191 [bx b1 [(Value.int .i64 (w64 ((a).tdiv mm)))], bx b6 [(Value.int .i64 (w64 ((b).tdiv mm)))], bx b11 [(Value.int .i64 (w64 (s0 + (w64 (x137 * p0)))))], bx b15 [(Value.int .i64 (w64 (p0 * mm)))], EE] := hS192
                refine WL.nil ?_
                show WA _ _ _ _ _ _ _ _
                refine WA.done (by kernel_rfl) ?_
                exact hfin hS192
          · refine WL.storeBox [(Value.int .i64 (w64 ((a).tdiv mm)))] hS188 (k := 0) rfl e177 rfl (us := [(Value.int .i64 (w64 ((a).tdiv mm)))]) rfl sz_2 rfl rfl (all_cons rfl all_nil) rfl ?_
            intro wd193 hS194
            replace hS194 : St w wd193 [bx b1 [(Value.int .i64 (w64 ((a).tdiv mm)))], bx b6 [(Value.int .i64 b)], bx b11 [(Value.int .i64 (w64 (s0 + (w64 (x137 * p0)))))], bx b15 [(Value.int .i64 (w64 (p0 * mm)))], EE] := hS194
            refine WL.nil ?_
            show WA _ _ _ _ _ _ _ _
            refine WA.all [5] (by kernel_rfl) rfl ⟨⟨_, rfl, ?_⟩, trivial⟩
            · refine WL.val (Value.int .i64 (w64 ((b).tdiv mm))) _ (op_quo (b := mm) rfl rfl h0m) rfl ?_
              refine WL.nil ?_
              show WA _ _ _ _ _ _ _ _
              refine WA.all [7] (by kernel_rfl) rfl ⟨⟨_, rfl, ?_⟩, trivial⟩
              · refine WL.storeBox [(Value.int .i64 (w64 ((b).tdiv mm)))] hS194 (k := 1) rfl e178 rfl (us := [(Value.int .i64 (w64 ((b).tdiv mm)))]) rfl sz_2 rfl rfl (all_cons rfl all_nil) rfl ?_
                intro wd195 hS196
                replace hS196 : St w wd195 [bx b1 [(Value.int .i64 (w64 ((a).tdiv mm)))], bx b6 [(Value.int .i64 (w64 ((b).tdiv mm)))], bx b11 [(Value.int .i64 (w64 (s0 + (w64 (x137 * p0)))))], bx b15 [(Value.int .i64 (w64 (p0 * mm)))], EE] := hS196
                refine WL.nil ?_
                show WA _ _ _ _ _ _ _ _
                refine WA.done (by kernel_rfl) ?_
                exact hfin hS196
        · refine WL.storeBox [(Value.int .i64 (w64 ((a).tdiv mm)))] hS188 (k := 0) rfl e177 rfl (us := [(Value.int .i64 (w64 ((a).tdiv mm)))]) rfl sz_2 rfl rfl (all_cons rfl all_nil) rfl ?_
          intro wd197 hS198
          replace hS198 : St w wd197 [bx b1 [(Value.int .i64 (w64 ((a).tdiv mm)))], bx b6 [(Value.int .i64 b)], bx b11 [(Value.int .i64 (w64 (s0 + (w64 (x137 * p0)))))], bx b15 [(Value.int .i64 (w64 (p0 * mm)))], EE] := hS198
          refine WL.nil ?_
          show WA _ _ _ _ _ _ _ _
          refine WA.all [3] (by kernel_rfl) rfl ⟨⟨_, rfl, ?_⟩, trivial⟩
          · refine WL.val (Value.int .i64 b) _ (op_load one_2 e178 (BoxAt.cell (St.boxAt hS198 1 rfl) rfl)) rfl ?_
            refine WL.nil ?_
            show WA _ _ _ _ _ _ _ _
            refine WA.all [5] (by kernel_rfl) rfl ⟨⟨_, rfl, ?_⟩, trivial⟩
            · refine WL.val (Value.int .i64 (w64 ((b).tdiv mm))) _ (op_quo (b := mm) rfl rfl h0m) rfl ?_
              refine WL.nil ?_
              show WA _ _ _ _ _ _ _ _
              refine WA.all [7] (by kernel_rfl) rfl ⟨⟨_, rfl, ?_⟩, trivial⟩
              · refine WL.storeBox [(Value.int .i64 (w64 ((b).tdiv mm)))] hS198 (k := 1) rfl e178 rfl (us := [(Value.int .i64 (w64 ((b).tdiv mm)))]) rfl sz_2 rfl rfl (all_cons rfl all_nil) rfl ?_
                intro wd199 hS200
                replace hS200 : St w wd199 [bx b1 [(Value.int .i64 (w64 ((a).tdiv mm)))], bx b6 [(Value.int .i64 (w64 ((b).tdiv mm)))], bx b11 [(Value.int .i64 (w64 (s0 + (w64 (x137 * p0)))))], bx b15 [(Value.int .i64 (w64 (p0 * mm)))], EE] := hS200
                refine WL.nil ?_
                show WA _ _ _ _ _ _ _ _
                refine WA.done (by kernel_rfl) ?_
                exact hfin hS200
      · refine WL.val (Value.int .i64 b) _ (op_load one_2 e178 (BoxAt.cell (St.boxAt hS188 1 rfl) rfl)) rfl ?_
        refine WL.nil ?_
        show WA _ _ _ _ _ _ _ _
        refine WA.all [2, 5] (by kernel_rfl) rfl ⟨⟨_, rfl, ?_⟩, ⟨_, rfl, ?_⟩, trivial⟩
        · refine WL.val (Value.int .i64 (w64 ((a).tdiv mm))) _ (op_quo (b := mm) rfl rfl h0m) rfl ?_
          refine WL.nil ?_
          show WA _ _ _ _ _ _ _ _
          refine WA.all [5, 6] (by kernel_rfl) rfl ⟨⟨_, rfl, ?_⟩, ⟨_, rfl, ?_⟩, trivial⟩
          · refine WL.val (Value.int .i64 (w64 ((b).tdiv mm))) _ (op_quo (b := mm) rfl rfl h0m) rfl ?_
            refine WL.nil ?_
            show WA _ _ _ _ _ _ _ _
            refine WA.all [6] (by kernel_rfl) rfl ⟨⟨_, rfl, ?_⟩, trivial⟩
            · refine WL.storeBox [(Value.int .i64 (w64 ((a).tdiv mm)))] hS188 (k := 0) rfl e177 rfl (us := [(Value.int .i64 (w64 ((a).tdiv mm)))]) rfl sz_2 rfl rfl (all_cons rfl all_nil) rfl ?_
              intro wd201 hS202
              replace hS202 : St w wd201 [bx b1 [(Value.int .i64 (w64 ((a).tdiv mm)))], bx b6 [(Value.int .i64 b)], bx b11 [(Value.int .i64 (w64 (s0 + (w64 (x137 * p0)))))], bx b15 [(Value.int .i64 (w64 (p0 * mm)))], EE] := hS202
              refine WL.nil ?_
              show WA _ _ _ _ _ _ _ _
              refine WA.all [7] (by kernel_rfl) rfl ⟨⟨_, rfl, ?_⟩, trivial⟩
              · refine WL.storeBox [(Value.int .i64 (w64 ((b).tdiv mm)))] hS202 (k := 1) rfl e178 rfl (us := [(Value.int .i64 (w64 ((b).tdiv mm)))]) rfl sz_2 rfl rfl (all_cons rfl all_nil) rfl ?_
                intro wd203 hS204
                replace hS204 : St w wd203 [bx b1 [(Value.int .i64 (w64 ((a).tdiv mm)))], bx b6 [(Value.int .i64 (w64 ((b).tdiv mm)))], bx b11 [(Value.int .i64 (w64 (s0 + (w64 (x137 * p0)))))], bx b15 [(Value.int .i64 (w64 (p0 * mm)))], EE] := hS204
                refine WL.nil ?_
                show WA _ _ _ _ _ _ _ _
                refine WA.done (by kernel_rfl) ?_
                exact hfin hS204
          · refine WL.storeBox [(Value.int .i64 (w64 ((a).tdiv mm)))] hS188 (k := 0) rfl e177 rfl (us := [(Value.int .i64 (w64 ((a).tdiv mm)))]) rfl sz_2 rfl rfl (all_cons rfl all_nil) rfl ?_
            intro wd205 hS206
            replace hS206 : St w wd205 [bx b1 [(Value.int .i64 (w64 ((a).tdiv mm)))], bx b6 [(Value.int .i64 b)], bx b11 [(Value.int .i64 (w64 (s0 + (w64 (x137 * p0)))))], bx b15 [(Value.int .i64 (w64 (p0 * mm)))], EE] := hS206
            refine WL.nil ?_
            show WA _ _ _ _ _ _ _ _
            refine WA.all [5] (by kernel_rfl) rfl ⟨⟨_, rfl, ?_⟩, trivial⟩
            · refine WL.val (Value.int .i64 (w64 ((b).tdiv mm))) _ (op_quo (b := mm) rfl rfl h0m) rfl ?_
              refine WL.nil ?_
              show WA _ _ _ _ _ _ _ _
              refine WA.all [7] (by kernel_rfl) rfl ⟨⟨_, rfl, ?_⟩, trivial⟩
              · refine WL.storeBox [(Value.int .i64 (w64 ((b).tdiv mm)))] hS206 (k := 1) rfl e178 rfl (us := [(Value.int .i64 (w64 ((b).tdiv mm)))]) rfl sz_2 rfl rfl (all_cons rfl all_nil) rfl ?_
                intro wd207 hS208
                replace hS208 : St w wd207 [bx b1 [(Value.int .i64 (w64 ((a).tdiv mm)))], bx b6 [(Value.int .i64 (w64 ((b).tdiv mm)))], bx b11 [(Value.int .i64 (w64 (s0 + (w64 (x137 * p0)))))], bx b15 [(Value.int .i64 (w64 (p0 * mm)))], EE] := hS208
                refine WL.nil ?_
                show WA _ _ _ _ _ _ _ _
                refine WA.done (by kernel_rfl) ?_
                exact hfin hS208
        · refine WL.val (Value.int .i64 (w64 ((b).tdiv mm))) _ (op_quo (b := mm) rfl rfl h0m) rfl ?_
          refine WL.nil ?_
          show WA _ _ _ _ _ _ _ _
          refine WA.all [2] (by kernel_rfl) rfl ⟨⟨_, rfl, ?_⟩, trivial⟩
          · refine WL.val (Value.int .i64 (w64 ((a).tdiv mm))) _ (op_quo (b := mm) rfl rfl h0m) rfl ?_
            refine WL.nil ?_
            show WA _ _ _ _ _ _ _ _
            refine WA.all [6] (by kernel_rfl) rfl ⟨⟨_, rfl, ?_⟩, trivial⟩
            · refine WL.storeBox [(Value.int .i64 (w64 ((a).tdiv mm)))] hS188 (k := 0) rfl e177 rfl (us := [(Value.int .i64 (w64 ((a).tdiv mm)))]) rfl sz_2 rfl rfl (all_cons rfl all_nil) rfl ?_
              intro wd209 hS210
              replace hS210 : St w wd209 [bx b1 [(Value.int .i64 (w64 ((a).tdiv mm)))], bx b6 [(Value.int .i64 b)], bx b11 [(Value.int .i64 (w64 (s0 + (w64 (x137 * p0)))))], bx b15 [(Value.int .i64 (w64 (p0 * mm)))], EE] := hS210
              refine WL.nil ?_
              show WA _ _ _ _ _ _ _ _
              refine WA.all [7] (by kernel_rfl) rfl ⟨⟨_, rfl, ?_⟩, trivial⟩
              · refine WL.storeBox [(Value.int .i64 (w64 ((b).tdiv mm)))] hS210 (k := 1) rfl e178 rfl (us := [(Value.int .i64 (w64 ((b).tdiv mm)))]) rfl sz_2 rfl rfl (all_cons rfl all_nil) rfl ?_
                intro wd211 hS212
                replace hS212 : St w wd211 [bx b1 [(Value.int .i64 (w64 ((a).tdiv mm)))], bx b6 [(Value.int .i64 (w64 ((b).tdiv mm)))], bx b11 [(Value.int .i64 (w64 (s0 + (w64 (x137 * p0)))))], bx b15 [(Value.int .i64 (w64 (p0 * mm)))], EE] := hS212
                refine WL.nil ?_
                show WA _ _ _ _ _ _ _ _
                refine WA.done (by kernel_rfl) ?_
                exact hfin hS212
    · refine WL.val (Value.int .i64 b) _ (op_load one_2 e178 (BoxAt.cell (St.boxAt hS188 1 rfl) rfl)) rfl ?_
      refine WL.nil ?_
      show WA _ _ _ _ _ _ _ _
      refine WA.all [0, 5] (by kernel_rfl) rfl ⟨⟨_, rfl, ?_⟩, ⟨_, rfl, ?_⟩, trivial⟩
      · refine WL.val (Value.int .i64 a) _ (op_load one_2 e177 (BoxAt.cell (St.boxAt hS188 0 rfl) rfl)) rfl ?_
        refine WL.nil ?_
        show WA _ _ _ _ _ _ _ _
        refine WA.all [2, 5] (by kernel_rfl) rfl ⟨⟨_, rfl, ?_⟩, ⟨_, rfl, ?_⟩, trivial⟩
        · refine WL.val (Value.int .i64 (w64 ((a).tdiv mm))) _ (op_quo (b := mm) rfl rfl h0m) rfl ?_
          refine WL.nil ?_
          show WA _ _ _ _ _ _ _ _
          refine WA.all [5, 6] (by kernel_rfl) rfl ⟨⟨_, rfl, ?_⟩, ⟨_, rfl, ?_⟩, trivial⟩
          · refine WL.val (Value.int .i64 (w64 ((b).tdiv mm))) _ (op_quo (b := mm) rfl rfl h0m) rfl ?_
            refine WL.nil ?_
            show WA _ _ _ _ _ _ _ _
            refine WA.all [6] (by kernel_rfl) rfl ⟨⟨_, rfl, ?_⟩, trivial⟩
            · refine WL.storeBox [(Value.int .i64 (w64 ((a).tdiv mm)))] hS188 (k := 0) rfl e177 rfl (us := [(Value.int .i64 (w64 ((a).tdiv mm)))]) rfl sz_2 rfl rfl (all_cons rfl all_nil) rfl ?_
              intro wd213 hS214
              replace hS214 : St w wd213 [bx b1 [(Value.int .i64 (w64 ((a).tdiv mm)))], bx b6 [(Value.int .i64 b)], bx b11 [(Value.int .i64 (w64 (s0 + (w64 (x137 * p0)))))], bx b15 [(Value.int .i64 (w64 (p0 * mm)))], EE] := hS214
              refine WL.nil ?_
              show WA _ _ _ _ _ _ _ _
              refine WA.all [7] (by kernel_rfl) rfl ⟨⟨_, rfl, ?_⟩, trivial⟩
              · refine WL.storeBox [(Value.int .i64 (w64 ((b).tdiv mm)))] hS214 (k := 1) rfl e178 rfl (us := [(Value.int .i64 (w64 ((b).tdiv mm)))]) rfl sz_2 rfl rfl (all_cons rfl all_nil) rfl ?_
                intro wd215 hS216
                replace hS216 : St w wd215 [bx b1 [(Value.int .i64 (w64 ((a).tdiv mm)))], bx b6 [(Value.int .i64 (w64 ((b).tdiv mm)))], bx b11 [(Value.int .i64 (w64 (s0 + (w64 (x137 * p0)))))], bx b15 [(Value.int .i64 (w64 (p0 * mm)))], EE] := hS216
                refine WL.nil ?_
                show WA _ _ _ _ _ _ _ _
                refine WA.done (by kernel_rfl) ?_
                exact hfin hS216
          · refine WL.storeBox [(Value.int .i64 (w64 ((a).tdiv mm)))] hS188 (k := 0) rfl e177 rfl (us := [(Value.int .i64 (w64 ((a).tdiv mm)))]) rfl sz_2 rfl rfl (all_cons rfl all_nil) rfl ?_
            intro wd217 hS218
            replace hS218 : St w wd217 [bx b1 [(Value.int .i64 (w64 ((a).tdiv mm)))], bx b6 [(Value.int .i64 b)], bx b11 [(Value.int .i64 (w64 (s0 + (w64 (x137 * p0)))))], bx b15 [(Value.int .i64 (w64 (p0 * mm)))], EE] := hS218
            refine WL.nil ?_
            show WA _ _ _ _ _ _ _ _
            refine WA.all [5] (by kernel_rfl) rfl ⟨⟨_, rfl, ?_⟩, trivial⟩
            · refine WL.val (Value.int .i64 (w64 ((b).tdiv mm))) _ (op_quo (b := mm) rfl rfl h0m) rfl ?_
              refine WL.nil ?_
              show WA _ _ _ _ _ _ _ _
              refine WA.all [7] (by kernel_rfl) rfl ⟨⟨_, rfl, ?_⟩, trivial⟩
              · refine WL.storeBox [(Value.int .i64 (w64 ((b).tdiv mm)))] hS218 (k := 1) rfl e178 rfl (us := [(Value.int .i64 (w64 ((b).tdiv mm)))]) rfl sz_2 rfl rfl (all_cons rfl all_nil) rfl ?_
                intro wd219 hS220
                replace hS220 : St w wd219 [bx b1 [(Value.int .i64 (w64 ((a).tdiv mm)))], bx b6 [(Value.int .i64 (w64 ((b).tdiv mm)))], bx b11 [(Value.int .i64 (w64 (s0 + (w64 (x137 * p0)))))], bx b15 [(Value.int .i64 (w64 (p0 * mm)))], EE] := hS220
                refine WL.nil ?_
                show WA _ _ _ _ _ _ _ _
                refine WA.done (by kernel_rfl) ?_
                exact hfin hS220
        · refine WL.val (Value.int .i64 (w64 ((b).tdiv mm))) _ (op_quo (b := mm) rfl rfl h0m) rfl ?_
          refine WL.nil ?_
          show WA _ _ _ _ _ _ _ _
          refine WA.all [2] (by kernel_rfl) rfl ⟨⟨_, rfl, ?_⟩, trivial⟩
          · refine WL.val (Value.int .i64 (w64 ((a).tdiv mm))) _ (op_quo (b := mm) rfl rfl h0m) rfl ?_
            refine WL.nil ?_
            show WA _ _ _ _ _ _ _ _
            refine WA.all [6] (by kernel_rfl) rfl ⟨⟨_, rfl, ?_⟩, trivial⟩
            · refine WL.storeBox [(Value.int .i64 (w64 ((a).tdiv mm)))] hS188 (k := 0) rfl e177 rfl (us := [(Value.int .i64 (w64 ((a).tdiv mm)))]) rfl sz_2 rfl rfl (all_cons rfl all_nil) rfl ?_
              intro wd221 hS222
              replace hS222 : St w wd221 [bx b1 [(Value.int .i64 (w64 ((a).tdiv mm)))], bx b6 [(Value.int .i64 b)], bx b11 [(Value.int .i64 (w64 (s0 + (w64 (x137 * p0)))))], bx b15 [(Value.int .i64 (w64 (p0 * mm)))], EE] := hS222
              refine WL.nil ?_
              show WA _ _ _ _ _ _ _ _
              refine WA.all [7] (by kernel_rfl) rfl ⟨⟨_, rfl, ?_⟩, trivial⟩
              · refine WL.storeBox [(Value.int .i64 (w64 ((b).tdiv mm)))] hS222 (k := 1) rfl e178 rfl (us := [(Value.int .i64 (w64 ((b).tdiv mm)))]) rfl sz_2 rfl rfl (all_cons rfl all_nil) rfl ?_
                intro wd223 hS224
                replace hS224 : St w wd223 [bx b1 [(Value.int .i64 (w64 ((a).tdiv mm)))], bx b6 [(Value.int .i64 (w64 ((b).tdiv mm)))], bx b11 [(Value.int .i64 (w64 (s0 + (w64 (x137 * p0)))))], bx b15 [(Value.int .i64 (w64 (p0 * mm)))], EE] := hS224
                refine WL.nil ?_
                show WA _ _ _ _ _ _ _ _
                refine WA.done (by kernel_rfl) ?_
                exact hfin hS224
      · refine WL.val (Value.int .i64 (w64 ((b).tdiv mm))) _ (op_quo (b := mm) rfl rfl h0m) rfl ?_
        refine WL.nil ?_
        show WA _ _ _ _ _ _ _ _
        refine WA.all [0] (by kernel_rfl) rfl ⟨⟨_, rfl, ?_⟩, trivial⟩
        · refine WL.val (Value.int .i64 a) _ (op_load one_2 e177 (BoxAt.cell (St.boxAt hS188 0 rfl) rfl)) rfl ?_
          refine WL.nil ?_
          show WA _ _ _ _ _ _ _ _
          refine WA.all [2] (by kernel_rfl) rfl ⟨⟨_, rfl, ?_⟩, trivial⟩
          · refine WL.val (Value.int .i64 (w64 ((a).tdiv mm))) _ (op_quo (b := mm) rfl rfl h0m) rfl ?_
            refine WL.nil ?_
            show WA _ _ _ _ _ _ _ _
            refine WA.all [6] (by kernel_rfl) rfl ⟨⟨_, rfl, ?_⟩, trivial⟩
            · refine WL.storeBox [(Value.int .i64 (w64 ((a).tdiv mm)))] hS188 (k := 0) rfl e177 rfl (us := [(Value.int .i64 (w64 ((a).tdiv mm)))]) rfl sz_2 rfl rfl (all_cons rfl all_nil) rfl ?_
              intro wd225 hS226
              replace hS226 : St w wd225 [bx b1 [(Value.int .i64 (w64 ((a).tdiv mm)))], bx b6 [(Value.int .i64 b)], bx b11 [(Value.int .i64 (w64 (s0 + (w64 (x137 * p0)))))], bx b15 [(Value.int .i64 (w64 (p0 * mm)))], EE] := hS226
              refine WL.nil ?_
              show WA _ _ _ _ _ _ _ _
              refine WA.all [7] (by kernel_rfl) rfl ⟨⟨_, rfl, ?_⟩, trivial⟩
              · refine WL.storeBox [(Value.int .i64 (w64 ((b).tdiv mm)))] hS226 (k := 1) rfl e178 rfl (us := [(Value.int .i64 (w64 ((b).tdiv mm)))]) rfl sz_2 rfl rfl (all_cons rfl all_nil) rfl ?_
                intro wd227 hS228
                replace hS228 : St w wd227 [bx b1 [(Value.int .i64 (w64 ((a).tdiv mm)))], bx b6 [(Value.int .i64 (w64 ((b).tdiv mm)))], bx b11 [(Value.int .i64 (w64 (s0 + (w64 (x137 * p0)))))], bx b15 [(Value.int .i64 (w64 (p0 * mm)))], EE] := hS228
                refine WL.nil ?_
                show WA _ _ _ _ _ _ _ _
                refine WA.done (by kernel_rfl) ?_
                exact hfin hS228

theorem bk_maker {w : World} {v : Value} (hv : v.cells = [v].toArray) : Ret Try.prog 107 #[v] w (fun u w' => ∃ Bs, u = .func (.func 111) #[] #[.pointer (some ⟨Bs, 0, none⟩)] ∧ St w w' [bx Bs [v]]) := by
  have hS0 : St w w [] := St.start w
  refine Ret.start (fn := Try.f107) Try.func107 rfl 4 rfl rfl ?_
  refine W.seq (W.region ?_)
  refine WL.box hS0 rfl (cs := [v]) hv rfl ?_
  intro b1 wd2 hS3 he4 hx5
  refine WL.val Value.nilFunc _ (op_assign rfl) rfl ?_
  refine WL.nil ?_
  show W _ _ _ _ _ _
  refine W.seq (W.region ?_)
  refine WL.val (.func (.func 111) #[] #[.pointer (some ⟨b1, 0, none⟩)]) _ (op_makeFunc (va := #[]) (vb := #[.pointer (some ⟨b1, 0, none⟩)]) args0 (args1 rfl)) rfl ?_
  refine WL.val (.func (.func 111) #[] #[.pointer (some ⟨b1, 0, none⟩)]) _ (op_assign rfl) rfl ?_
  refine WL.nil ?_
  show W _ _ _ _ _ _
  refine W.ret ?_
  show FinP _ _ _ _ _ _ _
  exact FinP.ret _ (res1 rfl rfl) ⟨b1, rfl, hS3⟩

theorem bk_closure {α : Type} {enc : α → Array Value} {g : Nat → α} {w0 Wd : World} {v : Value} {zs : List Int} (hrep : (Ty.sl (Ty.i .i64)).rep w0 v zs)
    (hg : ∀ j, j < zs.length → enc (g j) = #[.int .i64 ((zs.length : Int) - 1 - j), .int .i64 (zs.getD (zs.length - 1 - j) 0)]) {m l Bs : Nat} {J Jx : List α → World → Prop}
    (hY : ∀ pre x W, J pre W → pre.length < zs.length → YieldAt Fence.wide (m - 1) Try.prog l (enc x) W fun e W' => (e = .returned (.bool true) ∧ J (pre ++ [x]) W' ∧ KpB w0 Bs W W') ∨ (e = .returned (.bool false) ∧ Jx (pre ++ [x]) W'))
    (hW : Ext w0 Wd) (hBs : Wd.cell? ⟨Bs, 0, none⟩ = some v) (h0 : J [] Wd) :
    CallsIn Fence.wide m Try.prog 111 #[.func (.yield l) #[] #[], .pointer (some ⟨Bs, 0, none⟩)] Wd fun e W' => (∃ v, e = .returned v) ∧ ((∃ xs, xs = (List.range zs.length).map g ∧ J xs W') ∨ (∃ pre, True ∧ Jx pre W')) := by
  refine WI.calls Try.func111 rfl rfl rfl rfl ?_
  · skip
    have hm : zs.length ≤ 9223372036854775807 := by have := repSl.max hrep; simpa [maxLen] using this
    have ew : ∀ x : Int, -9223372036854775808 ≤ x → x ≤ 9223372036854775807 → IntKind.i64.wrap x = x := fun x h1 h2 => w64_id (inR_i64.2 ⟨h1, h2⟩)
    refine WI.seq (WI.ofW (W.region ?_))
    refine WL.val v _ (op_load one_22 rfl hBs) rfl ?_
    refine WL.val (Value.int .i64 (zs.length : Int)) _ (op_lenL sl_22 (Ty.lift _ hW hrep) rfl) rfl ?_
    refine WL.val (Value.int .i64 ((zs.length : Int) - 1)) _ (by rw [← ew ((zs.length : Int) - 1) (by omega) (by omega)]; exact op_sub rfl rfl) rfl ?_
    refine WL.val (Value.int .i64 ((zs.length : Int) - 1)) _ (op_assign rfl) rfl ?_
    refine WL.nil ?_
    show WI _ _ _ _ _ _ _
    refine WI.block (WI.loop (fun f wr => ∃ j : Nat, j ≤ zs.length ∧ f 0 = .func (.yield l) #[] #[] ∧ f 1 = .pointer (some ⟨Bs, 0, none⟩) ∧ f 3 = .int .i64 ((zs.length : Int) - 1 - j) ∧ J ((List.range j).map g) wr ∧ Ext w0 wr ∧ wr.cell? ⟨Bs, 0, none⟩ = some v) 3 (fun v => match v with | .int _ x => (x + 1).toNat | _ => 0)
      ⟨0, Nat.zero_le _, rfl, rfl, by show Value.int .i64 ((zs.length : Int) - 1) = _; congr 1; omega, h0, hW, hBs⟩ ?_)
    rintro f wr ⟨j, hj, hf0, hf1, hf3, hJ, hE, hB⟩
    refine WI.seq (WI.seq (WI.ofW (W.region ?_)))
    refine WL.val (Value.int .i64 ((zs.length : Int) - 1 - j)) _ (op_move hf3) rfl ?_
    refine WL.val (Value.bool (decide (((zs.length : Int) - 1 - j) ≥ 0))) _ (op_geq rfl rfl) rfl ?_
    refine WL.nil ?_
    show WI _ _ _ _ _ _ _
    refine WI.cond (decide (((zs.length : Int) - 1 - j) ≥ 0)) rfl (fun hc => ?_) (fun hc => ?_)
    · have hlt : j < zs.length := by simp at hc; omega
      refine WI.skip ?_
      show WI _ _ _ _ _ _ _
      refine WI.seq (WI.block (WI.seq (WI.region ?_)))
      refine WLI.val (.func (.yield l) #[] #[]) _ (op_move hf0) rfl (by intro c h; cases h) ?_
      refine WLI.val (Value.int .i64 ((zs.length : Int) - 1 - j)) _ (op_move hf3) rfl (by intro c h; cases h) ?_
      refine WLI.val v _ (op_load one_22 hf1 hB) rfl (by intro c h; cases h) ?_
      refine WLI.val (Value.int .i64 ((zs.length : Int) - 1 - j)) _ (op_move hf3) rfl (by intro c h; cases h) ?_
      refine WLI.val (Value.pointer (some (elA v ((zs.length : Int) - 1 - j).toNat))) _ (op_idx sl_22 (Ty.lift _ hE hrep) rfl rfl (by omega) (by omega)) rfl (by intro c h; cases h) ?_
      have en : ((zs.length : Int) - 1 - j).toNat = zs.length - 1 - j := by omega
      obtain ⟨u, hc2, hu, _⟩ := repSl.el hrep (i := zs.length - 1 - j) (x := zs.getD (zs.length - 1 - j) 0) (by rw [List.getD_eq_getElem?_getD, List.getElem?_eq_getElem (by omega)]; rfl)
      subst hu
      refine WLI.val (Value.int .i64 (zs.getD (zs.length - 1 - j) 0)) _ (op_load one_2 rfl (by rw [en]; exact Ext.cell hE hc2)) rfl (by intro c h; cases h) ?_
      refine WLI.yield rfl rfl (vs := enc (g j)) (by rw [hg j hlt]; exact args2 rfl rfl) (hY _ (g j) wr hJ (by simp; exact hlt)) rfl ?_
      rintro e W3 (⟨rfl, hJ3, hk⟩ | ⟨rfl, hJx⟩)
      · refine ⟨_, rfl, ?_⟩
        refine WLI.val (.bool false) _ (op_not (b := true) rfl) rfl (by intro c h; cases h) (WLI.nil ?_)
        show WI _ _ _ _ _ _ _
        refine WI.cond false rfl (fun h => by cases h) (fun _ => WI.skip ?_)
        show WI _ _ _ _ _ _ _
        refine WI.ofW (W.region ?_)
        refine WL.val (Value.int .i64 ((zs.length : Int) - 1 - j)) _ (op_move hf3) rfl ?_
        refine WL.val (Value.int .i64 ((zs.length : Int) - 1 - (j + 1 : Nat))) _ (by rw [show ((zs.length : Int) - 1 - (j + 1 : Nat)) = IntKind.i64.wrap ((zs.length : Int) - 1 - j - 1) from by rw [ew _ (by omega) (by omega)]; omega]; exact op_sub rfl rfl) rfl ?_
        refine WL.val (Value.int .i64 ((zs.length : Int) - 1 - (j + 1 : Nat))) _ (op_assign rfl) rfl ?_
        refine WL.nil ?_
        refine ⟨⟨j + 1, hlt, hf0, hf1, rfl, by rw [List.range_succ, List.map_append]; exact hJ3, Go.RowKit.Below.trans hE hk.1, cell_same hk.2 hB⟩, ?_⟩
        show ((zs.length : Int) - 1 - (j + 1 : Nat) + 1).toNat < (match f 3 with | .int _ x => (x + 1).toNat | _ => 0)
        rw [hf3]
        show ((zs.length : Int) - 1 - (j + 1 : Nat) + 1).toNat < ((zs.length : Int) - 1 - j + 1).toNat
        omega
      · refine ⟨_, rfl, ?_⟩
        refine WLI.val (.bool true) _ (op_not (b := false) rfl) rfl (by intro c h; cases h) (WLI.nil ?_)
        show WI _ _ _ _ _ _ _
        refine WI.cond true rfl (fun _ => WI.ret ?_) (fun h => by cases h)
        exact ⟨.inr rfl, .inr ⟨_, trivial, hJx⟩⟩
    · have hje : j = zs.length := by simp at hc; omega
      subst hje
      refine WI.exit ?_
      show (Exit.normal = Exit.normal ∨ Exit.normal = Exit.ret) ∧ _
      exact ⟨.inl rfl, .inl ⟨_, rfl, hJ⟩⟩

/-! ### The loop's caller -/

abbrev BkI := { x : Int × Int // InR .i64 x.1 ∧ InR .i64 x.2 ∧ x.2 ≠ 0 }
def bkEnc (x : BkI) : Array Value := #[.int .i64 x.1.1, .int .i64 x.1.2]
def bkF (a b : Int) (pre : List BkI) : Int × Int × Int × Int := pre.foldl (fun s x => p_impl_addElements_S x.1.2 s) (a, b, 0, 1)
theorem bkF_snoc (a b : Int) (pre : List BkI) (x : BkI) : bkF a b (pre ++ [x]) = p_impl_addElements_S x.1.2 (bkF a b pre) := by simp [bkF]
theorem bkF_rng {a b : Int} (ha : InR .i64 a) (hb : InR .i64 b) (pre : List BkI) : InR .i64 (bkF a b pre).1 ∧ InR .i64 (bkF a b pre).2.1 ∧ InR .i64 (bkF a b pre).2.2.1 ∧ InR .i64 (bkF a b pre).2.2.2 := by
  rcases List.eq_nil_or_concat pre with rfl | ⟨pre, x, rfl⟩
  · exact ⟨ha, hb, inR_i64.2 (by simp [bkF]), inR_i64.2 (by simp [bkF])⟩
  · rw [List.concat_eq_append, bkF_snoc]; exact ⟨inR_wrap _ _, inR_wrap _ _, inR_wrap _ _, inR_wrap _ _⟩
theorem bk_list (orders : List Int) (hr : ∀ x ∈ orders, InR .i64 x) (hz : ∀ x ∈ orders, x ≠ 0) (hm : orders.length ≤ 9223372036854775807) : ∃ g : Nat → BkI, ∀ j, j < orders.length → (g j).1 = ((orders.length : Int) - 1 - j, orders.getD (orders.length - 1 - j) 0) := by
  refine ⟨fun j => if h : j < orders.length then ⟨((orders.length : Int) - 1 - j, orders.getD (orders.length - 1 - j) 0), inR_i64.2 ⟨by omega, by omega⟩, ?_, ?_⟩ else ⟨(0, 1), inR_i64.2 (by simp), inR_i64.2 (by simp), by simp⟩, fun j hj => by simp [hj]⟩
  · refine hr _ ?_
    rw [List.getD_eq_getElem?_getD, List.getElem?_eq_getElem (by omega)]; exact List.getElem_mem _
  · refine hz _ ?_
    rw [List.getD_eq_getElem?_getD, List.getElem?_eq_getElem (by omega)]; exact List.getElem_mem _
theorem bk_fold (orders : List Int) (a b : Int) (g : Nat → BkI) (hg : ∀ j, j < orders.length → (g j).1 = ((orders.length : Int) - 1 - j, orders.getD (orders.length - 1 - j) 0)) :
    bkF a b ((List.range orders.length).map g) = orders.reverse.foldl (fun s m => p_impl_addElements_S m s) (a, b, 0, 1) := by
  have e : ((List.range orders.length).map g).map (fun x => x.1.2) = orders.reverse := by
    apply List.ext_getElem
    · simp
    · intro i h1 h2
      simp at h1
      simp [hg i h1, List.getElem_reverse, List.getD_eq_getElem?_getD, List.getElem?_eq_getElem (show orders.length - 1 - i < orders.length by omega)]
  rw [← e, List.foldl_map]
  rfl
theorem c_impl_addElements {w : World} {orders : (List Int)} {v_orders : Value} {a : Int} {b : Int} (r_orders : (Ty.sl (Ty.i .i64)).rep w v_orders orders) (r_a : InR .i64 a) (r_b : InR .i64 b) {res : Int} (h : p_impl_addElements orders a b = some res) :
    Ret Try.prog 101 #[v_orders, (Value.int .i64 a), (Value.int .i64 b)] w (fun v w' => v = Value.int .i64 res ∧ InR .i64 res ∧ Ext w w') := by
  unfold p_impl_addElements at h
  split at h
  case isFalse => cases h
  rename_i hz
  have hz' : ∀ x ∈ orders, x ≠ 0 := by simpa using hz
  obtain rfl := Option.some.inj h
  have hm : orders.length ≤ 9223372036854775807 := by have := repSl.max r_orders; simpa [maxLen] using this
  have hrng : ∀ x ∈ orders, InR .i64 x := by
    intro x hx
    obtain ⟨i, hi, rfl⟩ := List.mem_iff_getElem.1 hx
    obtain ⟨u, _, _, hr⟩ := repSl.el r_orders (List.getElem?_eq_getElem hi)
    exact hr
  obtain ⟨g, hg⟩ := bk_list orders hrng hz' hm
  have hvc : v_orders.cells = [v_orders].toArray := by obtain ⟨p, c, hv, _⟩ := r_orders; rw [hv]; rfl
  refine (callsIn_wide (n := 3)).1 (callsIn_of_wp_marks Try.func101 rfl trivial ?_ rfl)
  have hS0 : St w w [] := St.start w
  refine WI.step (n := 38) (f := fr0 #[v_orders, (Value.int .i64 a), (Value.int .i64 b)]) (K := fun f1 w1 => ∃ b1 b6, f1 0 = v_orders ∧ f1 4 = .pointer (some ⟨b1, 0, none⟩) ∧ f1 5 = .pointer (some ⟨b6, 0, none⟩) ∧ St w w1 [bx b1 [Value.int .i64 a], bx b6 [Value.int .i64 b]]) (W.region ?_) (agree_start rfl (Nat.le_of_ble_eq_true rfl)) ?_
  · refine WL.box hS0 rfl (cs := [(Value.int .i64 a)]) rfl rfl ?_
    intro b1 wd2 hS3 he4 hx5
    refine WL.box hS3 rfl (cs := [(Value.int .i64 b)]) rfl rfl ?_
    intro b6 wd7 hS8 he9 hx10
    refine WL.val (Value.int .i64 (0 : Int)) _ (op_assign rfl) rfl ?_
    refine WL.nil ?_
    exact ⟨b1, b6, rfl, rfl, rfl, hS8⟩
  rintro f1 w1 a1 ha1 ⟨b1, b6, h0, h4, h5, hS8⟩
  refine WI.step (K := fun f1 w1 => ∃ b11 b15, f1 0 = v_orders ∧ f1 4 = .pointer (some ⟨b1, 0, none⟩) ∧ f1 5 = .pointer (some ⟨b6, 0, none⟩) ∧ f1 7 = .pointer (some ⟨b11, 0, none⟩) ∧ f1 8 = .pointer (some ⟨b15, 0, none⟩) ∧ St w w1 [bx b1 [Value.int .i64 a], bx b6 [Value.int .i64 b], bx b11 [Value.int .i64 0], bx b15 [Value.int .i64 1]]) (W.region ?_) ha1 ?_
  · refine WL.alloc hS8 ze_2 (cs := [(Value.int .i64 (0 : Int))]) rfl rfl ?_
    intro b11 wd12 hS13 he14
    refine WL.alloc hS13 ze_2 (cs := [(Value.int .i64 (0 : Int))]) rfl rfl ?_
    intro b15 wd16 hS17 he18
    replace hS17 : St w wd16 [bx b1 [(Value.int .i64 a)], bx b6 [(Value.int .i64 b)], bx b11 [(Value.int .i64 (0 : Int))], bx b15 [(Value.int .i64 (0 : Int))]] := hS17
    refine WL.storeBox [(Value.int .i64 (0 : Int))] hS17 (k := 2) rfl rfl rfl (us := [(Value.int .i64 (0 : Int))]) rfl sz_2 rfl rfl (all_cons rfl all_nil) rfl ?_
    intro wd19 hS20
    replace hS20 : St w wd19 [bx b1 [(Value.int .i64 a)], bx b6 [(Value.int .i64 b)], bx b11 [(Value.int .i64 (0 : Int))], bx b15 [(Value.int .i64 (0 : Int))]] := hS20
    refine WL.storeBox [(Value.int .i64 (1 : Int))] hS20 (k := 3) rfl rfl rfl (us := [(Value.int .i64 (1 : Int))]) rfl sz_2 rfl rfl (all_cons rfl all_nil) rfl ?_
    intro wd21 hS22
    refine WL.nil ?_
    exact ⟨b11, b15, h0, h4, h5, rfl, rfl, hS22⟩
  rintro f2 w2 a2 ha2 ⟨b11, b15, h0, h4, h5, h7, h8, hS22⟩
  refine wpIn_seq ?_
  refine WI.step (K := fun f1 w1 => ∃ Bs, f1 4 = .pointer (some ⟨b1, 0, none⟩) ∧ f1 5 = .pointer (some ⟨b6, 0, none⟩) ∧ f1 7 = .pointer (some ⟨b11, 0, none⟩) ∧ f1 8 = .pointer (some ⟨b15, 0, none⟩) ∧ f1 12 = .func (.func 111) #[] #[.pointer (some ⟨Bs, 0, none⟩)] ∧ St w w1 [bx b1 [Value.int .i64 a], bx b6 [Value.int .i64 b], bx b11 [Value.int .i64 0], bx b15 [Value.int .i64 1], bx Bs [v_orders]]) (W.region ?_) ha2 ?_
  · refine WL.val v_orders _ (op_move h0) rfl ?_
    refine WL.call _ (op_call fn_107 (args1 rfl)) (bk_maker hvc) rfl ?_
    rintro u w4 ⟨Bs, rfl, hS4⟩
    refine WL.nil ?_
    exact ⟨Bs, h4, h5, h7, h8, rfl, hS22.join hS4.ext hS4.sep⟩
  rintro f3 w3 a3 ha3 ⟨Bs, h4, h5, h7, h8, h12, hS3⟩
  refine wpIn_block ?_
  obtain ⟨g1, g2, g3, g4, d12, d13, d14, d23, d24, d34, hI0, gs, hsl, hsn, hcell⟩ := bk_start (s := (a, b, 0, 1)) hS3
  have hA0 : ∀ x : BkI, Agree 38 ({ tmps := ((#[13, 14] : Array Tmp).zip (bkEnc x)).foldl (fun t (p, v) => t.setIfInBounds p v) a3.tmps, defers := [] } : Act) (upd (upd f3 13 (.int .i64 x.1.1)) 14 (.int .i64 x.1.2)) := fun x => by
    have ha : Agree 38 ({ tmps := a3.tmps, defers := [] } : Act) f3 := ⟨rfl, ha3.size, ha3.get⟩
    have e : ((#[13, 14] : Array Tmp).zip (bkEnc x)).foldl (fun t (p, v) => t.setIfInBounds p v) a3.tmps = (a3.tmps.setIfInBounds 13 (.int .i64 x.1.1)).setIfInBounds 14 (.int .i64 x.1.2) := by first | rfl | simp [bkEnc]
    rw [e]
    exact (ha.put 13 (.int .i64 x.1.1) rfl).put 14 (.int .i64 x.1.2) rfl
  refine wpIn_rangeFunc_ownF (F := Fence.wide) (n := 3) rfl (by decide) (gf := 111) (lb := #[.pointer (some ⟨Bs, 0, none⟩)]) (by rw [ha3.eval]; exact h12) trivial (enters_of Try.func111 (by kernel_rfl) rfl)
    (encs := bkEnc) (Kp := KpB w Bs) (S := fun xs => xs = (List.range orders.length).map g) (Sp := fun _ => True) (N := orders.length) (w0 := w3) ?seq (fun h k => ⟨h.1.trans k.1, k.2.trans h.2⟩) ?kb (Go.RowKit.Below.refl _ _) (fun _ => rfl)
    (fun pre Wd => BkI0 w Wd b1 b6 b11 b15 Bs v_orders (bkF a b pre)) (fun _ _ _ => False) (BkI0.own hS3.ext.size) (fun c s A B row h _ _ => h) hI0
    (fun x => ({ tmps := ((#[13, 14] : Array Tmp).zip (bkEnc x)).foldl (fun t (p, v) => t.setIfInBounds p v) a3.tmps, defers := [] } : Act).put (some 10) (({ tmps := ((#[13, 14] : Array Tmp).zip (bkEnc x)).foldl (fun t (p, v) => t.setIfInBounds p v) a3.tmps, defers := [] } : Act).eval (.tmp 14))) ?assign ?body ?done ?stop
  case seq =>
    intro l J Jx Wd hW _ _ hY h0
    exact bk_closure r_orders (fun j hj => by simp only [bkEnc, hg j hj]) hY (Ext.trans hS3.ext hW) (cell_same (hW.block _ hsl) hcell) h0
  case kb =>
    intro Wd l o o' hl ho hc hw
    refine ⟨belowK_b (w := w3) hS3.ext.size Wd l o o' hl ho hc hw, World.putObj_heap_other (by omega)⟩
  case assign =>
    intro l x Wd K hK
    refine wpIn_region_lit (wpListIn_plain rfl fun K' hK' => ⟨fun _ _ => trivial, ?_⟩)
    rw [Oper.semAt_eq _ _ _ (by intro c h; cases h)]
    simp only [execOp]
    exact hK' _ _ hK
  case body =>
    intro l pre x Wd hI hlen
    obtain ⟨q1, q2, q3, q4⟩ := bkF_rng r_a r_b pre
    have hA1 := (hA0 x).put 10 (({ tmps := ((#[13, 14] : Array Tmp).zip (bkEnc x)).foldl (fun t (p, v) => t.setIfInBounds p v) a3.tmps, defers := [] } : Act).eval (.tmp 14)) rfl
    have hv14 : (({ tmps := ((#[13, 14] : Array Tmp).zip (bkEnc x)).foldl (fun t (p, v) => t.setIfInBounds p v) a3.tmps, defers := [] } : Act).eval (.tmp 14)) = .int .i64 x.1.2 := by rw [(hA0 x).eval]; rfl
    refine wpIn_mono (WR.at (bk_body (m := 3 - 1 - 1) (lr := l) q1 q2 q3 q4 x.2.2.1 x.2.2.2 (f := upd (upd (upd f3 13 (.int .i64 x.1.1)) 14 (.int .i64 x.1.2)) 10 (({ tmps := ((#[13, 14] : Array Tmp).zip (bkEnc x)).foldl (fun t (p, v) => t.setIfInBounds p v) a3.tmps, defers := [] } : Act).eval (.tmp 14))) h4 h5 h7 h8 hv14 (hI.st g1 g2 g3 g4 d12 d13 d14 d23 d24 d34)) _ hA1) ?_
    rintro e a' W' ⟨f', hag, hh⟩
    cases e <;> try exact hh.elim
    have := bk_end (s' := p_impl_addElements_S x.1.2 (bkF a b pre)) hI g1 ⟨gs, hsn⟩ hh
    exact ⟨this.1, this.2.1, by show BkI0 w W' b1 b6 b11 b15 Bs v_orders (bkF a b (pre ++ [x])); rw [bkF_snoc]; exact this.2.2⟩
  case done =>
    intro D xs Wd hD hxs hI hK
    subst hxs
    show (Code.seq _ Code.ret).wpIn _ _ _ _ _ _
    refine wpIn_seq (wpIn_region_lit (wpListIn_plain rfl fun K hK1 => ⟨fun _ _ => trivial, ?_⟩))
    have hl : OpV Try.prog (.load 2 (.tmp 7)) 2 f3 Wd (.int .i64 (bkF a b ((List.range orders.length).map g)).2.2.1) Wd := op_load one_2 h7 hI.cell3
    rw [Oper.semAt_eq _ _ _ (by intro c h; cases h)]
    rw [show (Act.eval { tmps := a3.tmps, defers := { target := .collected D, args := #[] } :: a3.defers } : Operand → Value) = ev f3 from ha3.eval]
    rw [hl _ _ _ _]
    refine hK1 _ _ ?_
    refine wpListIn_plain rfl fun K hK2 => ⟨fun _ _ => trivial, ?_⟩
    rw [Oper.semAt_eq _ _ _ (by intro c h; cases h)]
    simp only [execOp]
    refine hK2 _ _ ?_
    show Code.ret.wpIn _ _ _ _ _ _
    refine wpIn_ret ?_
    refine ⟨by simp, .inl ⟨_, _, rfl, run_takeDeferred hK, ?_⟩⟩
    rw [ha3.defers]
    refine ⟨_, results_tmp rfl _ _ _, _, rfl, ?_, ?_, ?_⟩
    · have e1 := ((ha3.put 37 (.int .i64 (bkF a b ((List.range orders.length).map g)).2.2.1) rfl).put 6 (.int .i64 (bkF a b ((List.range orders.length).map g)).2.2.1) rfl).get 6
      have e2 : (a3.put (some 37) (.int .i64 (bkF a b ((List.range orders.length).map g)).2.2.1)).eval (.tmp 37) = (.int .i64 (bkF a b ((List.range orders.length).map g)).2.2.1) := by
        rw [(ha3.put 37 (.int .i64 (bkF a b ((List.range orders.length).map g)).2.2.1) rfl).eval]; rfl
      rw [← bk_fold orders a b g hg]
      refine Eq.trans ?_ e1
      show ((a3.put (some 37) _).put (some 6) ((a3.put (some 37) (.int .i64 (bkF a b ((List.range orders.length).map g)).2.2.1)).eval (.tmp 37))).tmps.getD 6 undef = _
      rw [e2]
    · rw [← bk_fold orders a b g hg]; exact (bkF_rng r_a r_b _).2.2.1
    · exact Go.RowKit.Below.trans hI.ext (belowK_b (w := w3) hS3.ext.size Wd D _ _ hD hK rfl rfl)
  case stop =>
    intro D c pre Wd _ _ h _
    exact h.elim

theorem c_impl_Cocycle_plus {w : World} {c_Orders : (List Int)} {v_c_Orders : Value} {c_Modulus : Int} {c_Values : (List (List (List Int)))} {v_c_Values : Value} {x : Int} {y : Int} (r_c_Orders : (Ty.sl (Ty.i .i64)).rep w v_c_Orders c_Orders) (r_c_Modulus : InR .i64 c_Modulus) (r_c_Values : (Ty.sl (Ty.sl (Ty.sl (Ty.i .i64)))).rep w v_c_Values c_Values) (r_x : InR .i64 x) (r_y : InR .i64 y) {res : Int} (h : p_impl_Cocycle_plus c_Orders c_Modulus c_Values x y  = some res) :
    Ret Try.prog 83 #[(Value.agg #[v_c_Orders, (Value.int .i64 c_Modulus), v_c_Values]), (Value.int .i64 x), (Value.int .i64 y)] w (fun v w' => v = Value.int .i64 res ∧ InR .i64 res ∧ Ext w w') := by
  unfold p_impl_Cocycle_plus at h
  have hS0 : St w w [] := St.start w
  refine Ret.start (fn := Try.f83) Try.func83 rfl 12 rfl rfl ?_
  refine W.seq (W.region ?_)
  refine WL.box hS0 rfl (cs := [v_c_Orders, (Value.int .i64 c_Modulus), v_c_Values]) rfl rfl ?_
  intro b1 wd2 hS3 he4 hx5
  replace hS3 : St w wd2 [bx b1 [v_c_Orders, (Value.int .i64 c_Modulus), v_c_Values]] := hS3
  have hx6 := St.boxAt hS3 0 rfl
  have hE7 : Ext w wd2 := hS3.ext
  have hS8 : St wd2 wd2 [] := St.start wd2
  refine WL.val (Value.int .i64 (0 : Int)) _ (op_assign rfl) rfl ?_
  refine WL.nil ?_
  show W _ _ _ _ _ _
  refine W.seq (W.region ?_)
  refine WL.val (Value.pointer (some ⟨b1, 0, none⟩)) _ (op_fieldAddr fd_30_0 rfl) rfl ?_
  refine WL.val v_c_Orders _ (op_load one_22 rfl (BoxAt.cell (BoxAt.lift hS8.ext hx6) rfl)) rfl ?_
  refine WL.val (Value.int .i64 x) _ (op_move rfl) rfl ?_
  refine WL.val (Value.int .i64 y) _ (op_move rfl) rfl ?_
  obtain ⟨x9, hx10, h⟩ := bs h
  refine WL.call _ (op_call fn_101 (args3 rfl rfl rfl)) (c_impl_addElements (Ty.lift _ (Ext.trans hE7 hS8.ext) r_c_Orders) r_x r_y hx10) rfl ?_
  rintro _ wd12 ⟨rfl, hr11, he13⟩
  have hS15 := St.extend hS8 he13
  replace hS15 : St wd2 wd12 [] := hS15
  refine WL.val (Value.int .i64 x9) _ (op_assign rfl) rfl ?_
  refine WL.nil ?_
  show W _ _ _ _ _ _
  refine W.ret ?_
  obtain rfl := Option.some.inj h
  show FinP _ _ _ _ _ _ _
  exact FinP.ret _ (res1 rfl rfl) ⟨rfl, hr11, (Ext.trans hE7 hS15.ext)⟩

theorem c_impl_Cocycle_rest {w : World} {c_Orders : (List Int)} {v_c_Orders : Value} {c_Modulus : Int} {c_Values : (List (List (List Int)))} {v_c_Values : Value} {n : Int} (r_c_Orders : (Ty.sl (Ty.i .i64)).rep w v_c_Orders c_Orders) (r_c_Modulus : InR .i64 c_Modulus) (r_c_Values : (Ty.sl (Ty.sl (Ty.sl (Ty.i .i64)))).rep w v_c_Values c_Values) (r_n : InR .i64 n) {res : Int} (h : p_impl_Cocycle_rest c_Orders c_Modulus c_Values n  = some res) :
    Ret Try.prog 43 #[(Value.agg #[v_c_Orders, (Value.int .i64 c_Modulus), v_c_Values]), (Value.int .i64 n)] w (fun v w' => v = Value.int .i64 res ∧ InR .i64 res ∧ Ext w w') := by
  unfold p_impl_Cocycle_rest at h
  have hS0 : St w w [] := St.start w
  refine Ret.start (fn := Try.f43) Try.func43 rfl 15 rfl rfl ?_
  refine W.seq (W.region ?_)
  refine WL.box hS0 rfl (cs := [v_c_Orders, (Value.int .i64 c_Modulus), v_c_Values]) rfl rfl ?_
  intro b1 wd2 hS3 he4 hx5
  replace hS3 : St w wd2 [bx b1 [v_c_Orders, (Value.int .i64 c_Modulus), v_c_Values]] := hS3
  have hx6 := St.boxAt hS3 0 rfl
  have hE7 : Ext w wd2 := hS3.ext
  have hS8 : St wd2 wd2 [] := St.start wd2
  refine WL.val (Value.int .i64 (0 : Int)) _ (op_assign rfl) rfl ?_
  refine WL.nil ?_
  show W _ _ _ _ _ _
  refine W.seq ?_
  obtain ⟨x49, hz50, h⟩ := bs h
  obtain ⟨h051, hz50⟩ := remI_some hz50
  refine W.drawR mixo 9 [] [fun _ v _ _ => v = (Value.int .i64 n) ∧ InR .i64 n, fun _ v _ _ => v = (Value.pointer (some ⟨b1, 1, none⟩)), fun _ v _ _ => v = (Value.int .i64 c_Modulus) ∧ InR .i64 c_Modulus, fun _ v _ _ => v = (Value.int .i64 x49) ∧ InR .i64 x49, fun _ v _ _ => v = (Value.pointer (some ⟨b1, 1, none⟩)), fun _ v _ _ => v = (Value.int .i64 c_Modulus) ∧ InR .i64 c_Modulus, fun _ v _ _ => v = (Value.int .i64 (w64 (x49 + c_Modulus))) ∧ InR .i64 (w64 (x49 + c_Modulus)), fun _ v _ _ => v = (Value.pointer (some ⟨b1, 1, none⟩)), fun _ v _ _ => v = (Value.int .i64 c_Modulus) ∧ InR .i64 c_Modulus] (by kernel_rfl) (by kernel_rfl) ⟨⟨fun _ _ _ _ _ _ h => h, fun _ _ _ _ _ _ h => h⟩, ⟨fun _ _ _ _ _ _ h => h, fun _ _ _ _ _ _ h => h⟩, ⟨fun _ _ _ _ _ _ h => h, fun _ _ _ _ _ _ h => h⟩, ⟨fun _ _ _ _ _ _ h => h, fun _ _ _ _ _ _ h => h⟩, ⟨fun _ _ _ _ _ _ h => h, fun _ _ _ _ _ _ h => h⟩, ⟨fun _ _ _ _ _ _ h => h, fun _ _ _ _ _ _ h => h⟩, ⟨fun _ _ _ _ _ _ h => h, fun _ _ _ _ _ _ h => h⟩, ⟨fun _ _ _ _ _ _ h => h, fun _ _ _ _ _ _ h => h⟩, ⟨fun _ _ _ _ _ _ h => h, fun _ _ _ _ _ _ h => h⟩, trivial⟩ ⟨?_, ?_, ?_, ?_, ?_, ?_, ?_, ?_, ?_, trivial⟩ ?_
  · refine ObX.op rfl ?_
    intro f9 wd10 he11 hout12 hphi13
    have hS14 : St wd2 wd10 [] := St.extend hS8 he11
    have e15 : f9 1 = (Value.int .i64 n) := (hout12 1 rfl).trans rfl
    exact OpX.val (Value.int .i64 n) wd10 rfl (op_move e15) (Ext.refl _) ⟨rfl, r_n⟩
  · refine ObX.op rfl ?_
    intro f16 wd17 he18 hout19 hphi20
    have hS21 : St wd2 wd17 [] := St.extend hS8 he18
    have e22 : f16 2 = (Value.pointer (some ⟨b1, 0, none⟩)) := (hout19 2 rfl).trans rfl
    exact OpX.val (Value.pointer (some ⟨b1, 1, none⟩)) wd17 rfl (op_fieldAddr fd_30_1 e22) (Ext.refl _) rfl
  · refine ObX.op rfl ?_
    intro f23 wd24 he25 hout26 hphi27
    have hS28 : St wd2 wd24 [] := St.extend hS8 he25
    obtain ⟨S29, hS30, hf31⟩ := hphi27 1 6 _ rfl rfl rfl
    have e32 : f23 6 = (Value.pointer (some ⟨b1, 1, none⟩)) := hf31
    exact OpX.val (Value.int .i64 c_Modulus) wd24 rfl (op_load one_2 e32 (BoxAt.cell (BoxAt.lift hS28.ext hx6) rfl)) (Ext.refl _) ⟨rfl, r_c_Modulus⟩
  · refine ObX.op rfl ?_
    intro f33 wd34 he35 hout36 hphi37
    have hS38 : St wd2 wd34 [] := St.extend hS8 he35
    obtain ⟨S39, hS40, hf41⟩ := hphi37 0 5 _ rfl rfl rfl
    obtain ⟨e42, hr43⟩ : f33 5 = (Value.int .i64 n) ∧ InR .i64 n := hf41
    obtain ⟨S44, hS45, hf46⟩ := hphi37 2 7 _ rfl rfl rfl
    obtain ⟨e47, hr48⟩ : f33 7 = (Value.int .i64 c_Modulus) ∧ InR .i64 c_Modulus := hf46
    have hr52 : InR .i64 x49 := by rw [hz50]; exact inR_tmod hr43
    exact OpX.val (Value.int .i64 x49) wd34 rfl (by rw [hz50]; exact op_rem e42 e47 h051) (Ext.refl _) ⟨rfl, hr52⟩
  · refine ObX.op rfl ?_
    intro f53 wd54 he55 hout56 hphi57
    have hS58 : St wd2 wd54 [] := St.extend hS8 he55
    have e59 : f53 2 = (Value.pointer (some ⟨b1, 0, none⟩)) := (hout56 2 rfl).trans rfl
    exact OpX.val (Value.pointer (some ⟨b1, 1, none⟩)) wd54 rfl (op_fieldAddr fd_30_1 e59) (Ext.refl _) rfl
  · refine ObX.op rfl ?_
    intro f60 wd61 he62 hout63 hphi64
    have hS65 : St wd2 wd61 [] := St.extend hS8 he62
    obtain ⟨S66, hS67, hf68⟩ := hphi64 4 9 _ rfl rfl rfl
    have e69 : f60 9 = (Value.pointer (some ⟨b1, 1, none⟩)) := hf68
    exact OpX.val (Value.int .i64 c_Modulus) wd61 rfl (op_load one_2 e69 (BoxAt.cell (BoxAt.lift hS65.ext hx6) rfl)) (Ext.refl _) ⟨rfl, r_c_Modulus⟩
  · refine ObX.op rfl ?_
    intro f70 wd71 he72 hout73 hphi74
    have hS75 : St wd2 wd71 [] := St.extend hS8 he72
    obtain ⟨S76, hS77, hf78⟩ := hphi74 3 8 _ rfl rfl rfl
    obtain ⟨e79, hr80⟩ : f70 8 = (Value.int .i64 x49) ∧ InR .i64 x49 := hf78
    obtain ⟨S81, hS82, hf83⟩ := hphi74 5 10 _ rfl rfl rfl
    obtain ⟨e84, hr85⟩ : f70 10 = (Value.int .i64 c_Modulus) ∧ InR .i64 c_Modulus := hf83
    exact OpX.val (Value.int .i64 (w64 (x49 + c_Modulus))) wd71 rfl (op_add e79 e84) (Ext.refl _) ⟨rfl, (inR_wrap _ _)⟩
  · refine ObX.op rfl ?_
    intro f86 wd87 he88 hout89 hphi90
    have hS91 : St wd2 wd87 [] := St.extend hS8 he88
    have e92 : f86 2 = (Value.pointer (some ⟨b1, 0, none⟩)) := (hout89 2 rfl).trans rfl
    exact OpX.val (Value.pointer (some ⟨b1, 1, none⟩)) wd87 rfl (op_fieldAddr fd_30_1 e92) (Ext.refl _) rfl
  · refine ObX.op rfl ?_
    intro f93 wd94 he95 hout96 hphi97
    have hS98 : St wd2 wd94 [] := St.extend hS8 he95
    obtain ⟨S99, hS100, hf101⟩ := hphi97 7 12 _ rfl rfl rfl
    have e102 : f93 12 = (Value.pointer (some ⟨b1, 1, none⟩)) := hf101
    exact OpX.val (Value.int .i64 c_Modulus) wd94 rfl (op_load one_2 e102 (BoxAt.cell (BoxAt.lift hS98.ext hx6) rfl)) (Ext.refl _) ⟨rfl, r_c_Modulus⟩
  · intro f103 wd104 Ss105 he106 hout107 hSn108 hSd109 hphi110
    show WL _ _ _ _ _ _ _
    have hS111 : St wd2 wd104 [] := St.extend hS8 he106
    obtain ⟨e112, hr113⟩ : f103 11 = (Value.int .i64 (w64 (x49 + c_Modulus))) ∧ InR .i64 (w64 (x49 + c_Modulus)) := hphi110 6 11 _ (by decide) rfl rfl
    obtain ⟨e114, hr115⟩ : f103 13 = (Value.int .i64 c_Modulus) ∧ InR .i64 c_Modulus := hphi110 8 13 _ (by decide) rfl rfl
    obtain ⟨x116, hz117, h⟩ := bs h
    obtain ⟨h0118, hz117⟩ := remI_some hz117
    have hr119 : InR .i64 x116 := by rw [hz117]; exact inR_tmod hr113
    refine WL.val (Value.int .i64 x116) _ (by rw [hz117]; exact op_rem e112 e114 h0118) rfl ?_
    refine WL.val (Value.int .i64 x116) _ (op_assign rfl) rfl ?_
    refine WL.nil ?_
    show W _ _ _ _ _ _
    refine W.ret ?_
    obtain rfl := Option.some.inj h
    show FinP _ _ _ _ _ _ _
    exact FinP.ret _ (res1 rfl rfl) ⟨rfl, hr119, (Ext.trans hE7 hS111.ext)⟩

theorem c_impl_Cocycle_fault {w : World} {c_Orders : (List Int)} {v_c_Orders : Value} {c_Modulus : Int} {c_Values : (List (List (List Int)))} {v_c_Values : Value} (r_c_Orders : (Ty.sl (Ty.i .i64)).rep w v_c_Orders c_Orders) (r_c_Modulus : InR .i64 c_Modulus) (r_c_Values : (Ty.sl (Ty.sl (Ty.sl (Ty.i .i64)))).rep w v_c_Values c_Values) {res : (List Int)} (h : p_impl_Cocycle_fault c_Orders c_Modulus c_Values  = some res) :
    Ret Try.prog 67 #[(Value.agg #[v_c_Orders, (Value.int .i64 c_Modulus), v_c_Values])] w (fun v w' => ∃ (u0 : Value), v = u0 ∧ NilIff u0 res ∧ Ext w w' ∧ Sep w.heap.size w' [(Ty.sl (Ty.i .i64)).at u0 res]) := by
  unfold p_impl_Cocycle_fault at h
  have hS0 : St w w [] := St.start w
  refine Ret.start (fn := Try.f67) Try.func67 rfl 107 rfl rfl ?_
  refine W.seq (W.region ?_)
  refine WL.box hS0 rfl (cs := [v_c_Orders, (Value.int .i64 c_Modulus), v_c_Values]) rfl rfl ?_
  intro b1 wd2 hS3 he4 hx5
  replace hS3 : St w wd2 [bx b1 [v_c_Orders, (Value.int .i64 c_Modulus), v_c_Values]] := hS3
  have hx6 := St.boxAt hS3 0 rfl
  have hE7 : Ext w wd2 := hS3.ext
  have hS8 : St wd2 wd2 [] := St.start wd2
  refine WL.val (Value.slice none 0 0) _ (op_assign rfl) rfl ?_
  refine WL.nil ?_
  show W _ _ _ _ _ _
  refine W.seq (W.region ?_)
  refine WL.val (Value.pointer (some ⟨b1, 2, none⟩)) _ (op_fieldAddr fd_30_2 rfl) rfl ?_
  refine WL.val v_c_Values _ (op_load one_23 rfl (BoxAt.cell (BoxAt.lift hS8.ext hx6) rfl)) rfl ?_
  refine WL.val v_c_Values _ (op_assign rfl) rfl ?_
  refine WL.nil ?_
  show W _ _ _ _ _ _
  refine W.seq (W.seq (W.region ?_))
  refine WL.val v_c_Values _ (op_move rfl) rfl ?_
  have hr9 := inR_len (Ty.lift _ (Ext.trans hE7 hS8.ext) r_c_Values)
  refine WL.val (Value.int .i64 ((c_Values).length : Int)) _ (op_lenL sl_23 (Ty.lift _ (Ext.trans hE7 hS8.ext) r_c_Values) rfl) rfl ?_
  refine WL.val (Value.int .i64 (0 : Int)) _ (op_move rfl) rfl ?_
  refine WL.nil ?_
  show W _ _ _ _ _ _
  obtain ⟨res10, hres11, h⟩ := bs h
  refine W.blockLoop (fun fq wq => ∃ s, res10 = Res.fin s ∧ St wd2 wq []) ?_ ?_
  · refine W.forN (fun k (s : Unit) fq wq => fq 1 = (Value.pointer (some ⟨b1, 0, none⟩)) ∧ fq 3 = v_c_Values ∧ fq 12 = (Value.int .i64 ((c_Values).length : Int)) ∧ fq 13 = Value.int .i64 (k : Int) ∧ InR .i64 (k : Int) ∧ St wd2 wq []) hres11 ⟨rfl, rfl, rfl, rfl, (inR_i64.2 (show (-9223372036854775808 : Int) ≤ 0 ∧ (0 : Int) ≤ 9223372036854775807 from by decide)), hS8⟩ ?_ ?_
    · intro k12 s1022 ct13 f14 wd15 hk16 hb17 hI18 hbrk19 hret20
      obtain ⟨⟩ := s1022
      replace hI18 : f14 1 = (Value.pointer (some ⟨b1, 0, none⟩)) ∧ f14 3 = v_c_Values ∧ f14 12 = (Value.int .i64 ((c_Values).length : Int)) ∧ f14 13 = Value.int .i64 (k12 : Int) ∧ InR .i64 (k12 : Int) ∧ St wd2 wd15 [] := hI18
      replace hb17 : p_impl_Cocycle_fault_L1 c_Values c_Orders c_Modulus k12  = some ct13 := hb17
      unfold p_impl_Cocycle_fault_L1 at hb17
      obtain ⟨hf21, hf22, hf23, hf24, hr25, hS26⟩ := hI18
      refine W.seq (W.region ?_)
      refine WL.val (Value.bool (decide ((k12 : Int) < ((c_Values).length : Int)))) _ (op_lss hf24 hf23) rfl ?_
      have hl27 : (k12 : Int) < ((c_Values).length : Int) := by omega
      refine WL.nil ?_
      show W _ _ _ _ _ _
      refine W.seq ?_
      refine W.condT (decide ((k12 : Int) < ((c_Values).length : Int))) rfl (decide_eq_true hl27) ?_
      refine W.skip ?_
      show W _ _ _ _ _ _
      refine W.seq ?_
      refine W.block ?_
      refine W.seq (W.region ?_)
      refine WL.val (Value.int .i64 (k12 : Int)) _ (op_move hf24) rfl ?_
      refine WL.val (Value.int .i64 (k12 : Int)) _ (op_assign rfl) rfl ?_
      refine WL.nil ?_
      show W _ _ _ _ _ _
      refine W.seq (W.region ?_)
      refine WL.val v_c_Values _ (op_move hf22) rfl ?_
      have hr29 := inR_len (Ty.lift _ (Ext.trans hE7 hS26.ext) r_c_Values)
      refine WL.val (Value.int .i64 ((c_Values).length : Int)) _ (op_lenL sl_23 (Ty.lift _ (Ext.trans hE7 hS26.ext) r_c_Values) rfl) rfl ?_
      refine WL.val (Value.int .i64 (0 : Int)) _ (op_move rfl) rfl ?_
      refine WL.nil ?_
      show W _ _ _ _ _ _
      obtain ⟨res30, hres31, hb17⟩ := bs hb17
      refine W.blockLoop (fun fq wq => ∃ s, res30 = Res.fin s ∧ fq 1 = (Value.pointer (some ⟨b1, 0, none⟩)) ∧ fq 3 = v_c_Values ∧ fq 12 = (Value.int .i64 ((c_Values).length : Int)) ∧ fq 13 = (Value.int .i64 (k12 : Int)) ∧ St wd2 wq []) ?_ ?_
      · refine W.forN (fun k (s : Unit) fq wq => fq 1 = (Value.pointer (some ⟨b1, 0, none⟩)) ∧ fq 3 = v_c_Values ∧ fq 4 = (Value.int .i64 (k12 : Int)) ∧ fq 12 = (Value.int .i64 ((c_Values).length : Int)) ∧ fq 13 = (Value.int .i64 (k12 : Int)) ∧ fq 17 = (Value.int .i64 ((c_Values).length : Int)) ∧ fq 18 = Value.int .i64 (k : Int) ∧ InR .i64 (k : Int) ∧ St wd2 wq []) hres31 ⟨hf21, hf22, rfl, hf23, hf24, rfl, rfl, (inR_i64.2 (show (-9223372036854775808 : Int) ≤ 0 ∧ (0 : Int) ≤ 9223372036854775807 from by decide)), hS26⟩ ?_ ?_
        · intro k32 s996 ct33 f34 wd35 hk36 hb37 hI38 hbrk39 hret40
          obtain ⟨⟩ := s996
          replace hI38 : f34 1 = (Value.pointer (some ⟨b1, 0, none⟩)) ∧ f34 3 = v_c_Values ∧ f34 4 = (Value.int .i64 (k12 : Int)) ∧ f34 12 = (Value.int .i64 ((c_Values).length : Int)) ∧ f34 13 = (Value.int .i64 (k12 : Int)) ∧ f34 17 = (Value.int .i64 ((c_Values).length : Int)) ∧ f34 18 = Value.int .i64 (k32 : Int) ∧ InR .i64 (k32 : Int) ∧ St wd2 wd35 [] := hI38
          replace hb37 : p_impl_Cocycle_fault_L2 c_Values c_Orders c_Modulus k12 k32  = some ct33 := hb37
          unfold p_impl_Cocycle_fault_L2 at hb37
          obtain ⟨hf41, hf42, hf43, hf44, hf45, hf46, hf47, hr48, hS49⟩ := hI38
          refine W.seq (W.region ?_)
          refine WL.val (Value.bool (decide ((k32 : Int) < ((c_Values).length : Int)))) _ (op_lss hf47 hf46) rfl ?_
          have hl50 : (k32 : Int) < ((c_Values).length : Int) := by omega
          refine WL.nil ?_
          show W _ _ _ _ _ _
          refine W.seq ?_
          refine W.condT (decide ((k32 : Int) < ((c_Values).length : Int))) rfl (decide_eq_true hl50) ?_
          refine W.skip ?_
          show W _ _ _ _ _ _
          refine W.seq ?_
          refine W.block ?_
          refine W.seq (W.region ?_)
          refine WL.val (Value.int .i64 (k32 : Int)) _ (op_move hf47) rfl ?_
          refine WL.val (Value.int .i64 (k32 : Int)) _ (op_assign rfl) rfl ?_
          refine WL.nil ?_
          show W _ _ _ _ _ _
          refine W.seq (W.region ?_)
          refine WL.val v_c_Values _ (op_move hf42) rfl ?_
          have hr52 := inR_len (Ty.lift _ (Ext.trans hE7 hS49.ext) r_c_Values)
          refine WL.val (Value.int .i64 ((c_Values).length : Int)) _ (op_lenL sl_23 (Ty.lift _ (Ext.trans hE7 hS49.ext) r_c_Values) rfl) rfl ?_
          refine WL.val (Value.int .i64 (0 : Int)) _ (op_move rfl) rfl ?_
          refine WL.nil ?_
          show W _ _ _ _ _ _
          obtain ⟨res53, hres54, hb37⟩ := bs hb37
          refine W.blockLoop (fun fq wq => ∃ s, res53 = Res.fin s ∧ fq 1 = (Value.pointer (some ⟨b1, 0, none⟩)) ∧ fq 3 = v_c_Values ∧ fq 4 = (Value.int .i64 (k12 : Int)) ∧ fq 12 = (Value.int .i64 ((c_Values).length : Int)) ∧ fq 13 = (Value.int .i64 (k12 : Int)) ∧ fq 17 = (Value.int .i64 ((c_Values).length : Int)) ∧ fq 18 = (Value.int .i64 (k32 : Int)) ∧ St wd2 wq []) ?_ ?_
          · refine W.forN (fun k (s : Unit) fq wq => fq 1 = (Value.pointer (some ⟨b1, 0, none⟩)) ∧ fq 3 = v_c_Values ∧ fq 4 = (Value.int .i64 (k12 : Int)) ∧ fq 5 = (Value.int .i64 (k32 : Int)) ∧ fq 12 = (Value.int .i64 ((c_Values).length : Int)) ∧ fq 13 = (Value.int .i64 (k12 : Int)) ∧ fq 17 = (Value.int .i64 ((c_Values).length : Int)) ∧ fq 18 = (Value.int .i64 (k32 : Int)) ∧ fq 22 = (Value.int .i64 ((c_Values).length : Int)) ∧ fq 23 = Value.int .i64 (k : Int) ∧ InR .i64 (k : Int) ∧ St wd2 wq []) hres54 ⟨hf41, hf42, hf43, rfl, hf44, hf45, hf46, hf47, rfl, rfl, (inR_i64.2 (show (-9223372036854775808 : Int) ≤ 0 ∧ (0 : Int) ≤ 9223372036854775807 from by decide)), hS49⟩ ?_ ?_
            · intro k55 s964 ct56 f57 wd58 hk59 hb60 hI61 hbrk62 hret63
              obtain ⟨⟩ := s964
              replace hI61 : f57 1 = (Value.pointer (some ⟨b1, 0, none⟩)) ∧ f57 3 = v_c_Values ∧ f57 4 = (Value.int .i64 (k12 : Int)) ∧ f57 5 = (Value.int .i64 (k32 : Int)) ∧ f57 12 = (Value.int .i64 ((c_Values).length : Int)) ∧ f57 13 = (Value.int .i64 (k12 : Int)) ∧ f57 17 = (Value.int .i64 ((c_Values).length : Int)) ∧ f57 18 = (Value.int .i64 (k32 : Int)) ∧ f57 22 = (Value.int .i64 ((c_Values).length : Int)) ∧ f57 23 = Value.int .i64 (k55 : Int) ∧ InR .i64 (k55 : Int) ∧ St wd2 wd58 [] := hI61
              replace hb60 : p_impl_Cocycle_fault_L3 c_Values k32 c_Orders c_Modulus k12 k55  = some ct56 := hb60
              unfold p_impl_Cocycle_fault_L3 at hb60
              obtain ⟨hf64, hf65, hf66, hf67, hf68, hf69, hf70, hf71, hf72, hf73, hr74, hS75⟩ := hI61
              refine W.seq (W.region ?_)
              refine WL.val (Value.bool (decide ((k55 : Int) < ((c_Values).length : Int)))) _ (op_lss hf73 hf72) rfl ?_
              have hl76 : (k55 : Int) < ((c_Values).length : Int) := by omega
              refine WL.nil ?_
              show W _ _ _ _ _ _
              refine W.seq ?_
              refine W.condT (decide ((k55 : Int) < ((c_Values).length : Int))) rfl (decide_eq_true hl76) ?_
              refine W.skip ?_
              show W _ _ _ _ _ _
              refine W.seq ?_
              refine W.block ?_
              refine W.seq (W.region ?_)
              refine WL.val (Value.int .i64 (k55 : Int)) _ (op_move hf73) rfl ?_
              refine WL.val (Value.int .i64 (k55 : Int)) _ (op_assign rfl) rfl ?_
              refine WL.nil ?_
              show W _ _ _ _ _ _
              refine W.seq (W.region ?_)
              refine WL.val v_c_Values _ (op_move hf65) rfl ?_
              have hr78 := inR_len (Ty.lift _ (Ext.trans hE7 hS75.ext) r_c_Values)
              refine WL.val (Value.int .i64 ((c_Values).length : Int)) _ (op_lenL sl_23 (Ty.lift _ (Ext.trans hE7 hS75.ext) r_c_Values) rfl) rfl ?_
              refine WL.val (Value.int .i64 (0 : Int)) _ (op_move rfl) rfl ?_
              refine WL.nil ?_
              show W _ _ _ _ _ _
              obtain ⟨res79, hres80, hb60⟩ := bs hb60
              refine W.blockLoop (fun fq wq => ∃ s, res79 = Res.fin s ∧ fq 1 = (Value.pointer (some ⟨b1, 0, none⟩)) ∧ fq 3 = v_c_Values ∧ fq 4 = (Value.int .i64 (k12 : Int)) ∧ fq 5 = (Value.int .i64 (k32 : Int)) ∧ fq 12 = (Value.int .i64 ((c_Values).length : Int)) ∧ fq 13 = (Value.int .i64 (k12 : Int)) ∧ fq 17 = (Value.int .i64 ((c_Values).length : Int)) ∧ fq 18 = (Value.int .i64 (k32 : Int)) ∧ fq 22 = (Value.int .i64 ((c_Values).length : Int)) ∧ fq 23 = (Value.int .i64 (k55 : Int)) ∧ St wd2 wq []) ?_ ?_
              · refine W.forN (fun k (s : Unit) fq wq => fq 1 = (Value.pointer (some ⟨b1, 0, none⟩)) ∧ fq 3 = v_c_Values ∧ fq 4 = (Value.int .i64 (k12 : Int)) ∧ fq 5 = (Value.int .i64 (k32 : Int)) ∧ fq 6 = (Value.int .i64 (k55 : Int)) ∧ fq 12 = (Value.int .i64 ((c_Values).length : Int)) ∧ fq 13 = (Value.int .i64 (k12 : Int)) ∧ fq 17 = (Value.int .i64 ((c_Values).length : Int)) ∧ fq 18 = (Value.int .i64 (k32 : Int)) ∧ fq 22 = (Value.int .i64 ((c_Values).length : Int)) ∧ fq 23 = (Value.int .i64 (k55 : Int)) ∧ fq 27 = (Value.int .i64 ((c_Values).length : Int)) ∧ fq 28 = Value.int .i64 (k : Int) ∧ InR .i64 (k : Int) ∧ St wd2 wq []) hres80 ⟨hf64, hf65, hf66, hf67, rfl, hf68, hf69, hf70, hf71, hf72, hf73, rfl, rfl, (inR_i64.2 (show (-9223372036854775808 : Int) ≤ 0 ∧ (0 : Int) ≤ 9223372036854775807 from by decide)), hS75⟩ ?_ ?_
                · intro k81 s926 ct82 f83 wd84 hk85 hb86 hI87 hbrk88 hret89
                  obtain ⟨⟩ := s926
                  replace hI87 : f83 1 = (Value.pointer (some ⟨b1, 0, none⟩)) ∧ f83 3 = v_c_Values ∧ f83 4 = (Value.int .i64 (k12 : Int)) ∧ f83 5 = (Value.int .i64 (k32 : Int)) ∧ f83 6 = (Value.int .i64 (k55 : Int)) ∧ f83 12 = (Value.int .i64 ((c_Values).length : Int)) ∧ f83 13 = (Value.int .i64 (k12 : Int)) ∧ f83 17 = (Value.int .i64 ((c_Values).length : Int)) ∧ f83 18 = (Value.int .i64 (k32 : Int)) ∧ f83 22 = (Value.int .i64 ((c_Values).length : Int)) ∧ f83 23 = (Value.int .i64 (k55 : Int)) ∧ f83 27 = (Value.int .i64 ((c_Values).length : Int)) ∧ f83 28 = Value.int .i64 (k81 : Int) ∧ InR .i64 (k81 : Int) ∧ St wd2 wd84 [] := hI87
                  replace hb86 : p_impl_Cocycle_fault_L4 c_Values k32 k55 c_Orders c_Modulus k12 k81  = some ct82 := hb86
                  unfold p_impl_Cocycle_fault_L4 at hb86
                  obtain ⟨hf90, hf91, hf92, hf93, hf94, hf95, hf96, hf97, hf98, hf99, hf100, hf101, hf102, hr103, hS104⟩ := hI87
                  refine W.seq (W.region ?_)
                  refine WL.val (Value.bool (decide ((k81 : Int) < ((c_Values).length : Int)))) _ (op_lss hf102 hf101) rfl ?_
                  have hl105 : (k81 : Int) < ((c_Values).length : Int) := by omega
                  refine WL.nil ?_
                  show W _ _ _ _ _ _
                  refine W.seq ?_
                  refine W.condT (decide ((k81 : Int) < ((c_Values).length : Int))) rfl (decide_eq_true hl105) ?_
                  refine W.skip ?_
                  show W _ _ _ _ _ _
                  refine W.seq ?_
                  refine W.block ?_
                  refine W.seq (W.region ?_)
                  refine WL.val (Value.int .i64 (k81 : Int)) _ (op_move hf102) rfl ?_
                  refine WL.val (Value.int .i64 (k81 : Int)) _ (op_assign rfl) rfl ?_
                  refine WL.nil ?_
                  show W _ _ _ _ _ _
                  refine W.seq ?_
                  obtain ⟨x136, hx139, hb86⟩ := bs hb86
                  obtain ⟨ha137, hb138, hx139⟩ := idx_some hx139
                  obtain ⟨u150, hc151, hr152⟩ := repSl.el r_c_Values hx139
                  obtain ⟨x175, hx178, hb86⟩ := bs hb86
                  obtain ⟨ha176, hb177, hx178⟩ := idx_some hx178
                  obtain ⟨u189, hc190, hr191⟩ := repSl.el hr152 hx178
                  obtain ⟨x214, hx217, hb86⟩ := bs hb86
                  obtain ⟨ha215, hb216, hx217⟩ := idx_some hx217
                  obtain ⟨u228, hc229, hr230⟩ := repSl.el hr191 hx217
                  obtain ⟨rfl, hr230⟩ := hr230
                  obtain ⟨x280, hx281, hb86⟩ := bs hb86
                  obtain ⟨x301, hx304, hb86⟩ := bs hb86
                  obtain ⟨ha302, hb303, hx304⟩ := idx_some hx304
                  obtain ⟨u315, hc316, hr317⟩ := repSl.el r_c_Values hx304
                  obtain ⟨x340, hx343, hb86⟩ := bs hb86
                  obtain ⟨ha341, hb342, hx343⟩ := idx_some hx343
                  obtain ⟨u354, hc355, hr356⟩ := repSl.el hr317 hx343
                  obtain ⟨x379, hx382, hb86⟩ := bs hb86
                  obtain ⟨ha380, hb381, hx382⟩ := idx_some hx382
                  obtain ⟨u393, hc394, hr395⟩ := repSl.el hr356 hx382
                  obtain ⟨rfl, hr395⟩ := hr395
                  obtain ⟨x441, hx444, hb86⟩ := bs hb86
                  obtain ⟨ha442, hb443, hx444⟩ := idx_some hx444
                  obtain ⟨u455, hc456, hr457⟩ := repSl.el r_c_Values hx444
                  obtain ⟨x500, hx501, hb86⟩ := bs hb86
                  obtain ⟨x521, hx524, hb86⟩ := bs hb86
                  obtain ⟨ha522, hb523, hx524⟩ := idx_some hx524
                  obtain ⟨u535, hc536, hr537⟩ := repSl.el hr457 hx524
                  obtain ⟨x560, hx563, hb86⟩ := bs hb86
                  obtain ⟨ha561, hb562, hx563⟩ := idx_some hx563
                  obtain ⟨u574, hc575, hr576⟩ := repSl.el hr537 hx563
                  obtain ⟨rfl, hr576⟩ := hr576
                  obtain ⟨u632, hc633, hr634⟩ := repSl.el r_c_Values hx444
                  obtain ⟨x657, hx660, hb86⟩ := bs hb86
                  obtain ⟨ha658, hb659, hx660⟩ := idx_some hx660
                  obtain ⟨u671, hc672, hr673⟩ := repSl.el hr634 hx660
                  obtain ⟨x716, hx717, hb86⟩ := bs hb86
                  obtain ⟨x737, hx740, hb86⟩ := bs hb86
                  obtain ⟨ha738, hb739, hx740⟩ := idx_some hx740
                  obtain ⟨u751, hc752, hr753⟩ := repSl.el hr673 hx740
                  obtain ⟨rfl, hr753⟩ := hr753
                  obtain ⟨u809, hc810, hr811⟩ := repSl.el r_c_Values hx444
                  obtain ⟨u844, hc845, hr846⟩ := repSl.el hr811 hx660
                  obtain ⟨x869, hx872, hb86⟩ := bs hb86
                  obtain ⟨ha870, hb871, hx872⟩ := idx_some hx872
                  obtain ⟨u883, hc884, hr885⟩ := repSl.el hr846 hx872
                  obtain ⟨rfl, hr885⟩ := hr885
                  refine W.drawR mixo 62 [] [fun _ v _ _ => v = v_c_Values, fun _ v _ _ => v = (Value.int .i64 (k32 : Int)) ∧ InR .i64 (k32 : Int), fun _ v _ _ => v = (Value.pointer (some (elA v_c_Values ((k32 : Int)).toNat))), fun _ v _ _ => v = u150, fun _ v _ _ => v = (Value.int .i64 (k55 : Int)) ∧ InR .i64 (k55 : Int), fun _ v _ _ => v = (Value.pointer (some (elA u150 ((k55 : Int)).toNat))), fun _ v _ _ => v = u189, fun _ v _ _ => v = (Value.int .i64 (k81 : Int)) ∧ InR .i64 (k81 : Int), fun _ v _ _ => v = (Value.pointer (some (elA u189 ((k81 : Int)).toNat))), fun _ v _ _ => v = (Value.int .i64 x214) ∧ InR .i64 x214, fun _ v _ _ => v = v_c_Values, fun _ v S w' => v = (Value.agg #[v_c_Orders, (Value.int .i64 c_Modulus), v_c_Values]) ∧ InR .i64 c_Modulus, fun _ v _ _ => v = (Value.int .i64 (k12 : Int)) ∧ InR .i64 (k12 : Int), fun _ v _ _ => v = (Value.int .i64 (k32 : Int)) ∧ InR .i64 (k32 : Int), fun _ v _ _ => v = (Value.int .i64 x280) ∧ InR .i64 x280, fun _ v _ _ => v = (Value.pointer (some (elA v_c_Values (x280).toNat))), fun _ v _ _ => v = u315, fun _ v _ _ => v = (Value.int .i64 (k55 : Int)) ∧ InR .i64 (k55 : Int), fun _ v _ _ => v = (Value.pointer (some (elA u315 ((k55 : Int)).toNat))), fun _ v _ _ => v = u354, fun _ v _ _ => v = (Value.int .i64 (k81 : Int)) ∧ InR .i64 (k81 : Int), fun _ v _ _ => v = (Value.pointer (some (elA u354 ((k81 : Int)).toNat))), fun _ v _ _ => v = (Value.int .i64 x379) ∧ InR .i64 x379, fun _ v _ _ => v = (Value.int .i64 (w64 (x214 - x379))) ∧ InR .i64 (w64 (x214 - x379)), fun _ v _ _ => v = v_c_Values, fun _ v _ _ => v = (Value.int .i64 (k12 : Int)) ∧ InR .i64 (k12 : Int), fun _ v _ _ => v = (Value.pointer (some (elA v_c_Values ((k12 : Int)).toNat))), fun _ v _ _ => v = u455, fun _ v S w' => v = (Value.agg #[v_c_Orders, (Value.int .i64 c_Modulus), v_c_Values]) ∧ InR .i64 c_Modulus, fun _ v _ _ => v = (Value.int .i64 (k32 : Int)) ∧ InR .i64 (k32 : Int), fun _ v _ _ => v = (Value.int .i64 (k55 : Int)) ∧ InR .i64 (k55 : Int), fun _ v _ _ => v = (Value.int .i64 x500) ∧ InR .i64 x500, fun _ v _ _ => v = (Value.pointer (some (elA u455 (x500).toNat))), fun _ v _ _ => v = u535, fun _ v _ _ => v = (Value.int .i64 (k81 : Int)) ∧ InR .i64 (k81 : Int), fun _ v _ _ => v = (Value.pointer (some (elA u535 ((k81 : Int)).toNat))), fun _ v _ _ => v = (Value.int .i64 x560) ∧ InR .i64 x560, fun _ v _ _ => v = (Value.int .i64 (w64 ((w64 (x214 - x379)) + x560))) ∧ InR .i64 (w64 ((w64 (x214 - x379)) + x560)), fun _ v _ _ => v = v_c_Values, fun _ v _ _ => v = (Value.int .i64 (k12 : Int)) ∧ InR .i64 (k12 : Int), fun _ v _ _ => v = (Value.pointer (some (elA v_c_Values ((k12 : Int)).toNat))), fun _ v _ _ => v = u632, fun _ v _ _ => v = (Value.int .i64 (k32 : Int)) ∧ InR .i64 (k32 : Int), fun _ v _ _ => v = (Value.pointer (some (elA u632 ((k32 : Int)).toNat))), fun _ v _ _ => v = u671, fun _ v S w' => v = (Value.agg #[v_c_Orders, (Value.int .i64 c_Modulus), v_c_Values]) ∧ InR .i64 c_Modulus, fun _ v _ _ => v = (Value.int .i64 (k55 : Int)) ∧ InR .i64 (k55 : Int), fun _ v _ _ => v = (Value.int .i64 (k81 : Int)) ∧ InR .i64 (k81 : Int), fun _ v _ _ => v = (Value.int .i64 x716) ∧ InR .i64 x716, fun _ v _ _ => v = (Value.pointer (some (elA u671 (x716).toNat))), fun _ v _ _ => v = (Value.int .i64 x737) ∧ InR .i64 x737, fun _ v _ _ => v = (Value.int .i64 (w64 ((w64 ((w64 (x214 - x379)) + x560)) - x737))) ∧ InR .i64 (w64 ((w64 ((w64 (x214 - x379)) + x560)) - x737)), fun _ v _ _ => v = v_c_Values, fun _ v _ _ => v = (Value.int .i64 (k12 : Int)) ∧ InR .i64 (k12 : Int), fun _ v _ _ => v = (Value.pointer (some (elA v_c_Values ((k12 : Int)).toNat))), fun _ v _ _ => v = u809, fun _ v _ _ => v = (Value.int .i64 (k32 : Int)) ∧ InR .i64 (k32 : Int), fun _ v _ _ => v = (Value.pointer (some (elA u809 ((k32 : Int)).toNat))), fun _ v _ _ => v = u844, fun _ v _ _ => v = (Value.int .i64 (k55 : Int)) ∧ InR .i64 (k55 : Int), fun _ v _ _ => v = (Value.pointer (some (elA u844 ((k55 : Int)).toNat))), fun _ v _ _ => v = (Value.int .i64 x869) ∧ InR .i64 x869] (by kernel_rfl) (by kernel_rfl) ⟨⟨fun _ _ _ _ _ _ h => h, fun _ _ _ _ _ _ h => h⟩, ⟨fun _ _ _ _ _ _ h => h, fun _ _ _ _ _ _ h => h⟩, ⟨fun _ _ _ _ _ _ h => h, fun _ _ _ _ _ _ h => h⟩, ⟨fun _ _ _ _ _ _ h => h, fun _ _ _ _ _ _ h => h⟩, ⟨fun _ _ _ _ _ _ h => h, fun _ _ _ _ _ _ h => h⟩, ⟨fun _ _ _ _ _ _ h => h, fun _ _ _ _ _ _ h => h⟩, ⟨fun _ _ _ _ _ _ h => h, fun _ _ _ _ _ _ h => h⟩, ⟨fun _ _ _ _ _ _ h => h, fun _ _ _ _ _ _ h => h⟩, ⟨fun _ _ _ _ _ _ h => h, fun _ _ _ _ _ _ h => h⟩, ⟨fun _ _ _ _ _ _ h => h, fun _ _ _ _ _ _ h => h⟩, ⟨fun _ _ _ _ _ _ h => h, fun _ _ _ _ _ _ h => h⟩, ⟨fun _ _ _ _ _ he ⟨h0, h1⟩ => ⟨h0, h1⟩, fun _ _ _ _ _ _ h => h⟩, ⟨fun _ _ _ _ _ _ h => h, fun _ _ _ _ _ _ h => h⟩, ⟨fun _ _ _ _ _ _ h => h, fun _ _ _ _ _ _ h => h⟩, ⟨fun _ _ _ _ _ _ h => h, fun _ _ _ _ _ _ h => h⟩, ⟨fun _ _ _ _ _ _ h => h, fun _ _ _ _ _ _ h => h⟩, ⟨fun _ _ _ _ _ _ h => h, fun _ _ _ _ _ _ h => h⟩, ⟨fun _ _ _ _ _ _ h => h, fun _ _ _ _ _ _ h => h⟩, ⟨fun _ _ _ _ _ _ h => h, fun _ _ _ _ _ _ h => h⟩, ⟨fun _ _ _ _ _ _ h => h, fun _ _ _ _ _ _ h => h⟩, ⟨fun _ _ _ _ _ _ h => h, fun _ _ _ _ _ _ h => h⟩, ⟨fun _ _ _ _ _ _ h => h, fun _ _ _ _ _ _ h => h⟩, ⟨fun _ _ _ _ _ _ h => h, fun _ _ _ _ _ _ h => h⟩, ⟨fun _ _ _ _ _ _ h => h, fun _ _ _ _ _ _ h => h⟩, ⟨fun _ _ _ _ _ _ h => h, fun _ _ _ _ _ _ h => h⟩, ⟨fun _ _ _ _ _ _ h => h, fun _ _ _ _ _ _ h => h⟩, ⟨fun _ _ _ _ _ _ h => h, fun _ _ _ _ _ _ h => h⟩, ⟨fun _ _ _ _ _ _ h => h, fun _ _ _ _ _ _ h => h⟩, ⟨fun _ _ _ _ _ he ⟨h0, h1⟩ => ⟨h0, h1⟩, fun _ _ _ _ _ _ h => h⟩, ⟨fun _ _ _ _ _ _ h => h, fun _ _ _ _ _ _ h => h⟩, ⟨fun _ _ _ _ _ _ h => h, fun _ _ _ _ _ _ h => h⟩, ⟨fun _ _ _ _ _ _ h => h, fun _ _ _ _ _ _ h => h⟩, ⟨fun _ _ _ _ _ _ h => h, fun _ _ _ _ _ _ h => h⟩, ⟨fun _ _ _ _ _ _ h => h, fun _ _ _ _ _ _ h => h⟩, ⟨fun _ _ _ _ _ _ h => h, fun _ _ _ _ _ _ h => h⟩, ⟨fun _ _ _ _ _ _ h => h, fun _ _ _ _ _ _ h => h⟩, ⟨fun _ _ _ _ _ _ h => h, fun _ _ _ _ _ _ h => h⟩, ⟨fun _ _ _ _ _ _ h => h, fun _ _ _ _ _ _ h => h⟩, ⟨fun _ _ _ _ _ _ h => h, fun _ _ _ _ _ _ h => h⟩, ⟨fun _ _ _ _ _ _ h => h, fun _ _ _ _ _ _ h => h⟩, ⟨fun _ _ _ _ _ _ h => h, fun _ _ _ _ _ _ h => h⟩, ⟨fun _ _ _ _ _ _ h => h, fun _ _ _ _ _ _ h => h⟩, ⟨fun _ _ _ _ _ _ h => h, fun _ _ _ _ _ _ h => h⟩, ⟨fun _ _ _ _ _ _ h => h, fun _ _ _ _ _ _ h => h⟩, ⟨fun _ _ _ _ _ _ h => h, fun _ _ _ _ _ _ h => h⟩, ⟨fun _ _ _ _ _ he ⟨h0, h1⟩ => ⟨h0, h1⟩, fun _ _ _ _ _ _ h => h⟩, ⟨fun _ _ _ _ _ _ h => h, fun _ _ _ _ _ _ h => h⟩, ⟨fun _ _ _ _ _ _ h => h, fun _ _ _ _ _ _ h => h⟩, ⟨fun _ _ _ _ _ _ h => h, fun _ _ _ _ _ _ h => h⟩, ⟨fun _ _ _ _ _ _ h => h, fun _ _ _ _ _ _ h => h⟩, ⟨fun _ _ _ _ _ _ h => h, fun _ _ _ _ _ _ h => h⟩, ⟨fun _ _ _ _ _ _ h => h, fun _ _ _ _ _ _ h => h⟩, ⟨fun _ _ _ _ _ _ h => h, fun _ _ _ _ _ _ h => h⟩, ⟨fun _ _ _ _ _ _ h => h, fun _ _ _ _ _ _ h => h⟩, ⟨fun _ _ _ _ _ _ h => h, fun _ _ _ _ _ _ h => h⟩, ⟨fun _ _ _ _ _ _ h => h, fun _ _ _ _ _ _ h => h⟩, ⟨fun _ _ _ _ _ _ h => h, fun _ _ _ _ _ _ h => h⟩, ⟨fun _ _ _ _ _ _ h => h, fun _ _ _ _ _ _ h => h⟩, ⟨fun _ _ _ _ _ _ h => h, fun _ _ _ _ _ _ h => h⟩, ⟨fun _ _ _ _ _ _ h => h, fun _ _ _ _ _ _ h => h⟩, ⟨fun _ _ _ _ _ _ h => h, fun _ _ _ _ _ _ h => h⟩, ⟨fun _ _ _ _ _ _ h => h, fun _ _ _ _ _ _ h => h⟩, trivial⟩ ⟨?_, ?_, ?_, ?_, ?_, ?_, ?_, ?_, ?_, ?_, ?_, ?_, ?_, ?_, ?_, ?_, ?_, ?_, ?_, ?_, ?_, ?_, ?_, ?_, ?_, ?_, ?_, ?_, ?_, ?_, ?_, ?_, ?_, ?_, ?_, ?_, ?_, ?_, ?_, ?_, ?_, ?_, ?_, ?_, ?_, ?_, ?_, ?_, ?_, ?_, ?_, ?_, ?_, ?_, ?_, ?_, ?_, ?_, ?_, ?_, ?_, ?_, trivial⟩ ?_
                  · refine ObX.op rfl ?_
                    intro f107 wd108 he109 hout110 hphi111
                    have hS112 : St wd2 wd108 [] := St.extend hS104 he109
                    have e113 : f107 3 = v_c_Values := (hout110 3 rfl).trans hf91
                    exact OpX.val v_c_Values wd108 rfl (op_move e113) (Ext.refl _) rfl
                  · refine ObX.op rfl ?_
                    intro f114 wd115 he116 hout117 hphi118
                    have hS119 : St wd2 wd115 [] := St.extend hS104 he116
                    have e120 : f114 5 = (Value.int .i64 (k32 : Int)) := (hout117 5 rfl).trans hf93
                    exact OpX.val (Value.int .i64 (k32 : Int)) wd115 rfl (op_move e120) (Ext.refl _) ⟨rfl, hr48⟩
                  · refine ObX.op rfl ?_
                    intro f121 wd122 he123 hout124 hphi125
                    have hS126 : St wd2 wd122 [] := St.extend hS104 he123
                    obtain ⟨S127, hS128, hf129⟩ := hphi125 0 31 _ rfl rfl rfl
                    have e130 : f121 31 = v_c_Values := hf129
                    obtain ⟨S131, hS132, hf133⟩ := hphi125 1 32 _ rfl rfl rfl
                    obtain ⟨e134, hr135⟩ : f121 32 = (Value.int .i64 (k32 : Int)) ∧ InR .i64 (k32 : Int) := hf133
                    exact OpX.val (Value.pointer (some (elA v_c_Values ((k32 : Int)).toNat))) wd122 rfl (op_idx sl_23 (Ty.lift _ (Ext.trans hE7 hS126.ext) r_c_Values) e130 e134 ha137 hb138) (Ext.refl _) rfl
                  · refine ObX.op rfl ?_
                    intro f140 wd141 he142 hout143 hphi144
                    have hS145 : St wd2 wd141 [] := St.extend hS104 he142
                    obtain ⟨S146, hS147, hf148⟩ := hphi144 2 33 _ rfl rfl rfl
                    have e149 : f140 33 = (Value.pointer (some (elA v_c_Values ((k32 : Int)).toNat))) := hf148
                    exact OpX.val u150 wd141 rfl (op_load one_27 e149 (Ext.cell (Ext.trans hE7 hS145.ext) hc151)) (Ext.refl _) rfl
                  · refine ObX.op rfl ?_
                    intro f153 wd154 he155 hout156 hphi157
                    have hS158 : St wd2 wd154 [] := St.extend hS104 he155
                    have e159 : f153 6 = (Value.int .i64 (k55 : Int)) := (hout156 6 rfl).trans hf94
                    exact OpX.val (Value.int .i64 (k55 : Int)) wd154 rfl (op_move e159) (Ext.refl _) ⟨rfl, hr74⟩
                  · refine ObX.op rfl ?_
                    intro f160 wd161 he162 hout163 hphi164
                    have hS165 : St wd2 wd161 [] := St.extend hS104 he162
                    obtain ⟨S166, hS167, hf168⟩ := hphi164 3 34 _ rfl rfl rfl
                    have e169 : f160 34 = u150 := hf168
                    obtain ⟨S170, hS171, hf172⟩ := hphi164 4 35 _ rfl rfl rfl
                    obtain ⟨e173, hr174⟩ : f160 35 = (Value.int .i64 (k55 : Int)) ∧ InR .i64 (k55 : Int) := hf172
                    exact OpX.val (Value.pointer (some (elA u150 ((k55 : Int)).toNat))) wd161 rfl (op_idx sl_27 (Ty.lift _ (Ext.trans hE7 hS165.ext) hr152) e169 e173 ha176 hb177) (Ext.refl _) rfl
                  · refine ObX.op rfl ?_
                    intro f179 wd180 he181 hout182 hphi183
                    have hS184 : St wd2 wd180 [] := St.extend hS104 he181
                    obtain ⟨S185, hS186, hf187⟩ := hphi183 5 36 _ rfl rfl rfl
                    have e188 : f179 36 = (Value.pointer (some (elA u150 ((k55 : Int)).toNat))) := hf187
                    exact OpX.val u189 wd180 rfl (op_load one_22 e188 (Ext.cell (Ext.trans hE7 hS184.ext) hc190)) (Ext.refl _) rfl
                  · refine ObX.op rfl ?_
                    intro f192 wd193 he194 hout195 hphi196
                    have hS197 : St wd2 wd193 [] := St.extend hS104 he194
                    have e198 : f192 7 = (Value.int .i64 (k81 : Int)) := (hout195 7 rfl).trans rfl
                    exact OpX.val (Value.int .i64 (k81 : Int)) wd193 rfl (op_move e198) (Ext.refl _) ⟨rfl, hr103⟩
                  · refine ObX.op rfl ?_
                    intro f199 wd200 he201 hout202 hphi203
                    have hS204 : St wd2 wd200 [] := St.extend hS104 he201
                    obtain ⟨S205, hS206, hf207⟩ := hphi203 6 37 _ rfl rfl rfl
                    have e208 : f199 37 = u189 := hf207
                    obtain ⟨S209, hS210, hf211⟩ := hphi203 7 38 _ rfl rfl rfl
                    obtain ⟨e212, hr213⟩ : f199 38 = (Value.int .i64 (k81 : Int)) ∧ InR .i64 (k81 : Int) := hf211
                    exact OpX.val (Value.pointer (some (elA u189 ((k81 : Int)).toNat))) wd200 rfl (op_idx sl_22 (Ty.lift _ (Ext.trans hE7 hS204.ext) hr191) e208 e212 ha215 hb216) (Ext.refl _) rfl
                  · refine ObX.op rfl ?_
                    intro f218 wd219 he220 hout221 hphi222
                    have hS223 : St wd2 wd219 [] := St.extend hS104 he220
                    obtain ⟨S224, hS225, hf226⟩ := hphi222 8 39 _ rfl rfl rfl
                    have e227 : f218 39 = (Value.pointer (some (elA u189 ((k81 : Int)).toNat))) := hf226
                    exact OpX.val (Value.int .i64 x214) wd219 rfl (op_load one_2 e227 (Ext.cell (Ext.trans hE7 hS223.ext) hc229)) (Ext.refl _) ⟨rfl, hr230⟩
                  · refine ObX.op rfl ?_
                    intro f231 wd232 he233 hout234 hphi235
                    have hS236 : St wd2 wd232 [] := St.extend hS104 he233
                    have e237 : f231 3 = v_c_Values := (hout234 3 rfl).trans hf91
                    exact OpX.val v_c_Values wd232 rfl (op_move e237) (Ext.refl _) rfl
                  · refine ObX.op rfl ?_
                    intro f238 wd239 he240 hout241 hphi242
                    have hS243 : St wd2 wd239 [] := St.extend hS104 he240
                    have e244 : f238 1 = (Value.pointer (some ⟨b1, 0, none⟩)) := (hout241 1 rfl).trans hf90
                    exact OpX.val (Value.agg #[v_c_Orders, (Value.int .i64 c_Modulus), v_c_Values]) wd239 rfl (op_loadBox st_30 e244 (BoxAt.lift hS243.ext hx6) rfl rfl) (Ext.refl _) ⟨rfl, r_c_Modulus⟩
                  · refine ObX.op rfl ?_
                    intro f245 wd246 he247 hout248 hphi249
                    have hS250 : St wd2 wd246 [] := St.extend hS104 he247
                    have e251 : f245 4 = (Value.int .i64 (k12 : Int)) := (hout248 4 rfl).trans hf92
                    exact OpX.val (Value.int .i64 (k12 : Int)) wd246 rfl (op_move e251) (Ext.refl _) ⟨rfl, hr25⟩
                  · refine ObX.op rfl ?_
                    intro f252 wd253 he254 hout255 hphi256
                    have hS257 : St wd2 wd253 [] := St.extend hS104 he254
                    have e258 : f252 5 = (Value.int .i64 (k32 : Int)) := (hout255 5 rfl).trans hf93
                    exact OpX.val (Value.int .i64 (k32 : Int)) wd253 rfl (op_move e258) (Ext.refl _) ⟨rfl, hr48⟩
                  · refine ObX.op rfl ?_
                    intro f259 wd260 he261 hout262 hphi263
                    have hS264 : St wd2 wd260 [] := St.extend hS104 he261
                    obtain ⟨S265, hS266, hf267⟩ := hphi263 11 42 _ rfl rfl rfl
                    obtain ⟨e268, hr269⟩ := hf267
                    obtain ⟨S270, hS271, hf272⟩ := hphi263 12 43 _ rfl rfl rfl
                    obtain ⟨e273, hr274⟩ : f259 43 = (Value.int .i64 (k12 : Int)) ∧ InR .i64 (k12 : Int) := hf272
                    obtain ⟨S275, hS276, hf277⟩ := hphi263 13 44 _ rfl rfl rfl
                    obtain ⟨e278, hr279⟩ : f259 44 = (Value.int .i64 (k32 : Int)) ∧ InR .i64 (k32 : Int) := hf277
                    refine OpX.call rfl (op_call fn_83 (args3 e268 e273 e278)) (Ret.mono (c_impl_Cocycle_plus (Ty.lift _ (Ext.trans hE7 hS264.ext) r_c_Orders) hr269 (Ty.lift _ (Ext.trans hE7 hS264.ext) r_c_Values) hr274 hr279 hx281) ?_)
                    rintro _ wd283 ⟨rfl, hr282, he284⟩
                    exact ⟨he284, _, noS _ _, ⟨rfl, hr282⟩⟩
                  · refine ObX.op rfl ?_
                    intro f286 wd287 he288 hout289 hphi290
                    have hS291 : St wd2 wd287 [] := St.extend hS104 he288
                    obtain ⟨S292, hS293, hf294⟩ := hphi290 10 41 _ rfl rfl rfl
                    have e295 : f286 41 = v_c_Values := hf294
                    obtain ⟨S296, hS297, hf298⟩ := hphi290 14 45 _ rfl rfl rfl
                    obtain ⟨e299, hr300⟩ : f286 45 = (Value.int .i64 x280) ∧ InR .i64 x280 := hf298
                    exact OpX.val (Value.pointer (some (elA v_c_Values (x280).toNat))) wd287 rfl (op_idx sl_23 (Ty.lift _ (Ext.trans hE7 hS291.ext) r_c_Values) e295 e299 ha302 hb303) (Ext.refl _) rfl
                  · refine ObX.op rfl ?_
                    intro f305 wd306 he307 hout308 hphi309
                    have hS310 : St wd2 wd306 [] := St.extend hS104 he307
                    obtain ⟨S311, hS312, hf313⟩ := hphi309 15 46 _ rfl rfl rfl
                    have e314 : f305 46 = (Value.pointer (some (elA v_c_Values (x280).toNat))) := hf313
                    exact OpX.val u315 wd306 rfl (op_load one_27 e314 (Ext.cell (Ext.trans hE7 hS310.ext) hc316)) (Ext.refl _) rfl
                  · refine ObX.op rfl ?_
                    intro f318 wd319 he320 hout321 hphi322
                    have hS323 : St wd2 wd319 [] := St.extend hS104 he320
                    have e324 : f318 6 = (Value.int .i64 (k55 : Int)) := (hout321 6 rfl).trans hf94
                    exact OpX.val (Value.int .i64 (k55 : Int)) wd319 rfl (op_move e324) (Ext.refl _) ⟨rfl, hr74⟩
                  · refine ObX.op rfl ?_
                    intro f325 wd326 he327 hout328 hphi329
                    have hS330 : St wd2 wd326 [] := St.extend hS104 he327
                    obtain ⟨S331, hS332, hf333⟩ := hphi329 16 47 _ rfl rfl rfl
                    have e334 : f325 47 = u315 := hf333
                    obtain ⟨S335, hS336, hf337⟩ := hphi329 17 48 _ rfl rfl rfl
                    obtain ⟨e338, hr339⟩ : f325 48 = (Value.int .i64 (k55 : Int)) ∧ InR .i64 (k55 : Int) := hf337
                    exact OpX.val (Value.pointer (some (elA u315 ((k55 : Int)).toNat))) wd326 rfl (op_idx sl_27 (Ty.lift _ (Ext.trans hE7 hS330.ext) hr317) e334 e338 ha341 hb342) (Ext.refl _) rfl
                  · refine ObX.op rfl ?_
                    intro f344 wd345 he346 hout347 hphi348
                    have hS349 : St wd2 wd345 [] := St.extend hS104 he346
                    obtain ⟨S350, hS351, hf352⟩ := hphi348 18 49 _ rfl rfl rfl
                    have e353 : f344 49 = (Value.pointer (some (elA u315 ((k55 : Int)).toNat))) := hf352
                    exact OpX.val u354 wd345 rfl (op_load one_22 e353 (Ext.cell (Ext.trans hE7 hS349.ext) hc355)) (Ext.refl _) rfl
                  · refine ObX.op rfl ?_
                    intro f357 wd358 he359 hout360 hphi361
                    have hS362 : St wd2 wd358 [] := St.extend hS104 he359
                    have e363 : f357 7 = (Value.int .i64 (k81 : Int)) := (hout360 7 rfl).trans rfl
                    exact OpX.val (Value.int .i64 (k81 : Int)) wd358 rfl (op_move e363) (Ext.refl _) ⟨rfl, hr103⟩
                  · refine ObX.op rfl ?_
                    intro f364 wd365 he366 hout367 hphi368
                    have hS369 : St wd2 wd365 [] := St.extend hS104 he366
                    obtain ⟨S370, hS371, hf372⟩ := hphi368 19 50 _ rfl rfl rfl
                    have e373 : f364 50 = u354 := hf372
                    obtain ⟨S374, hS375, hf376⟩ := hphi368 20 51 _ rfl rfl rfl
                    obtain ⟨e377, hr378⟩ : f364 51 = (Value.int .i64 (k81 : Int)) ∧ InR .i64 (k81 : Int) := hf376
                    exact OpX.val (Value.pointer (some (elA u354 ((k81 : Int)).toNat))) wd365 rfl (op_idx sl_22 (Ty.lift _ (Ext.trans hE7 hS369.ext) hr356) e373 e377 ha380 hb381) (Ext.refl _) rfl
                  · refine ObX.op rfl ?_
                    intro f383 wd384 he385 hout386 hphi387
                    have hS388 : St wd2 wd384 [] := St.extend hS104 he385
                    obtain ⟨S389, hS390, hf391⟩ := hphi387 21 52 _ rfl rfl rfl
                    have e392 : f383 52 = (Value.pointer (some (elA u354 ((k81 : Int)).toNat))) := hf391
                    exact OpX.val (Value.int .i64 x379) wd384 rfl (op_load one_2 e392 (Ext.cell (Ext.trans hE7 hS388.ext) hc394)) (Ext.refl _) ⟨rfl, hr395⟩
                  · refine ObX.op rfl ?_
                    intro f396 wd397 he398 hout399 hphi400
                    have hS401 : St wd2 wd397 [] := St.extend hS104 he398
                    obtain ⟨S402, hS403, hf404⟩ := hphi400 9 40 _ rfl rfl rfl
                    obtain ⟨e405, hr406⟩ : f396 40 = (Value.int .i64 x214) ∧ InR .i64 x214 := hf404
                    obtain ⟨S407, hS408, hf409⟩ := hphi400 22 53 _ rfl rfl rfl
                    obtain ⟨e410, hr411⟩ : f396 53 = (Value.int .i64 x379) ∧ InR .i64 x379 := hf409
                    exact OpX.val (Value.int .i64 (w64 (x214 - x379))) wd397 rfl (op_sub e405 e410) (Ext.refl _) ⟨rfl, (inR_wrap _ _)⟩
                  · refine ObX.op rfl ?_
                    intro f412 wd413 he414 hout415 hphi416
                    have hS417 : St wd2 wd413 [] := St.extend hS104 he414
                    have e418 : f412 3 = v_c_Values := (hout415 3 rfl).trans hf91
                    exact OpX.val v_c_Values wd413 rfl (op_move e418) (Ext.refl _) rfl
                  · refine ObX.op rfl ?_
                    intro f419 wd420 he421 hout422 hphi423
                    have hS424 : St wd2 wd420 [] := St.extend hS104 he421
                    have e425 : f419 4 = (Value.int .i64 (k12 : Int)) := (hout422 4 rfl).trans hf92
                    exact OpX.val (Value.int .i64 (k12 : Int)) wd420 rfl (op_move e425) (Ext.refl _) ⟨rfl, hr25⟩
                  · refine ObX.op rfl ?_
                    intro f426 wd427 he428 hout429 hphi430
                    have hS431 : St wd2 wd427 [] := St.extend hS104 he428
                    obtain ⟨S432, hS433, hf434⟩ := hphi430 24 55 _ rfl rfl rfl
                    have e435 : f426 55 = v_c_Values := hf434
                    obtain ⟨S436, hS437, hf438⟩ := hphi430 25 56 _ rfl rfl rfl
                    obtain ⟨e439, hr440⟩ : f426 56 = (Value.int .i64 (k12 : Int)) ∧ InR .i64 (k12 : Int) := hf438
                    exact OpX.val (Value.pointer (some (elA v_c_Values ((k12 : Int)).toNat))) wd427 rfl (op_idx sl_23 (Ty.lift _ (Ext.trans hE7 hS431.ext) r_c_Values) e435 e439 ha442 hb443) (Ext.refl _) rfl
                  · refine ObX.op rfl ?_
                    intro f445 wd446 he447 hout448 hphi449
                    have hS450 : St wd2 wd446 [] := St.extend hS104 he447
                    obtain ⟨S451, hS452, hf453⟩ := hphi449 26 57 _ rfl rfl rfl
                    have e454 : f445 57 = (Value.pointer (some (elA v_c_Values ((k12 : Int)).toNat))) := hf453
                    exact OpX.val u455 wd446 rfl (op_load one_27 e454 (Ext.cell (Ext.trans hE7 hS450.ext) hc456)) (Ext.refl _) rfl
                  · refine ObX.op rfl ?_
                    intro f458 wd459 he460 hout461 hphi462
                    have hS463 : St wd2 wd459 [] := St.extend hS104 he460
                    have e464 : f458 1 = (Value.pointer (some ⟨b1, 0, none⟩)) := (hout461 1 rfl).trans hf90
                    exact OpX.val (Value.agg #[v_c_Orders, (Value.int .i64 c_Modulus), v_c_Values]) wd459 rfl (op_loadBox st_30 e464 (BoxAt.lift hS463.ext hx6) rfl rfl) (Ext.refl _) ⟨rfl, r_c_Modulus⟩
                  · refine ObX.op rfl ?_
                    intro f465 wd466 he467 hout468 hphi469
                    have hS470 : St wd2 wd466 [] := St.extend hS104 he467
                    have e471 : f465 5 = (Value.int .i64 (k32 : Int)) := (hout468 5 rfl).trans hf93
                    exact OpX.val (Value.int .i64 (k32 : Int)) wd466 rfl (op_move e471) (Ext.refl _) ⟨rfl, hr48⟩
                  · refine ObX.op rfl ?_
                    intro f472 wd473 he474 hout475 hphi476
                    have hS477 : St wd2 wd473 [] := St.extend hS104 he474
                    have e478 : f472 6 = (Value.int .i64 (k55 : Int)) := (hout475 6 rfl).trans hf94
                    exact OpX.val (Value.int .i64 (k55 : Int)) wd473 rfl (op_move e478) (Ext.refl _) ⟨rfl, hr74⟩
                  · refine ObX.op rfl ?_
                    intro f479 wd480 he481 hout482 hphi483
                    have hS484 : St wd2 wd480 [] := St.extend hS104 he481
                    obtain ⟨S485, hS486, hf487⟩ := hphi483 28 59 _ rfl rfl rfl
                    obtain ⟨e488, hr489⟩ := hf487
                    obtain ⟨S490, hS491, hf492⟩ := hphi483 29 60 _ rfl rfl rfl
                    obtain ⟨e493, hr494⟩ : f479 60 = (Value.int .i64 (k32 : Int)) ∧ InR .i64 (k32 : Int) := hf492
                    obtain ⟨S495, hS496, hf497⟩ := hphi483 30 61 _ rfl rfl rfl
                    obtain ⟨e498, hr499⟩ : f479 61 = (Value.int .i64 (k55 : Int)) ∧ InR .i64 (k55 : Int) := hf497
                    refine OpX.call rfl (op_call fn_83 (args3 e488 e493 e498)) (Ret.mono (c_impl_Cocycle_plus (Ty.lift _ (Ext.trans hE7 hS484.ext) r_c_Orders) hr489 (Ty.lift _ (Ext.trans hE7 hS484.ext) r_c_Values) hr494 hr499 hx501) ?_)
                    rintro _ wd503 ⟨rfl, hr502, he504⟩
                    exact ⟨he504, _, noS _ _, ⟨rfl, hr502⟩⟩
                  · refine ObX.op rfl ?_
                    intro f506 wd507 he508 hout509 hphi510
                    have hS511 : St wd2 wd507 [] := St.extend hS104 he508
                    obtain ⟨S512, hS513, hf514⟩ := hphi510 27 58 _ rfl rfl rfl
                    have e515 : f506 58 = u455 := hf514
                    obtain ⟨S516, hS517, hf518⟩ := hphi510 31 62 _ rfl rfl rfl
                    obtain ⟨e519, hr520⟩ : f506 62 = (Value.int .i64 x500) ∧ InR .i64 x500 := hf518
                    exact OpX.val (Value.pointer (some (elA u455 (x500).toNat))) wd507 rfl (op_idx sl_27 (Ty.lift _ (Ext.trans hE7 hS511.ext) hr457) e515 e519 ha522 hb523) (Ext.refl _) rfl
                  · refine ObX.op rfl ?_
                    intro f525 wd526 he527 hout528 hphi529
                    have hS530 : St wd2 wd526 [] := St.extend hS104 he527
                    obtain ⟨S531, hS532, hf533⟩ := hphi529 32 63 _ rfl rfl rfl
                    have e534 : f525 63 = (Value.pointer (some (elA u455 (x500).toNat))) := hf533
                    exact OpX.val u535 wd526 rfl (op_load one_22 e534 (Ext.cell (Ext.trans hE7 hS530.ext) hc536)) (Ext.refl _) rfl
                  · refine ObX.op rfl ?_
                    intro f538 wd539 he540 hout541 hphi542
                    have hS543 : St wd2 wd539 [] := St.extend hS104 he540
                    have e544 : f538 7 = (Value.int .i64 (k81 : Int)) := (hout541 7 rfl).trans rfl
                    exact OpX.val (Value.int .i64 (k81 : Int)) wd539 rfl (op_move e544) (Ext.refl _) ⟨rfl, hr103⟩
                  · refine ObX.op rfl ?_
                    intro f545 wd546 he547 hout548 hphi549
                    have hS550 : St wd2 wd546 [] := St.extend hS104 he547
                    obtain ⟨S551, hS552, hf553⟩ := hphi549 33 64 _ rfl rfl rfl
                    have e554 : f545 64 = u535 := hf553
                    obtain ⟨S555, hS556, hf557⟩ := hphi549 34 65 _ rfl rfl rfl
                    obtain ⟨e558, hr559⟩ : f545 65 = (Value.int .i64 (k81 : Int)) ∧ InR .i64 (k81 : Int) := hf557
                    exact OpX.val (Value.pointer (some (elA u535 ((k81 : Int)).toNat))) wd546 rfl (op_idx sl_22 (Ty.lift _ (Ext.trans hE7 hS550.ext) hr537) e554 e558 ha561 hb562) (Ext.refl _) rfl
                  · refine ObX.op rfl ?_
                    intro f564 wd565 he566 hout567 hphi568
                    have hS569 : St wd2 wd565 [] := St.extend hS104 he566
                    obtain ⟨S570, hS571, hf572⟩ := hphi568 35 66 _ rfl rfl rfl
                    have e573 : f564 66 = (Value.pointer (some (elA u535 ((k81 : Int)).toNat))) := hf572
                    exact OpX.val (Value.int .i64 x560) wd565 rfl (op_load one_2 e573 (Ext.cell (Ext.trans hE7 hS569.ext) hc575)) (Ext.refl _) ⟨rfl, hr576⟩
                  · refine ObX.op rfl ?_
                    intro f577 wd578 he579 hout580 hphi581
                    have hS582 : St wd2 wd578 [] := St.extend hS104 he579
                    obtain ⟨S583, hS584, hf585⟩ := hphi581 23 54 _ rfl rfl rfl
                    obtain ⟨e586, hr587⟩ : f577 54 = (Value.int .i64 (w64 (x214 - x379))) ∧ InR .i64 (w64 (x214 - x379)) := hf585
                    obtain ⟨S588, hS589, hf590⟩ := hphi581 36 67 _ rfl rfl rfl
                    obtain ⟨e591, hr592⟩ : f577 67 = (Value.int .i64 x560) ∧ InR .i64 x560 := hf590
                    exact OpX.val (Value.int .i64 (w64 ((w64 (x214 - x379)) + x560))) wd578 rfl (op_add e586 e591) (Ext.refl _) ⟨rfl, (inR_wrap _ _)⟩
                  · refine ObX.op rfl ?_
                    intro f593 wd594 he595 hout596 hphi597
                    have hS598 : St wd2 wd594 [] := St.extend hS104 he595
                    have e599 : f593 3 = v_c_Values := (hout596 3 rfl).trans hf91
                    exact OpX.val v_c_Values wd594 rfl (op_move e599) (Ext.refl _) rfl
                  · refine ObX.op rfl ?_
                    intro f600 wd601 he602 hout603 hphi604
                    have hS605 : St wd2 wd601 [] := St.extend hS104 he602
                    have e606 : f600 4 = (Value.int .i64 (k12 : Int)) := (hout603 4 rfl).trans hf92
                    exact OpX.val (Value.int .i64 (k12 : Int)) wd601 rfl (op_move e606) (Ext.refl _) ⟨rfl, hr25⟩
                  · refine ObX.op rfl ?_
                    intro f607 wd608 he609 hout610 hphi611
                    have hS612 : St wd2 wd608 [] := St.extend hS104 he609
                    obtain ⟨S613, hS614, hf615⟩ := hphi611 38 69 _ rfl rfl rfl
                    have e616 : f607 69 = v_c_Values := hf615
                    obtain ⟨S617, hS618, hf619⟩ := hphi611 39 70 _ rfl rfl rfl
                    obtain ⟨e620, hr621⟩ : f607 70 = (Value.int .i64 (k12 : Int)) ∧ InR .i64 (k12 : Int) := hf619
                    exact OpX.val (Value.pointer (some (elA v_c_Values ((k12 : Int)).toNat))) wd608 rfl (op_idx sl_23 (Ty.lift _ (Ext.trans hE7 hS612.ext) r_c_Values) e616 e620 ha442 hb443) (Ext.refl _) rfl
                  · refine ObX.op rfl ?_
                    intro f622 wd623 he624 hout625 hphi626
                    have hS627 : St wd2 wd623 [] := St.extend hS104 he624
                    obtain ⟨S628, hS629, hf630⟩ := hphi626 40 71 _ rfl rfl rfl
                    have e631 : f622 71 = (Value.pointer (some (elA v_c_Values ((k12 : Int)).toNat))) := hf630
                    exact OpX.val u632 wd623 rfl (op_load one_27 e631 (Ext.cell (Ext.trans hE7 hS627.ext) hc633)) (Ext.refl _) rfl
                  · refine ObX.op rfl ?_
                    intro f635 wd636 he637 hout638 hphi639
                    have hS640 : St wd2 wd636 [] := St.extend hS104 he637
                    have e641 : f635 5 = (Value.int .i64 (k32 : Int)) := (hout638 5 rfl).trans hf93
                    exact OpX.val (Value.int .i64 (k32 : Int)) wd636 rfl (op_move e641) (Ext.refl _) ⟨rfl, hr48⟩
                  · refine ObX.op rfl ?_
                    intro f642 wd643 he644 hout645 hphi646
                    have hS647 : St wd2 wd643 [] := St.extend hS104 he644
                    obtain ⟨S648, hS649, hf650⟩ := hphi646 41 72 _ rfl rfl rfl
                    have e651 : f642 72 = u632 := hf650
                    obtain ⟨S652, hS653, hf654⟩ := hphi646 42 73 _ rfl rfl rfl
                    obtain ⟨e655, hr656⟩ : f642 73 = (Value.int .i64 (k32 : Int)) ∧ InR .i64 (k32 : Int) := hf654
                    exact OpX.val (Value.pointer (some (elA u632 ((k32 : Int)).toNat))) wd643 rfl (op_idx sl_27 (Ty.lift _ (Ext.trans hE7 hS647.ext) hr634) e651 e655 ha658 hb659) (Ext.refl _) rfl
                  · refine ObX.op rfl ?_
                    intro f661 wd662 he663 hout664 hphi665
                    have hS666 : St wd2 wd662 [] := St.extend hS104 he663
                    obtain ⟨S667, hS668, hf669⟩ := hphi665 43 74 _ rfl rfl rfl
                    have e670 : f661 74 = (Value.pointer (some (elA u632 ((k32 : Int)).toNat))) := hf669
                    exact OpX.val u671 wd662 rfl (op_load one_22 e670 (Ext.cell (Ext.trans hE7 hS666.ext) hc672)) (Ext.refl _) rfl
                  · refine ObX.op rfl ?_
                    intro f674 wd675 he676 hout677 hphi678
                    have hS679 : St wd2 wd675 [] := St.extend hS104 he676
                    have e680 : f674 1 = (Value.pointer (some ⟨b1, 0, none⟩)) := (hout677 1 rfl).trans hf90
                    exact OpX.val (Value.agg #[v_c_Orders, (Value.int .i64 c_Modulus), v_c_Values]) wd675 rfl (op_loadBox st_30 e680 (BoxAt.lift hS679.ext hx6) rfl rfl) (Ext.refl _) ⟨rfl, r_c_Modulus⟩
                  · refine ObX.op rfl ?_
                    intro f681 wd682 he683 hout684 hphi685
                    have hS686 : St wd2 wd682 [] := St.extend hS104 he683
                    have e687 : f681 6 = (Value.int .i64 (k55 : Int)) := (hout684 6 rfl).trans hf94
                    exact OpX.val (Value.int .i64 (k55 : Int)) wd682 rfl (op_move e687) (Ext.refl _) ⟨rfl, hr74⟩
                  · refine ObX.op rfl ?_
                    intro f688 wd689 he690 hout691 hphi692
                    have hS693 : St wd2 wd689 [] := St.extend hS104 he690
                    have e694 : f688 7 = (Value.int .i64 (k81 : Int)) := (hout691 7 rfl).trans rfl
                    exact OpX.val (Value.int .i64 (k81 : Int)) wd689 rfl (op_move e694) (Ext.refl _) ⟨rfl, hr103⟩
                  · refine ObX.op rfl ?_
                    intro f695 wd696 he697 hout698 hphi699
                    have hS700 : St wd2 wd696 [] := St.extend hS104 he697
                    obtain ⟨S701, hS702, hf703⟩ := hphi699 45 76 _ rfl rfl rfl
                    obtain ⟨e704, hr705⟩ := hf703
                    obtain ⟨S706, hS707, hf708⟩ := hphi699 46 77 _ rfl rfl rfl
                    obtain ⟨e709, hr710⟩ : f695 77 = (Value.int .i64 (k55 : Int)) ∧ InR .i64 (k55 : Int) := hf708
                    obtain ⟨S711, hS712, hf713⟩ := hphi699 47 78 _ rfl rfl rfl
                    obtain ⟨e714, hr715⟩ : f695 78 = (Value.int .i64 (k81 : Int)) ∧ InR .i64 (k81 : Int) := hf713
                    refine OpX.call rfl (op_call fn_83 (args3 e704 e709 e714)) (Ret.mono (c_impl_Cocycle_plus (Ty.lift _ (Ext.trans hE7 hS700.ext) r_c_Orders) hr705 (Ty.lift _ (Ext.trans hE7 hS700.ext) r_c_Values) hr710 hr715 hx717) ?_)
                    rintro _ wd719 ⟨rfl, hr718, he720⟩
                    exact ⟨he720, _, noS _ _, ⟨rfl, hr718⟩⟩
                  · refine ObX.op rfl ?_
                    intro f722 wd723 he724 hout725 hphi726
                    have hS727 : St wd2 wd723 [] := St.extend hS104 he724
                    obtain ⟨S728, hS729, hf730⟩ := hphi726 44 75 _ rfl rfl rfl
                    have e731 : f722 75 = u671 := hf730
                    obtain ⟨S732, hS733, hf734⟩ := hphi726 48 79 _ rfl rfl rfl
                    obtain ⟨e735, hr736⟩ : f722 79 = (Value.int .i64 x716) ∧ InR .i64 x716 := hf734
                    exact OpX.val (Value.pointer (some (elA u671 (x716).toNat))) wd723 rfl (op_idx sl_22 (Ty.lift _ (Ext.trans hE7 hS727.ext) hr673) e731 e735 ha738 hb739) (Ext.refl _) rfl
                  · refine ObX.op rfl ?_
                    intro f741 wd742 he743 hout744 hphi745
                    have hS746 : St wd2 wd742 [] := St.extend hS104 he743
                    obtain ⟨S747, hS748, hf749⟩ := hphi745 49 80 _ rfl rfl rfl
                    have e750 : f741 80 = (Value.pointer (some (elA u671 (x716).toNat))) := hf749
                    exact OpX.val (Value.int .i64 x737) wd742 rfl (op_load one_2 e750 (Ext.cell (Ext.trans hE7 hS746.ext) hc752)) (Ext.refl _) ⟨rfl, hr753⟩
                  · refine ObX.op rfl ?_
                    intro f754 wd755 he756 hout757 hphi758
                    have hS759 : St wd2 wd755 [] := St.extend hS104 he756
                    obtain ⟨S760, hS761, hf762⟩ := hphi758 37 68 _ rfl rfl rfl
                    obtain ⟨e763, hr764⟩ : f754 68 = (Value.int .i64 (w64 ((w64 (x214 - x379)) + x560))) ∧ InR .i64 (w64 ((w64 (x214 - x379)) + x560)) := hf762
                    obtain ⟨S765, hS766, hf767⟩ := hphi758 50 81 _ rfl rfl rfl
                    obtain ⟨e768, hr769⟩ : f754 81 = (Value.int .i64 x737) ∧ InR .i64 x737 := hf767
                    exact OpX.val (Value.int .i64 (w64 ((w64 ((w64 (x214 - x379)) + x560)) - x737))) wd755 rfl (op_sub e763 e768) (Ext.refl _) ⟨rfl, (inR_wrap _ _)⟩
                  · refine ObX.op rfl ?_
                    intro f770 wd771 he772 hout773 hphi774
                    have hS775 : St wd2 wd771 [] := St.extend hS104 he772
                    have e776 : f770 3 = v_c_Values := (hout773 3 rfl).trans hf91
                    exact OpX.val v_c_Values wd771 rfl (op_move e776) (Ext.refl _) rfl
                  · refine ObX.op rfl ?_
                    intro f777 wd778 he779 hout780 hphi781
                    have hS782 : St wd2 wd778 [] := St.extend hS104 he779
                    have e783 : f777 4 = (Value.int .i64 (k12 : Int)) := (hout780 4 rfl).trans hf92
                    exact OpX.val (Value.int .i64 (k12 : Int)) wd778 rfl (op_move e783) (Ext.refl _) ⟨rfl, hr25⟩
                  · refine ObX.op rfl ?_
                    intro f784 wd785 he786 hout787 hphi788
                    have hS789 : St wd2 wd785 [] := St.extend hS104 he786
                    obtain ⟨S790, hS791, hf792⟩ := hphi788 52 83 _ rfl rfl rfl
                    have e793 : f784 83 = v_c_Values := hf792
                    obtain ⟨S794, hS795, hf796⟩ := hphi788 53 84 _ rfl rfl rfl
                    obtain ⟨e797, hr798⟩ : f784 84 = (Value.int .i64 (k12 : Int)) ∧ InR .i64 (k12 : Int) := hf796
                    exact OpX.val (Value.pointer (some (elA v_c_Values ((k12 : Int)).toNat))) wd785 rfl (op_idx sl_23 (Ty.lift _ (Ext.trans hE7 hS789.ext) r_c_Values) e793 e797 ha442 hb443) (Ext.refl _) rfl
                  · refine ObX.op rfl ?_
                    intro f799 wd800 he801 hout802 hphi803
                    have hS804 : St wd2 wd800 [] := St.extend hS104 he801
                    obtain ⟨S805, hS806, hf807⟩ := hphi803 54 85 _ rfl rfl rfl
                    have e808 : f799 85 = (Value.pointer (some (elA v_c_Values ((k12 : Int)).toNat))) := hf807
                    exact OpX.val u809 wd800 rfl (op_load one_27 e808 (Ext.cell (Ext.trans hE7 hS804.ext) hc810)) (Ext.refl _) rfl
                  · refine ObX.op rfl ?_
                    intro f812 wd813 he814 hout815 hphi816
                    have hS817 : St wd2 wd813 [] := St.extend hS104 he814
                    have e818 : f812 5 = (Value.int .i64 (k32 : Int)) := (hout815 5 rfl).trans hf93
                    exact OpX.val (Value.int .i64 (k32 : Int)) wd813 rfl (op_move e818) (Ext.refl _) ⟨rfl, hr48⟩
                  · refine ObX.op rfl ?_
                    intro f819 wd820 he821 hout822 hphi823
                    have hS824 : St wd2 wd820 [] := St.extend hS104 he821
                    obtain ⟨S825, hS826, hf827⟩ := hphi823 55 86 _ rfl rfl rfl
                    have e828 : f819 86 = u809 := hf827
                    obtain ⟨S829, hS830, hf831⟩ := hphi823 56 87 _ rfl rfl rfl
                    obtain ⟨e832, hr833⟩ : f819 87 = (Value.int .i64 (k32 : Int)) ∧ InR .i64 (k32 : Int) := hf831
                    exact OpX.val (Value.pointer (some (elA u809 ((k32 : Int)).toNat))) wd820 rfl (op_idx sl_27 (Ty.lift _ (Ext.trans hE7 hS824.ext) hr811) e828 e832 ha658 hb659) (Ext.refl _) rfl
                  · refine ObX.op rfl ?_
                    intro f834 wd835 he836 hout837 hphi838
                    have hS839 : St wd2 wd835 [] := St.extend hS104 he836
                    obtain ⟨S840, hS841, hf842⟩ := hphi838 57 88 _ rfl rfl rfl
                    have e843 : f834 88 = (Value.pointer (some (elA u809 ((k32 : Int)).toNat))) := hf842
                    exact OpX.val u844 wd835 rfl (op_load one_22 e843 (Ext.cell (Ext.trans hE7 hS839.ext) hc845)) (Ext.refl _) rfl
                  · refine ObX.op rfl ?_
                    intro f847 wd848 he849 hout850 hphi851
                    have hS852 : St wd2 wd848 [] := St.extend hS104 he849
                    have e853 : f847 6 = (Value.int .i64 (k55 : Int)) := (hout850 6 rfl).trans hf94
                    exact OpX.val (Value.int .i64 (k55 : Int)) wd848 rfl (op_move e853) (Ext.refl _) ⟨rfl, hr74⟩
                  · refine ObX.op rfl ?_
                    intro f854 wd855 he856 hout857 hphi858
                    have hS859 : St wd2 wd855 [] := St.extend hS104 he856
                    obtain ⟨S860, hS861, hf862⟩ := hphi858 58 89 _ rfl rfl rfl
                    have e863 : f854 89 = u844 := hf862
                    obtain ⟨S864, hS865, hf866⟩ := hphi858 59 90 _ rfl rfl rfl
                    obtain ⟨e867, hr868⟩ : f854 90 = (Value.int .i64 (k55 : Int)) ∧ InR .i64 (k55 : Int) := hf866
                    exact OpX.val (Value.pointer (some (elA u844 ((k55 : Int)).toNat))) wd855 rfl (op_idx sl_22 (Ty.lift _ (Ext.trans hE7 hS859.ext) hr846) e863 e867 ha870 hb871) (Ext.refl _) rfl
                  · refine ObX.op rfl ?_
                    intro f873 wd874 he875 hout876 hphi877
                    have hS878 : St wd2 wd874 [] := St.extend hS104 he875
                    obtain ⟨S879, hS880, hf881⟩ := hphi877 60 91 _ rfl rfl rfl
                    have e882 : f873 91 = (Value.pointer (some (elA u844 ((k55 : Int)).toNat))) := hf881
                    exact OpX.val (Value.int .i64 x869) wd874 rfl (op_load one_2 e882 (Ext.cell (Ext.trans hE7 hS878.ext) hc884)) (Ext.refl _) ⟨rfl, hr885⟩
                  · intro f886 wd887 Ss888 he889 hout890 hSn891 hSd892 hphi893
                    show WL _ _ _ _ _ _ _
                    have hS894 : St wd2 wd887 [] := St.extend hS104 he889
                    obtain ⟨e895, hr896⟩ : f886 82 = (Value.int .i64 (w64 ((w64 ((w64 (x214 - x379)) + x560)) - x737))) ∧ InR .i64 (w64 ((w64 ((w64 (x214 - x379)) + x560)) - x737)) := hphi893 51 82 _ (by decide) rfl rfl
                    obtain ⟨e897, hr898⟩ : f886 92 = (Value.int .i64 x869) ∧ InR .i64 x869 := hphi893 61 92 _ (by decide) rfl rfl
                    have e899 : f886 1 = (Value.pointer (some ⟨b1, 0, none⟩)) := (hout890 1 rfl).trans hf90
                    have e900 : f886 3 = v_c_Values := (hout890 3 rfl).trans hf91
                    have e901 : f886 4 = (Value.int .i64 (k12 : Int)) := (hout890 4 rfl).trans hf92
                    have e902 : f886 5 = (Value.int .i64 (k32 : Int)) := (hout890 5 rfl).trans hf93
                    have e903 : f886 6 = (Value.int .i64 (k55 : Int)) := (hout890 6 rfl).trans hf94
                    have e904 : f886 7 = (Value.int .i64 (k81 : Int)) := (hout890 7 rfl).trans rfl
                    have e905 : f886 12 = (Value.int .i64 ((c_Values).length : Int)) := (hout890 12 rfl).trans hf95
                    have e906 : f886 13 = (Value.int .i64 (k12 : Int)) := (hout890 13 rfl).trans hf96
                    have e907 : f886 17 = (Value.int .i64 ((c_Values).length : Int)) := (hout890 17 rfl).trans hf97
                    have e908 : f886 18 = (Value.int .i64 (k32 : Int)) := (hout890 18 rfl).trans hf98
                    have e909 : f886 22 = (Value.int .i64 ((c_Values).length : Int)) := (hout890 22 rfl).trans hf99
                    have e910 : f886 23 = (Value.int .i64 (k55 : Int)) := (hout890 23 rfl).trans hf100
                    have e911 : f886 27 = (Value.int .i64 ((c_Values).length : Int)) := (hout890 27 rfl).trans hf101
                    have e912 : f886 28 = (Value.int .i64 (k81 : Int)) := (hout890 28 rfl).trans hf102
                    refine WL.val (Value.int .i64 (w64 ((w64 ((w64 ((w64 (x214 - x379)) + x560)) - x737)) + x869))) _ (op_add e895 e897) rfl ?_
                    refine WL.val (Value.int .i64 (w64 ((w64 ((w64 ((w64 (x214 - x379)) + x560)) - x737)) + x869))) _ (op_assign rfl) rfl ?_
                    refine WL.nil ?_
                    show W _ _ _ _ _ _
                    refine W.seq (W.region ?_)
                    refine WL.val (Value.agg #[v_c_Orders, (Value.int .i64 c_Modulus), v_c_Values]) _ (op_loadBox st_30 e899 (BoxAt.lift hS894.ext hx6) rfl rfl) rfl ?_
                    refine WL.val (Value.int .i64 (w64 ((w64 ((w64 ((w64 (x214 - x379)) + x560)) - x737)) + x869))) _ (op_move rfl) rfl ?_
                    obtain ⟨x913, hx914, hb86⟩ := bs hb86
                    refine WL.call _ (op_call fn_43 (args2 rfl rfl)) (c_impl_Cocycle_rest (Ty.lift _ (Ext.trans hE7 hS894.ext) r_c_Orders) r_c_Modulus (Ty.lift _ (Ext.trans hE7 hS894.ext) r_c_Values) (inR_wrap _ _) hx914) rfl ?_
                    rintro _ wd916 ⟨rfl, hr915, he917⟩
                    have hS919 := St.extend hS894 he917
                    replace hS919 : St wd2 wd916 [] := hS919
                    refine WL.val (Value.bool (x913 != (0 : Int))) _ (op_neq rfl rfl) rfl ?_
                    refine WL.nil ?_
                    show W _ _ _ _ _ _
                    refine W.cond (x913 != (0 : Int)) rfl (fun hc920 => ?_) (fun hc920 => ?_)
                    · replace hb86 := ip hb86 hc920
                      refine W.seq (W.region ?_)
                      refine WL.val (Value.int .i64 (k12 : Int)) _ (op_move e901) rfl ?_
                      refine WL.val (Value.int .i64 (k32 : Int)) _ (op_move e902) rfl ?_
                      refine WL.val (Value.int .i64 (k55 : Int)) _ (op_move e903) rfl ?_
                      refine WL.val (Value.int .i64 (k81 : Int)) _ (op_move e904) rfl ?_
                      refine WL.litFlat (t := (Ty.i .i64)) (flat_i .i64) [(Value.int .i64 (k12 : Int)), (Value.int .i64 (k32 : Int)), (Value.int .i64 (k55 : Int)), (Value.int .i64 (k81 : Int))] [(k12 : Int), (k32 : Int), (k55 : Int), (k81 : Int)] hS919 sl_22 rfl rfl (fillL rfl ⟨rfl, rfl, rfl, rfl, rfl, rfl, rfl, rfl, rfl, rfl, rfl, rfl, trivial⟩) rfl rfl (litL ⟨⟨rfl, hr25⟩, ⟨rfl, hr48⟩, ⟨rfl, hr74⟩, ⟨rfl, hr103⟩, trivial⟩) rfl ?_
                      intro u922 wd923 hS924 he925
                      replace hS924 : St wd2 wd923 [(Ty.sl (Ty.i .i64)).at u922 ([(k12 : Int), (k32 : Int), (k55 : Int), (k81 : Int)] : (List Int))] := hS924
                      refine WL.val u922 _ (op_assign rfl) rfl ?_
                      refine WL.nil ?_
                      show W _ _ _ _ _ _
                      refine W.ret ?_
                      obtain rfl := Option.some.inj hb86
                      obtain rfl := hret89 _ rfl
                      replace hb60 := onRes_ret hb60
                      obtain rfl := Option.some.inj hb60
                      obtain rfl := hret63 _ rfl
                      replace hb37 := onRes_ret hb37
                      obtain rfl := Option.some.inj hb37
                      obtain rfl := hret40 _ rfl
                      replace hb17 := onRes_ret hb17
                      obtain rfl := Option.some.inj hb17
                      obtain rfl := hret20 _ rfl
                      replace h := onRes_ret h
                      obtain rfl := Option.some.inj h
                      show FinP _ _ _ _ _ _ _
                      exact FinP.ret _ (res1 rfl rfl) ⟨u922, rfl, (nil_cons), (Ext.trans hE7 hS924.ext), (St.out (St.pick hS924 [0] rfl) (hE7))⟩
                    · replace hb86 := inegb hb86 hc920
                      refine W.skip ?_
                      show W _ _ _ _ _ _
                      refine W.region ?_
                      refine WL.val (Value.int .i64 (w64 ((k81 : Int) + (1 : Int)))) _ (op_add e912 rfl) rfl ?_
                      refine WL.val (Value.int .i64 (w64 ((k81 : Int) + (1 : Int)))) _ (op_move rfl) rfl ?_
                      refine WL.nil ?_
                      obtain rfl := Option.some.inj hb86
                      show ∃ s, _ = Ctl.next s ∧ _
                      exact ⟨_, rfl, e899, e900, e901, e902, e903, e905, e906, e907, e908, e909, e910, e911, (ctr_next hl105 hr78), (ctr_rng hl105 hr78), hS919⟩
                · intro s931 f927 wd928 hs929 hI930
                  obtain ⟨⟩ := s931
                  replace hI930 : f927 1 = (Value.pointer (some ⟨b1, 0, none⟩)) ∧ f927 3 = v_c_Values ∧ f927 4 = (Value.int .i64 (k12 : Int)) ∧ f927 5 = (Value.int .i64 (k32 : Int)) ∧ f927 6 = (Value.int .i64 (k55 : Int)) ∧ f927 12 = (Value.int .i64 ((c_Values).length : Int)) ∧ f927 13 = (Value.int .i64 (k12 : Int)) ∧ f927 17 = (Value.int .i64 ((c_Values).length : Int)) ∧ f927 18 = (Value.int .i64 (k32 : Int)) ∧ f927 22 = (Value.int .i64 ((c_Values).length : Int)) ∧ f927 23 = (Value.int .i64 (k55 : Int)) ∧ f927 27 = (Value.int .i64 ((c_Values).length : Int)) ∧ f927 28 = Value.int .i64 (((c_Values).length : Nat) : Int) ∧ InR .i64 (((c_Values).length : Nat) : Int) ∧ St wd2 wd928 [] := hI930
                  obtain ⟨hf932, hf933, hf934, hf935, hf936, hf937, hf938, hf939, hf940, hf941, hf942, hf943, hf944, hr945, hS946⟩ := hI930
                  refine W.seq (W.region ?_)
                  refine WL.val (Value.bool (decide ((((c_Values).length : Nat) : Int) < ((c_Values).length : Int)))) _ (op_lss hf944 hf943) rfl ?_
                  have hl947 : ¬ (((c_Values).length : Nat) : Int) < ((c_Values).length : Int) := by omega
                  refine WL.nil ?_
                  show W _ _ _ _ _ _
                  refine W.seq ?_
                  refine W.condF (decide ((((c_Values).length : Nat) : Int) < ((c_Values).length : Int))) rfl (decide_eq_false hl947) ?_
                  refine W.exit ?_
                  show _ = _ ∧ _
                  exact ⟨rfl, _, hs929, hf932, hf933, hf934, hf935, hf937, hf938, hf939, hf940, hf941, hf942, hS946⟩
              · rintro f948 wd949 ⟨s951, rfl, hq950⟩
                replace hb60 := onRes_fin hb60
                obtain ⟨⟩ := s951
                replace hq950 : f948 1 = (Value.pointer (some ⟨b1, 0, none⟩)) ∧ f948 3 = v_c_Values ∧ f948 4 = (Value.int .i64 (k12 : Int)) ∧ f948 5 = (Value.int .i64 (k32 : Int)) ∧ f948 12 = (Value.int .i64 ((c_Values).length : Int)) ∧ f948 13 = (Value.int .i64 (k12 : Int)) ∧ f948 17 = (Value.int .i64 ((c_Values).length : Int)) ∧ f948 18 = (Value.int .i64 (k32 : Int)) ∧ f948 22 = (Value.int .i64 ((c_Values).length : Int)) ∧ f948 23 = (Value.int .i64 (k55 : Int)) ∧ St wd2 wd949 [] := hq950
                obtain ⟨hf952, hf953, hf954, hf955, hf956, hf957, hf958, hf959, hf960, hf961, hS962⟩ := hq950
                show W _ _ _ _ _ _
                refine W.region ?_
                refine WL.val (Value.int .i64 (w64 ((k55 : Int) + (1 : Int)))) _ (op_add hf961 rfl) rfl ?_
                refine WL.val (Value.int .i64 (w64 ((k55 : Int) + (1 : Int)))) _ (op_move rfl) rfl ?_
                refine WL.nil ?_
                obtain rfl := Option.some.inj hb60
                show ∃ s, _ = Ctl.next s ∧ _
                exact ⟨_, rfl, hf952, hf953, hf954, hf955, hf956, hf957, hf958, hf959, hf960, (ctr_next hl76 hr52), (ctr_rng hl76 hr52), hS962⟩
            · intro s969 f965 wd966 hs967 hI968
              obtain ⟨⟩ := s969
              replace hI968 : f965 1 = (Value.pointer (some ⟨b1, 0, none⟩)) ∧ f965 3 = v_c_Values ∧ f965 4 = (Value.int .i64 (k12 : Int)) ∧ f965 5 = (Value.int .i64 (k32 : Int)) ∧ f965 12 = (Value.int .i64 ((c_Values).length : Int)) ∧ f965 13 = (Value.int .i64 (k12 : Int)) ∧ f965 17 = (Value.int .i64 ((c_Values).length : Int)) ∧ f965 18 = (Value.int .i64 (k32 : Int)) ∧ f965 22 = (Value.int .i64 ((c_Values).length : Int)) ∧ f965 23 = Value.int .i64 (((c_Values).length : Nat) : Int) ∧ InR .i64 (((c_Values).length : Nat) : Int) ∧ St wd2 wd966 [] := hI968
              obtain ⟨hf970, hf971, hf972, hf973, hf974, hf975, hf976, hf977, hf978, hf979, hr980, hS981⟩ := hI968
              refine W.seq (W.region ?_)
              refine WL.val (Value.bool (decide ((((c_Values).length : Nat) : Int) < ((c_Values).length : Int)))) _ (op_lss hf979 hf978) rfl ?_
              have hl982 : ¬ (((c_Values).length : Nat) : Int) < ((c_Values).length : Int) := by omega
              refine WL.nil ?_
              show W _ _ _ _ _ _
              refine W.seq ?_
              refine W.condF (decide ((((c_Values).length : Nat) : Int) < ((c_Values).length : Int))) rfl (decide_eq_false hl982) ?_
              refine W.exit ?_
              show _ = _ ∧ _
              exact ⟨rfl, _, hs967, hf970, hf971, hf972, hf974, hf975, hf976, hf977, hS981⟩
          · rintro f983 wd984 ⟨s986, rfl, hq985⟩
            replace hb37 := onRes_fin hb37
            obtain ⟨⟩ := s986
            replace hq985 : f983 1 = (Value.pointer (some ⟨b1, 0, none⟩)) ∧ f983 3 = v_c_Values ∧ f983 4 = (Value.int .i64 (k12 : Int)) ∧ f983 12 = (Value.int .i64 ((c_Values).length : Int)) ∧ f983 13 = (Value.int .i64 (k12 : Int)) ∧ f983 17 = (Value.int .i64 ((c_Values).length : Int)) ∧ f983 18 = (Value.int .i64 (k32 : Int)) ∧ St wd2 wd984 [] := hq985
            obtain ⟨hf987, hf988, hf989, hf990, hf991, hf992, hf993, hS994⟩ := hq985
            show W _ _ _ _ _ _
            refine W.region ?_
            refine WL.val (Value.int .i64 (w64 ((k32 : Int) + (1 : Int)))) _ (op_add hf993 rfl) rfl ?_
            refine WL.val (Value.int .i64 (w64 ((k32 : Int) + (1 : Int)))) _ (op_move rfl) rfl ?_
            refine WL.nil ?_
            obtain rfl := Option.some.inj hb37
            show ∃ s, _ = Ctl.next s ∧ _
            exact ⟨_, rfl, hf987, hf988, hf989, hf990, hf991, hf992, (ctr_next hl50 hr29), (ctr_rng hl50 hr29), hS994⟩
        · intro s1001 f997 wd998 hs999 hI1000
          obtain ⟨⟩ := s1001
          replace hI1000 : f997 1 = (Value.pointer (some ⟨b1, 0, none⟩)) ∧ f997 3 = v_c_Values ∧ f997 4 = (Value.int .i64 (k12 : Int)) ∧ f997 12 = (Value.int .i64 ((c_Values).length : Int)) ∧ f997 13 = (Value.int .i64 (k12 : Int)) ∧ f997 17 = (Value.int .i64 ((c_Values).length : Int)) ∧ f997 18 = Value.int .i64 (((c_Values).length : Nat) : Int) ∧ InR .i64 (((c_Values).length : Nat) : Int) ∧ St wd2 wd998 [] := hI1000
          obtain ⟨hf1002, hf1003, hf1004, hf1005, hf1006, hf1007, hf1008, hr1009, hS1010⟩ := hI1000
          refine W.seq (W.region ?_)
          refine WL.val (Value.bool (decide ((((c_Values).length : Nat) : Int) < ((c_Values).length : Int)))) _ (op_lss hf1008 hf1007) rfl ?_
          have hl1011 : ¬ (((c_Values).length : Nat) : Int) < ((c_Values).length : Int) := by omega
          refine WL.nil ?_
          show W _ _ _ _ _ _
          refine W.seq ?_
          refine W.condF (decide ((((c_Values).length : Nat) : Int) < ((c_Values).length : Int))) rfl (decide_eq_false hl1011) ?_
          refine W.exit ?_
          show _ = _ ∧ _
          exact ⟨rfl, _, hs999, hf1002, hf1003, hf1005, hf1006, hS1010⟩
      · rintro f1012 wd1013 ⟨s1015, rfl, hq1014⟩
        replace hb17 := onRes_fin hb17
        obtain ⟨⟩ := s1015
        replace hq1014 : f1012 1 = (Value.pointer (some ⟨b1, 0, none⟩)) ∧ f1012 3 = v_c_Values ∧ f1012 12 = (Value.int .i64 ((c_Values).length : Int)) ∧ f1012 13 = (Value.int .i64 (k12 : Int)) ∧ St wd2 wd1013 [] := hq1014
        obtain ⟨hf1016, hf1017, hf1018, hf1019, hS1020⟩ := hq1014
        show W _ _ _ _ _ _
        refine W.region ?_
        refine WL.val (Value.int .i64 (w64 ((k12 : Int) + (1 : Int)))) _ (op_add hf1019 rfl) rfl ?_
        refine WL.val (Value.int .i64 (w64 ((k12 : Int) + (1 : Int)))) _ (op_move rfl) rfl ?_
        refine WL.nil ?_
        obtain rfl := Option.some.inj hb17
        show ∃ s, _ = Ctl.next s ∧ _
        exact ⟨_, rfl, hf1016, hf1017, hf1018, (ctr_next hl27 hr9), (ctr_rng hl27 hr9), hS1020⟩
    · intro s1027 f1023 wd1024 hs1025 hI1026
      obtain ⟨⟩ := s1027
      replace hI1026 : f1023 1 = (Value.pointer (some ⟨b1, 0, none⟩)) ∧ f1023 3 = v_c_Values ∧ f1023 12 = (Value.int .i64 ((c_Values).length : Int)) ∧ f1023 13 = Value.int .i64 (((c_Values).length : Nat) : Int) ∧ InR .i64 (((c_Values).length : Nat) : Int) ∧ St wd2 wd1024 [] := hI1026
      obtain ⟨hf1028, hf1029, hf1030, hf1031, hr1032, hS1033⟩ := hI1026
      refine W.seq (W.region ?_)
      refine WL.val (Value.bool (decide ((((c_Values).length : Nat) : Int) < ((c_Values).length : Int)))) _ (op_lss hf1031 hf1030) rfl ?_
      have hl1034 : ¬ (((c_Values).length : Nat) : Int) < ((c_Values).length : Int) := by omega
      refine WL.nil ?_
      show W _ _ _ _ _ _
      refine W.seq ?_
      refine W.condF (decide ((((c_Values).length : Nat) : Int) < ((c_Values).length : Int))) rfl (decide_eq_false hl1034) ?_
      refine W.exit ?_
      show _ = _ ∧ _
      exact ⟨rfl, _, hs1025, hS1033⟩
  · rintro f1035 wd1036 ⟨s1038, rfl, hq1037⟩
    replace h := onRes_fin h
    obtain ⟨⟩ := s1038
    replace hq1037 : St wd2 wd1036 [] := hq1037
    have hS1039 := hq1037
    show W _ _ _ _ _ _
    refine W.seq (W.region ?_)
    refine WL.val (Value.slice none 0 0) _ (op_assign rfl) rfl ?_
    refine WL.nil ?_
    show W _ _ _ _ _ _
    refine W.ret ?_
    obtain rfl := Option.some.inj h
    show FinP _ _ _ _ _ _ _
    exact FinP.ret _ (res1 rfl rfl) ⟨(Value.slice none 0 0), rfl, (fun _ => ⟨0, 0, rfl⟩), (Ext.trans hE7 hS1039.ext), (St.out (St.pick (St.addNil (Ty.i .i64) hS1039) [0] rfl) (hE7))⟩

theorem c_impl_IsCocycle {w : World} {c_Orders : (List Int)} {v_c_Orders : Value} {c_Modulus : Int} {c_Values : (List (List (List Int)))} {v_c_Values : Value} (r_c_Orders : (Ty.sl (Ty.i .i64)).rep w v_c_Orders c_Orders) (r_c_Modulus : InR .i64 c_Modulus) (r_c_Values : (Ty.sl (Ty.sl (Ty.sl (Ty.i .i64)))).rep w v_c_Values c_Values) {res : Bool} (h : p_impl_IsCocycle c_Orders c_Modulus c_Values  = some res) :
    Ret Try.prog 40 #[(Value.agg #[v_c_Orders, (Value.int .i64 c_Modulus), v_c_Values])] w (fun v w' => v = Value.bool res ∧ Ext w w') := by
  unfold p_impl_IsCocycle at h
  have hS0 : St w w [] := St.start w
  refine Ret.start (fn := Try.f40) Try.func40 rfl 14 rfl rfl ?_
  refine W.seq (W.region ?_)
  refine WL.box hS0 rfl (cs := [v_c_Orders, (Value.int .i64 c_Modulus), v_c_Values]) rfl rfl ?_
  intro b1 wd2 hS3 he4 hx5
  replace hS3 : St w wd2 [bx b1 [v_c_Orders, (Value.int .i64 c_Modulus), v_c_Values]] := hS3
  have hx6 := St.boxAt hS3 0 rfl
  have hE7 : Ext w wd2 := hS3.ext
  have hS8 : St wd2 wd2 [] := St.start wd2
  refine WL.val (Value.bool false) _ (op_assign rfl) rfl ?_
  refine WL.nil ?_
  show W _ _ _ _ _ _
  refine W.seq (W.region ?_)
  refine WL.val (Value.agg #[v_c_Orders, (Value.int .i64 c_Modulus), v_c_Values]) _ (op_loadBox st_30 rfl (BoxAt.lift hS8.ext hx6) rfl rfl) rfl ?_
  obtain ⟨x9, hx10, h⟩ := bs h
  refine WL.call _ (op_call fn_65 (args1 rfl)) (c_impl_isCochain (Ty.lift _ (Ext.trans hE7 hS8.ext) r_c_Orders) r_c_Modulus (Ty.lift _ (Ext.trans hE7 hS8.ext) r_c_Values) hx10) rfl ?_
  rintro _ wd11 ⟨rfl, he12⟩
  have hS14 := St.extend hS8 he12
  replace hS14 : St wd2 wd11 [] := hS14
  refine WL.val (Value.bool x9) _ (op_move rfl) rfl ?_
  obtain ⟨x16, hj17, h⟩ := bs h
  refine WL.cut 3 (fun fq wq => fq 1 = (Value.pointer (some ⟨b1, 0, none⟩)) ∧ fq 8 = Value.bool x16 ∧ St wd2 wq []) ?_ ?_
  · rcases Bool.eq_false_or_eq_true x9 with hc15 | hc15
    · replace hj17 := ip hj17 hc15
      refine WL.grun rfl (bool_of rfl hc15) ?_
      refine WL.val (Value.agg #[v_c_Orders, (Value.int .i64 c_Modulus), v_c_Values]) _ (op_loadBox st_30 rfl (BoxAt.lift hS14.ext hx6) rfl rfl) rfl ?_
      refine WL.grun rfl (bool_of rfl hc15) ?_
      obtain ⟨x21, hx22, hj17⟩ := bs hj17
      refine WL.call _ (op_call fn_66 (args1 rfl)) (c_impl_Cocycle_isNormalised (Ty.lift _ (Ext.trans hE7 hS14.ext) r_c_Orders) r_c_Modulus (Ty.lift _ (Ext.trans hE7 hS14.ext) r_c_Values) hx22) rfl ?_
      rintro _ wd23 ⟨rfl, he24⟩
      have hS26 := St.extend hS14 he24
      replace hS26 : St wd2 wd23 [] := hS26
      refine WL.val (Value.bool x21) _ (op_pick_t (evb_of rfl hc15) rfl) rfl ?_
      refine WL.nil ?_
      obtain rfl := Option.some.inj hj17
      exact ⟨rfl, rfl, rfl, hS26⟩
    · replace hj17 := inegb hj17 hc15
      refine WL.gskip rfl (bool_of rfl hc15) rfl ?_
      refine WL.gskip rfl (bool_of rfl hc15) rfl ?_
      refine WL.val (Value.bool false) _ (op_pick_f (evb_of rfl hc15) rfl) rfl ?_
      refine WL.nil ?_
      obtain rfl := Option.some.inj hj17
      exact ⟨rfl, rfl, rfl, hS14⟩
  · intro f18 wd19 hq20
    obtain ⟨hf27, hf28, hS29⟩ := hq20
    refine WL.val (Value.bool x16) _ (op_move hf28) rfl ?_
    obtain ⟨x31, hj32, h⟩ := bs h
    refine WL.cut 4 (fun fq wq => fq 13 = Value.bool x31 ∧ St wd2 wq []) ?_ ?_
    · rcases Bool.eq_false_or_eq_true x16 with hc30 | hc30
      · replace hj32 := ip hj32 hc30
        refine WL.grun rfl (bool_of rfl hc30) ?_
        refine WL.val (Value.agg #[v_c_Orders, (Value.int .i64 c_Modulus), v_c_Values]) _ (op_loadBox st_30 hf27 (BoxAt.lift hS29.ext hx6) rfl rfl) rfl ?_
        refine WL.grun rfl (bool_of rfl hc30) ?_
        obtain ⟨x36, hx37, hj32⟩ := bs hj32
        refine WL.call _ (op_call fn_67 (args1 rfl)) (c_impl_Cocycle_fault (Ty.lift _ (Ext.trans hE7 hS29.ext) r_c_Orders) r_c_Modulus (Ty.lift _ (Ext.trans hE7 hS29.ext) r_c_Values) hx37) rfl ?_
        rintro u38 wd40 ⟨_, rfl, hn39, he41, hs42⟩
        have hS43 := St.join hS29 he41 hs42
        replace hS43 : St wd2 wd40 [(Ty.sl (Ty.i .i64)).at u38 x36] := hS43
        refine WL.grun rfl (bool_of rfl hc30) ?_
        refine WL.val (Value.bool (x36).isEmpty) _ (op_eqlNilL sl_22 (St.rep (t := (Ty.sl (Ty.i .i64))) hS43 0 rfl) hn39 rfl rfl) rfl ?_
        refine WL.val (Value.bool (x36).isEmpty) _ (op_pick_t (evb_of rfl hc30) rfl) rfl ?_
        refine WL.nil ?_
        obtain rfl := Option.some.inj hj32
        exact ⟨rfl, rfl, (St.pick hS43 [] rfl)⟩
      · replace hj32 := inegb hj32 hc30
        refine WL.gskip rfl (bool_of rfl hc30) rfl ?_
        refine WL.gskip rfl (bool_of rfl hc30) rfl ?_
        refine WL.gskip rfl (bool_of rfl hc30) rfl ?_
        refine WL.val (Value.bool false) _ (op_pick_f (evb_of rfl hc30) rfl) rfl ?_
        refine WL.nil ?_
        obtain rfl := Option.some.inj hj32
        exact ⟨rfl, rfl, hS29⟩
    · intro f33 wd34 hq35
      obtain ⟨hf44, hS45⟩ := hq35
      refine WL.val (Value.bool x31) _ (op_assign hf44) rfl ?_
      refine WL.nil ?_
      show W _ _ _ _ _ _
      refine W.ret ?_
      obtain rfl := Option.some.inj h
      show FinP _ _ _ _ _ _ _
      exact FinP.ret _ (res1 rfl rfl) ⟨rfl, (Ext.trans hE7 hS45.ext)⟩

theorem c_impl_zeros {w : World} {rows : Int} {columns : Int} (r_rows : InR .i64 rows) (r_columns : InR .i64 columns) {res : (List (List Int))} (h : p_impl_zeros rows columns  = some res) :
    Ret Try.prog 42 #[(Value.int .i64 rows), (Value.int .i64 columns)] w (fun v w' => ∃ (u0 : Value), v = u0 ∧ Ext w w' ∧ Sep w.heap.size w' [(Ty.sl (Ty.sl (Ty.i .i64))).at u0 res]) := by
  unfold p_impl_zeros at h
  have hS0 : St w w [] := St.start w
  refine Ret.start (fn := Try.f42) Try.func42 rfl 17 rfl rfl ?_
  refine W.seq (W.region ?_)
  refine WL.val (Value.slice none 0 0) _ (op_assign rfl) rfl ?_
  refine WL.nil ?_
  show W _ _ _ _ _ _
  refine W.seq (W.region ?_)
  refine WL.lit0 (t := (Ty.sl (Ty.i .i64))) hS0 sl_27 rfl rfl ?_
  intro u1 wd2 hS3 he4
  replace hS3 : St w wd2 [(Ty.sl (Ty.sl (Ty.i .i64))).at u1 ([] : (List (List Int)))] := hS3
  refine WL.val u1 _ (op_assign rfl) rfl ?_
  refine WL.nil ?_
  show W _ _ _ _ _ _
  refine W.seq (W.seq (W.region ?_))
  refine WL.val (Value.int .i64 rows) _ (op_move rfl) rfl ?_
  refine WL.val (Value.int .i64 (0 : Int)) _ (op_move rfl) rfl ?_
  refine WL.nil ?_
  show W _ _ _ _ _ _
  obtain ⟨res5, hres6, h⟩ := bs h
  refine W.blockLoop (fun fq wq => ∃ s, res5 = Res.fin s ∧ ∃ (uu0 : Value), fq 5 = uu0 ∧ St w wq [(Ty.sl (Ty.sl (Ty.i .i64))).at uu0 s]) ?_ ?_
  · refine W.forN (fun k (s : (List (List Int))) fq wq => ∃ (uu0 : Value), fq 1 = (Value.int .i64 columns) ∧ fq 5 = uu0 ∧ fq 7 = (Value.int .i64 rows) ∧ fq 8 = Value.int .i64 (k : Int) ∧ InR .i64 (k : Int) ∧ St w wq [(Ty.sl (Ty.sl (Ty.i .i64))).at uu0 s]) hres6 ⟨u1, rfl, rfl, rfl, rfl, (inR_i64.2 (show (-9223372036854775808 : Int) ≤ 0 ∧ (0 : Int) ≤ 9223372036854775807 from by decide)), hS3⟩ ?_ ?_
    · intro k7 x8 ct9 f10 wd11 hk12 hb13 hI14 hbrk15 hret16
      replace hI14 : ∃ (uu0 : Value), f10 1 = (Value.int .i64 columns) ∧ f10 5 = uu0 ∧ f10 7 = (Value.int .i64 rows) ∧ f10 8 = Value.int .i64 (k7 : Int) ∧ InR .i64 (k7 : Int) ∧ St w wd11 [(Ty.sl (Ty.sl (Ty.i .i64))).at uu0 x8] := hI14
      replace hb13 : p_impl_zeros_L1 columns k7 x8 = some ct9 := hb13
      unfold p_impl_zeros_L1 at hb13
      obtain ⟨u17, hf18, hf19, hf20, hf21, hr22, hS23⟩ := hI14
      refine W.seq (W.region ?_)
      refine WL.val (Value.bool (decide ((k7 : Int) < rows))) _ (op_lss hf21 hf20) rfl ?_
      have hl24 : (k7 : Int) < rows := by omega
      refine WL.nil ?_
      show W _ _ _ _ _ _
      refine W.seq ?_
      refine W.condT (decide ((k7 : Int) < rows)) rfl (decide_eq_true hl24) ?_
      refine W.skip ?_
      show W _ _ _ _ _ _
      refine W.seq ?_
      refine W.block ?_
      refine W.region ?_
      refine WL.val u17 _ (op_move hf19) rfl ?_
      refine WL.val (Value.int .i64 columns) _ (op_move hf18) rfl ?_
      obtain ⟨x26, hx27, hb13⟩ := bs hb13
      refine WL.make (t := (Ty.i .i64)) hS23 sl_22 (fun _ _ => ⟨rfl, (inR_i64.2 (show (-9223372036854775808 : Int) ≤ 0 ∧ (0 : Int) ≤ 9223372036854775807 from by decide))⟩) rfl rfl hx27 rfl rfl ?_
      intro u28 wd29 hS30 he31
      replace hS30 : St w wd29 [(Ty.sl (Ty.sl (Ty.i .i64))).at u17 x8, (Ty.sl (Ty.i .i64)).at u28 x26] := hS30
      refine WL.lit [u28] hS30 sl_27 rfl rfl (fillL rfl ⟨rfl, rfl, (cells_rep (St.rep (t := (Ty.sl (Ty.i .i64))) hS30 1 rfl)), trivial⟩) rfl rfl ?_
      intro b36 wd33 hS34 he35 hx37
      replace hS34 : St w wd33 [(Ty.sl (Ty.sl (Ty.i .i64))).at u17 x8, (Ty.sl (Ty.i .i64)).at u28 x26, bx b36 [u28]] := hS34
      obtain ⟨x38, hx39, hb13⟩ := bs hb13
      refine WL.appendRow hS34 (k := 0) (k2 := 1) (k3 := 2) rfl rfl rfl rfl sl_27 rfl rfl rfl rfl hx39 rfl ?_
      intro u40 wd41 hS42 hz43
      replace hS42 : St w wd41 [(Ty.sl (Ty.sl (Ty.i .i64))).at u40 x38, emp, bx b36 [u28]] := hS42
      refine WL.val u40 _ (op_assign rfl) rfl ?_
      refine WL.nil ?_
      show W _ _ _ _ _ _
      refine W.region ?_
      refine WL.val (Value.int .i64 (w64 ((k7 : Int) + (1 : Int)))) _ (op_add hf21 rfl) rfl ?_
      refine WL.val (Value.int .i64 (w64 ((k7 : Int) + (1 : Int)))) _ (op_move rfl) rfl ?_
      refine WL.nil ?_
      obtain rfl := Option.some.inj hb13
      show ∃ s, _ = Ctl.next s ∧ _
      exact ⟨_, rfl, u40, hf18, rfl, hf20, (ctr_next hl24 r_rows), (ctr_rng hl24 r_rows), (St.pick hS42 [0] rfl)⟩
    · intro x50 f45 wd46 hs47 hI48
      replace hI48 : ∃ (uu0 : Value), f45 1 = (Value.int .i64 columns) ∧ f45 5 = uu0 ∧ f45 7 = (Value.int .i64 rows) ∧ f45 8 = Value.int .i64 (((rows).toNat : Nat) : Int) ∧ InR .i64 (((rows).toNat : Nat) : Int) ∧ St w wd46 [(Ty.sl (Ty.sl (Ty.i .i64))).at uu0 x50] := hI48
      obtain ⟨u51, hf52, hf53, hf54, hf55, hr56, hS57⟩ := hI48
      refine W.seq (W.region ?_)
      refine WL.val (Value.bool (decide ((((rows).toNat : Nat) : Int) < rows))) _ (op_lss hf55 hf54) rfl ?_
      have hl58 : ¬ (((rows).toNat : Nat) : Int) < rows := by omega
      refine WL.nil ?_
      show W _ _ _ _ _ _
      refine W.seq ?_
      refine W.condF (decide ((((rows).toNat : Nat) : Int) < rows)) rfl (decide_eq_false hl58) ?_
      refine W.exit ?_
      show _ = _ ∧ _
      exact ⟨rfl, _, hs47, u51, hf53, hS57⟩
  · rintro f59 wd60 ⟨x63, rfl, hq61⟩
    replace h := onRes_fin h
    replace hq61 : ∃ (uu0 : Value), f59 5 = uu0 ∧ St w wd60 [(Ty.sl (Ty.sl (Ty.i .i64))).at uu0 x63] := hq61
    obtain ⟨u64, hf65, hS66⟩ := hq61
    show W _ _ _ _ _ _
    refine W.seq (W.region ?_)
    refine WL.val u64 _ (op_move hf65) rfl ?_
    refine WL.val u64 _ (op_assign rfl) rfl ?_
    refine WL.nil ?_
    show W _ _ _ _ _ _
    refine W.ret ?_
    obtain rfl := Option.some.inj h
    show FinP _ _ _ _ _ _ _
    exact FinP.ret _ (res1 rfl rfl) ⟨u64, rfl, hS66.ext, (St.out (St.pick hS66 [0] rfl) (Ext.refl _))⟩

theorem c_laws_eqInt64S {w : World} {a : (List Int)} {v_a : Value} {b : (List Int)} {v_b : Value} (r_a : (Ty.sl (Ty.i .i64)).rep w v_a a) (r_b : (Ty.sl (Ty.i .i64)).rep w v_b b) {res : Bool} (h : p_laws_eqInt64S a b  = some res) :
    Ret Try.prog 27 #[v_a, v_b] w (fun v w' => v = Value.bool res ∧ Ext w w') := by
  unfold p_laws_eqInt64S at h
  have hS0 : St w w [] := St.start w
  refine Ret.start (fn := Try.f27) Try.func27 rfl 26 rfl rfl ?_
  refine W.seq (W.region ?_)
  refine WL.val (Value.bool false) _ (op_assign rfl) rfl ?_
  refine WL.nil ?_
  show W _ _ _ _ _ _
  refine W.seq (W.seq (W.region ?_))
  refine WL.val v_a _ (op_move rfl) rfl ?_
  have hr1 := inR_len (Ty.lift _ hS0.ext r_a)
  refine WL.val (Value.int .i64 ((a).length : Int)) _ (op_lenL sl_22 (Ty.lift _ hS0.ext r_a) rfl) rfl ?_
  refine WL.val v_b _ (op_move rfl) rfl ?_
  have hr2 := inR_len (Ty.lift _ hS0.ext r_b)
  refine WL.val (Value.int .i64 ((b).length : Int)) _ (op_lenL sl_22 (Ty.lift _ hS0.ext r_b) rfl) rfl ?_
  refine WL.val (Value.bool (((a).length : Int) != ((b).length : Int))) _ (op_neq rfl rfl) rfl ?_
  refine WL.nil ?_
  show W _ _ _ _ _ _
  refine W.cond (((a).length : Int) != ((b).length : Int)) rfl (fun hc3 => ?_) (fun hc3 => ?_)
  · replace h := ip h hc3
    refine W.seq (W.region ?_)
    refine WL.val (Value.bool false) _ (op_assign rfl) rfl ?_
    refine WL.nil ?_
    show W _ _ _ _ _ _
    refine W.ret ?_
    obtain rfl := Option.some.inj h
    show FinP _ _ _ _ _ _ _
    exact FinP.ret _ (res1 rfl rfl) ⟨rfl, hS0.ext⟩
  · replace h := inegb h hc3
    refine W.skip ?_
    show W _ _ _ _ _ _
    refine W.seq (W.seq (W.region ?_))
    refine WL.val (Value.int .i64 (0 : Int)) _ (op_assign rfl) rfl ?_
    refine WL.nil ?_
    show W _ _ _ _ _ _
    obtain ⟨res5, hres6, h⟩ := bs h
    refine W.blockLoop (fun fq wq => ∃ s, res5 = Res.fin s ∧ St w wq []) ?_ ?_
    · refine W.forN (fun k (s : Unit) fq wq => fq 0 = v_a ∧ fq 1 = v_b ∧ fq 5 = Value.int .i64 (k : Int) ∧ InR .i64 (k : Int) ∧ St w wq []) hres6 ⟨rfl, rfl, rfl, (inR_i64.2 (show (-9223372036854775808 : Int) ≤ 0 ∧ (0 : Int) ≤ 9223372036854775807 from by decide)), hS0⟩ ?_ ?_
      · intro k7 s134 ct8 f9 wd10 hk11 hb12 hI13 hbrk14 hret15
        obtain ⟨⟩ := s134
        replace hI13 : f9 0 = v_a ∧ f9 1 = v_b ∧ f9 5 = Value.int .i64 (k7 : Int) ∧ InR .i64 (k7 : Int) ∧ St w wd10 [] := hI13
        replace hb12 : p_laws_eqInt64S_L1 a b k7  = some ct8 := hb12
        unfold p_laws_eqInt64S_L1 at hb12
        obtain ⟨hf16, hf17, hf18, hr19, hS20⟩ := hI13
        refine W.seq (W.seq (W.region ?_))
        refine WL.val (Value.int .i64 (k7 : Int)) _ (op_move hf18) rfl ?_
        refine WL.val v_a _ (op_move hf16) rfl ?_
        have hr21 := inR_len (Ty.lift _ hS20.ext r_a)
        refine WL.val (Value.int .i64 ((a).length : Int)) _ (op_lenL sl_22 (Ty.lift _ hS20.ext r_a) rfl) rfl ?_
        refine WL.val (Value.bool (decide ((k7 : Int) < ((a).length : Int)))) _ (op_lss rfl rfl) rfl ?_
        have hl22 : (k7 : Int) < ((a).length : Int) := by omega
        refine WL.nil ?_
        show W _ _ _ _ _ _
        refine W.condT (decide ((k7 : Int) < ((a).length : Int))) rfl (decide_eq_true hl22) ?_
        refine W.skip ?_
        show W _ _ _ _ _ _
        refine W.seq ?_
        refine W.block ?_
        refine W.seq ?_
        obtain ⟨x53, hx56, hb12⟩ := bs hb12
        obtain ⟨ha54, hb55, hx56⟩ := idx_some hx56
        obtain ⟨u67, hc68, hr69⟩ := repSl.el r_a hx56
        obtain ⟨rfl, hr69⟩ := hr69
        obtain ⟨x99, hx102, hb12⟩ := bs hb12
        obtain ⟨ha100, hb101, hx102⟩ := idx_some hx102
        obtain ⟨u113, hc114, hr115⟩ := repSl.el r_b hx102
        obtain ⟨rfl, hr115⟩ := hr115
        refine W.drawR mixo 8 [] [fun _ v _ _ => v = v_a, fun _ v _ _ => v = (Value.int .i64 (k7 : Int)) ∧ InR .i64 (k7 : Int), fun _ v _ _ => v = (Value.pointer (some (elA v_a ((k7 : Int)).toNat))), fun _ v _ _ => v = (Value.int .i64 x53) ∧ InR .i64 x53, fun _ v _ _ => v = v_b, fun _ v _ _ => v = (Value.int .i64 (k7 : Int)) ∧ InR .i64 (k7 : Int), fun _ v _ _ => v = (Value.pointer (some (elA v_b ((k7 : Int)).toNat))), fun _ v _ _ => v = (Value.int .i64 x99) ∧ InR .i64 x99] (by kernel_rfl) (by kernel_rfl) ⟨⟨fun _ _ _ _ _ _ h => h, fun _ _ _ _ _ _ h => h⟩, ⟨fun _ _ _ _ _ _ h => h, fun _ _ _ _ _ _ h => h⟩, ⟨fun _ _ _ _ _ _ h => h, fun _ _ _ _ _ _ h => h⟩, ⟨fun _ _ _ _ _ _ h => h, fun _ _ _ _ _ _ h => h⟩, ⟨fun _ _ _ _ _ _ h => h, fun _ _ _ _ _ _ h => h⟩, ⟨fun _ _ _ _ _ _ h => h, fun _ _ _ _ _ _ h => h⟩, ⟨fun _ _ _ _ _ _ h => h, fun _ _ _ _ _ _ h => h⟩, ⟨fun _ _ _ _ _ _ h => h, fun _ _ _ _ _ _ h => h⟩, trivial⟩ ⟨?_, ?_, ?_, ?_, ?_, ?_, ?_, ?_, trivial⟩ ?_
        · refine ObX.op rfl ?_
          intro f24 wd25 he26 hout27 hphi28
          have hS29 : St w wd25 [] := St.extend hS20 he26
          have e30 : f24 0 = v_a := (hout27 0 rfl).trans hf16
          exact OpX.val v_a wd25 rfl (op_move e30) (Ext.refl _) rfl
        · refine ObX.op rfl ?_
          intro f31 wd32 he33 hout34 hphi35
          have hS36 : St w wd32 [] := St.extend hS20 he33
          have e37 : f31 5 = (Value.int .i64 (k7 : Int)) := (hout34 5 rfl).trans hf18
          exact OpX.val (Value.int .i64 (k7 : Int)) wd32 rfl (op_move e37) (Ext.refl _) ⟨rfl, hr19⟩
        · refine ObX.op rfl ?_
          intro f38 wd39 he40 hout41 hphi42
          have hS43 : St w wd39 [] := St.extend hS20 he40
          obtain ⟨S44, hS45, hf46⟩ := hphi42 0 17 _ rfl rfl rfl
          have e47 : f38 17 = v_a := hf46
          obtain ⟨S48, hS49, hf50⟩ := hphi42 1 18 _ rfl rfl rfl
          obtain ⟨e51, hr52⟩ : f38 18 = (Value.int .i64 (k7 : Int)) ∧ InR .i64 (k7 : Int) := hf50
          exact OpX.val (Value.pointer (some (elA v_a ((k7 : Int)).toNat))) wd39 rfl (op_idx sl_22 (Ty.lift _ hS43.ext r_a) e47 e51 ha54 hb55) (Ext.refl _) rfl
        · refine ObX.op rfl ?_
          intro f57 wd58 he59 hout60 hphi61
          have hS62 : St w wd58 [] := St.extend hS20 he59
          obtain ⟨S63, hS64, hf65⟩ := hphi61 2 19 _ rfl rfl rfl
          have e66 : f57 19 = (Value.pointer (some (elA v_a ((k7 : Int)).toNat))) := hf65
          exact OpX.val (Value.int .i64 x53) wd58 rfl (op_load one_2 e66 (Ext.cell hS62.ext hc68)) (Ext.refl _) ⟨rfl, hr69⟩
        · refine ObX.op rfl ?_
          intro f70 wd71 he72 hout73 hphi74
          have hS75 : St w wd71 [] := St.extend hS20 he72
          have e76 : f70 1 = v_b := (hout73 1 rfl).trans hf17
          exact OpX.val v_b wd71 rfl (op_move e76) (Ext.refl _) rfl
        · refine ObX.op rfl ?_
          intro f77 wd78 he79 hout80 hphi81
          have hS82 : St w wd78 [] := St.extend hS20 he79
          have e83 : f77 5 = (Value.int .i64 (k7 : Int)) := (hout80 5 rfl).trans hf18
          exact OpX.val (Value.int .i64 (k7 : Int)) wd78 rfl (op_move e83) (Ext.refl _) ⟨rfl, hr19⟩
        · refine ObX.op rfl ?_
          intro f84 wd85 he86 hout87 hphi88
          have hS89 : St w wd85 [] := St.extend hS20 he86
          obtain ⟨S90, hS91, hf92⟩ := hphi88 4 21 _ rfl rfl rfl
          have e93 : f84 21 = v_b := hf92
          obtain ⟨S94, hS95, hf96⟩ := hphi88 5 22 _ rfl rfl rfl
          obtain ⟨e97, hr98⟩ : f84 22 = (Value.int .i64 (k7 : Int)) ∧ InR .i64 (k7 : Int) := hf96
          exact OpX.val (Value.pointer (some (elA v_b ((k7 : Int)).toNat))) wd85 rfl (op_idx sl_22 (Ty.lift _ hS89.ext r_b) e93 e97 ha100 hb101) (Ext.refl _) rfl
        · refine ObX.op rfl ?_
          intro f103 wd104 he105 hout106 hphi107
          have hS108 : St w wd104 [] := St.extend hS20 he105
          obtain ⟨S109, hS110, hf111⟩ := hphi107 6 23 _ rfl rfl rfl
          have e112 : f103 23 = (Value.pointer (some (elA v_b ((k7 : Int)).toNat))) := hf111
          exact OpX.val (Value.int .i64 x99) wd104 rfl (op_load one_2 e112 (Ext.cell hS108.ext hc114)) (Ext.refl _) ⟨rfl, hr115⟩
        · intro f116 wd117 Ss118 he119 hout120 hSn121 hSd122 hphi123
          show WL _ _ _ _ _ _ _
          have hS124 : St w wd117 [] := St.extend hS20 he119
          obtain ⟨e125, hr126⟩ : f116 20 = (Value.int .i64 x53) ∧ InR .i64 x53 := hphi123 3 20 _ (by decide) rfl rfl
          obtain ⟨e127, hr128⟩ : f116 24 = (Value.int .i64 x99) ∧ InR .i64 x99 := hphi123 7 24 _ (by decide) rfl rfl
          have e129 : f116 0 = v_a := (hout120 0 rfl).trans hf16
          have e130 : f116 1 = v_b := (hout120 1 rfl).trans hf17
          have e131 : f116 5 = (Value.int .i64 (k7 : Int)) := (hout120 5 rfl).trans hf18
          refine WL.val (Value.bool (x53 != x99)) _ (op_neq e125 e127) rfl ?_
          refine WL.nil ?_
          show W _ _ _ _ _ _
          refine W.cond (x53 != x99) rfl (fun hc132 => ?_) (fun hc132 => ?_)
          · replace hb12 := ip hb12 hc132
            refine W.seq (W.region ?_)
            refine WL.val (Value.bool false) _ (op_assign rfl) rfl ?_
            refine WL.nil ?_
            show W _ _ _ _ _ _
            refine W.ret ?_
            obtain rfl := Option.some.inj hb12
            obtain rfl := hret15 _ rfl
            replace h := onRes_ret h
            obtain rfl := Option.some.inj h
            show FinP _ _ _ _ _ _ _
            exact FinP.ret _ (res1 rfl rfl) ⟨rfl, hS124.ext⟩
          · replace hb12 := inegb hb12 hc132
            refine W.skip ?_
            show W _ _ _ _ _ _
            refine W.region ?_
            refine WL.val (Value.int .i64 (k7 : Int)) _ (op_move e131) rfl ?_
            refine WL.val (Value.int .i64 (w64 ((k7 : Int) + (1 : Int)))) _ (op_add rfl rfl) rfl ?_
            refine WL.val (Value.int .i64 (w64 ((k7 : Int) + (1 : Int)))) _ (op_assign rfl) rfl ?_
            refine WL.nil ?_
            obtain rfl := Option.some.inj hb12
            show ∃ s, _ = Ctl.next s ∧ _
            exact ⟨_, rfl, e129, e130, (ctr_next hl22 hr21), (ctr_rng hl22 hr21), hS124⟩
      · intro s139 f135 wd136 hs137 hI138
        obtain ⟨⟩ := s139
        replace hI138 : f135 0 = v_a ∧ f135 1 = v_b ∧ f135 5 = Value.int .i64 (((a).length : Nat) : Int) ∧ InR .i64 (((a).length : Nat) : Int) ∧ St w wd136 [] := hI138
        obtain ⟨hf140, hf141, hf142, hr143, hS144⟩ := hI138
        refine W.seq (W.seq (W.region ?_))
        refine WL.val (Value.int .i64 (((a).length : Nat) : Int)) _ (op_move hf142) rfl ?_
        refine WL.val v_a _ (op_move hf140) rfl ?_
        have hr145 := inR_len (Ty.lift _ hS144.ext r_a)
        refine WL.val (Value.int .i64 ((a).length : Int)) _ (op_lenL sl_22 (Ty.lift _ hS144.ext r_a) rfl) rfl ?_
        refine WL.val (Value.bool (decide ((((a).length : Nat) : Int) < ((a).length : Int)))) _ (op_lss rfl rfl) rfl ?_
        have hl146 : ¬ (((a).length : Nat) : Int) < ((a).length : Int) := by omega
        refine WL.nil ?_
        show W _ _ _ _ _ _
        refine W.condF (decide ((((a).length : Nat) : Int) < ((a).length : Int))) rfl (decide_eq_false hl146) ?_
        refine W.exit ?_
        show _ = _ ∧ _
        exact ⟨rfl, _, hs137, hS144⟩
    · rintro f147 wd148 ⟨s150, rfl, hq149⟩
      replace h := onRes_fin h
      obtain ⟨⟩ := s150
      replace hq149 : St w wd148 [] := hq149
      have hS151 := hq149
      show W _ _ _ _ _ _
      refine W.seq (W.region ?_)
      refine WL.val (Value.bool true) _ (op_assign rfl) rfl ?_
      refine WL.nil ?_
      show W _ _ _ _ _ _
      refine W.ret ?_
      obtain rfl := Option.some.inj h
      show FinP _ _ _ _ _ _ _
      exact FinP.ret _ (res1 rfl rfl) ⟨rfl, hS151.ext⟩

theorem c_laws_eqInt64SS {w : World} {a : (List (List Int))} {v_a : Value} {b : (List (List Int))} {v_b : Value} (r_a : (Ty.sl (Ty.sl (Ty.i .i64))).rep w v_a a) (r_b : (Ty.sl (Ty.sl (Ty.i .i64))).rep w v_b b) {res : Bool} (h : p_laws_eqInt64SS a b  = some res) :
    Ret Try.prog 12 #[v_a, v_b] w (fun v w' => v = Value.bool res ∧ Ext w w') := by
  unfold p_laws_eqInt64SS at h
  have hS0 : St w w [] := St.start w
  refine Ret.start (fn := Try.f12) Try.func12 rfl 27 rfl rfl ?_
  refine W.seq (W.region ?_)
  refine WL.val (Value.bool false) _ (op_assign rfl) rfl ?_
  refine WL.nil ?_
  show W _ _ _ _ _ _
  refine W.seq (W.seq (W.region ?_))
  refine WL.val v_a _ (op_move rfl) rfl ?_
  have hr1 := inR_len (Ty.lift _ hS0.ext r_a)
  refine WL.val (Value.int .i64 ((a).length : Int)) _ (op_lenL sl_27 (Ty.lift _ hS0.ext r_a) rfl) rfl ?_
  refine WL.val v_b _ (op_move rfl) rfl ?_
  have hr2 := inR_len (Ty.lift _ hS0.ext r_b)
  refine WL.val (Value.int .i64 ((b).length : Int)) _ (op_lenL sl_27 (Ty.lift _ hS0.ext r_b) rfl) rfl ?_
  refine WL.val (Value.bool (((a).length : Int) != ((b).length : Int))) _ (op_neq rfl rfl) rfl ?_
  refine WL.nil ?_
  show W _ _ _ _ _ _
  refine W.cond (((a).length : Int) != ((b).length : Int)) rfl (fun hc3 => ?_) (fun hc3 => ?_)
  · replace h := ip h hc3
    refine W.seq (W.region ?_)
    refine WL.val (Value.bool false) _ (op_assign rfl) rfl ?_
    refine WL.nil ?_
    show W _ _ _ _ _ _
    refine W.ret ?_
    obtain rfl := Option.some.inj h
    show FinP _ _ _ _ _ _ _
    exact FinP.ret _ (res1 rfl rfl) ⟨rfl, hS0.ext⟩
  · replace h := inegb h hc3
    refine W.skip ?_
    show W _ _ _ _ _ _
    refine W.seq (W.seq (W.region ?_))
    refine WL.val (Value.int .i64 (0 : Int)) _ (op_assign rfl) rfl ?_
    refine WL.nil ?_
    show W _ _ _ _ _ _
    obtain ⟨res5, hres6, h⟩ := bs h
    refine W.blockLoop (fun fq wq => ∃ s, res5 = Res.fin s ∧ St w wq []) ?_ ?_
    · refine W.forN (fun k (s : Unit) fq wq => fq 0 = v_a ∧ fq 1 = v_b ∧ fq 5 = Value.int .i64 (k : Int) ∧ InR .i64 (k : Int) ∧ St w wq []) hres6 ⟨rfl, rfl, rfl, (inR_i64.2 (show (-9223372036854775808 : Int) ≤ 0 ∧ (0 : Int) ≤ 9223372036854775807 from by decide)), hS0⟩ ?_ ?_
      · intro k7 s138 ct8 f9 wd10 hk11 hb12 hI13 hbrk14 hret15
        obtain ⟨⟩ := s138
        replace hI13 : f9 0 = v_a ∧ f9 1 = v_b ∧ f9 5 = Value.int .i64 (k7 : Int) ∧ InR .i64 (k7 : Int) ∧ St w wd10 [] := hI13
        replace hb12 : p_laws_eqInt64SS_L1 a b k7  = some ct8 := hb12
        unfold p_laws_eqInt64SS_L1 at hb12
        obtain ⟨hf16, hf17, hf18, hr19, hS20⟩ := hI13
        refine W.seq (W.seq (W.region ?_))
        refine WL.val (Value.int .i64 (k7 : Int)) _ (op_move hf18) rfl ?_
        refine WL.val v_a _ (op_move hf16) rfl ?_
        have hr21 := inR_len (Ty.lift _ hS20.ext r_a)
        refine WL.val (Value.int .i64 ((a).length : Int)) _ (op_lenL sl_27 (Ty.lift _ hS20.ext r_a) rfl) rfl ?_
        refine WL.val (Value.bool (decide ((k7 : Int) < ((a).length : Int)))) _ (op_lss rfl rfl) rfl ?_
        have hl22 : (k7 : Int) < ((a).length : Int) := by omega
        refine WL.nil ?_
        show W _ _ _ _ _ _
        refine W.condT (decide ((k7 : Int) < ((a).length : Int))) rfl (decide_eq_true hl22) ?_
        refine W.skip ?_
        show W _ _ _ _ _ _
        refine W.seq ?_
        refine W.block ?_
        refine W.seq ?_
        obtain ⟨x53, hx56, hb12⟩ := bs hb12
        obtain ⟨ha54, hb55, hx56⟩ := idx_some hx56
        obtain ⟨u67, hc68, hr69⟩ := repSl.el r_a hx56
        obtain ⟨x99, hx102, hb12⟩ := bs hb12
        obtain ⟨ha100, hb101, hx102⟩ := idx_some hx102
        obtain ⟨u113, hc114, hr115⟩ := repSl.el r_b hx102
        refine W.drawR mixo 8 [] [fun _ v _ _ => v = v_a, fun _ v _ _ => v = (Value.int .i64 (k7 : Int)) ∧ InR .i64 (k7 : Int), fun _ v _ _ => v = (Value.pointer (some (elA v_a ((k7 : Int)).toNat))), fun _ v _ _ => v = u67, fun _ v _ _ => v = v_b, fun _ v _ _ => v = (Value.int .i64 (k7 : Int)) ∧ InR .i64 (k7 : Int), fun _ v _ _ => v = (Value.pointer (some (elA v_b ((k7 : Int)).toNat))), fun _ v _ _ => v = u113] (by kernel_rfl) (by kernel_rfl) ⟨⟨fun _ _ _ _ _ _ h => h, fun _ _ _ _ _ _ h => h⟩, ⟨fun _ _ _ _ _ _ h => h, fun _ _ _ _ _ _ h => h⟩, ⟨fun _ _ _ _ _ _ h => h, fun _ _ _ _ _ _ h => h⟩, ⟨fun _ _ _ _ _ _ h => h, fun _ _ _ _ _ _ h => h⟩, ⟨fun _ _ _ _ _ _ h => h, fun _ _ _ _ _ _ h => h⟩, ⟨fun _ _ _ _ _ _ h => h, fun _ _ _ _ _ _ h => h⟩, ⟨fun _ _ _ _ _ _ h => h, fun _ _ _ _ _ _ h => h⟩, ⟨fun _ _ _ _ _ _ h => h, fun _ _ _ _ _ _ h => h⟩, trivial⟩ ⟨?_, ?_, ?_, ?_, ?_, ?_, ?_, ?_, trivial⟩ ?_
        · refine ObX.op rfl ?_
          intro f24 wd25 he26 hout27 hphi28
          have hS29 : St w wd25 [] := St.extend hS20 he26
          have e30 : f24 0 = v_a := (hout27 0 rfl).trans hf16
          exact OpX.val v_a wd25 rfl (op_move e30) (Ext.refl _) rfl
        · refine ObX.op rfl ?_
          intro f31 wd32 he33 hout34 hphi35
          have hS36 : St w wd32 [] := St.extend hS20 he33
          have e37 : f31 5 = (Value.int .i64 (k7 : Int)) := (hout34 5 rfl).trans hf18
          exact OpX.val (Value.int .i64 (k7 : Int)) wd32 rfl (op_move e37) (Ext.refl _) ⟨rfl, hr19⟩
        · refine ObX.op rfl ?_
          intro f38 wd39 he40 hout41 hphi42
          have hS43 : St w wd39 [] := St.extend hS20 he40
          obtain ⟨S44, hS45, hf46⟩ := hphi42 0 17 _ rfl rfl rfl
          have e47 : f38 17 = v_a := hf46
          obtain ⟨S48, hS49, hf50⟩ := hphi42 1 18 _ rfl rfl rfl
          obtain ⟨e51, hr52⟩ : f38 18 = (Value.int .i64 (k7 : Int)) ∧ InR .i64 (k7 : Int) := hf50
          exact OpX.val (Value.pointer (some (elA v_a ((k7 : Int)).toNat))) wd39 rfl (op_idx sl_27 (Ty.lift _ hS43.ext r_a) e47 e51 ha54 hb55) (Ext.refl _) rfl
        · refine ObX.op rfl ?_
          intro f57 wd58 he59 hout60 hphi61
          have hS62 : St w wd58 [] := St.extend hS20 he59
          obtain ⟨S63, hS64, hf65⟩ := hphi61 2 19 _ rfl rfl rfl
          have e66 : f57 19 = (Value.pointer (some (elA v_a ((k7 : Int)).toNat))) := hf65
          exact OpX.val u67 wd58 rfl (op_load one_22 e66 (Ext.cell hS62.ext hc68)) (Ext.refl _) rfl
        · refine ObX.op rfl ?_
          intro f70 wd71 he72 hout73 hphi74
          have hS75 : St w wd71 [] := St.extend hS20 he72
          have e76 : f70 1 = v_b := (hout73 1 rfl).trans hf17
          exact OpX.val v_b wd71 rfl (op_move e76) (Ext.refl _) rfl
        · refine ObX.op rfl ?_
          intro f77 wd78 he79 hout80 hphi81
          have hS82 : St w wd78 [] := St.extend hS20 he79
          have e83 : f77 5 = (Value.int .i64 (k7 : Int)) := (hout80 5 rfl).trans hf18
          exact OpX.val (Value.int .i64 (k7 : Int)) wd78 rfl (op_move e83) (Ext.refl _) ⟨rfl, hr19⟩
        · refine ObX.op rfl ?_
          intro f84 wd85 he86 hout87 hphi88
          have hS89 : St w wd85 [] := St.extend hS20 he86
          obtain ⟨S90, hS91, hf92⟩ := hphi88 4 21 _ rfl rfl rfl
          have e93 : f84 21 = v_b := hf92
          obtain ⟨S94, hS95, hf96⟩ := hphi88 5 22 _ rfl rfl rfl
          obtain ⟨e97, hr98⟩ : f84 22 = (Value.int .i64 (k7 : Int)) ∧ InR .i64 (k7 : Int) := hf96
          exact OpX.val (Value.pointer (some (elA v_b ((k7 : Int)).toNat))) wd85 rfl (op_idx sl_27 (Ty.lift _ hS89.ext r_b) e93 e97 ha100 hb101) (Ext.refl _) rfl
        · refine ObX.op rfl ?_
          intro f103 wd104 he105 hout106 hphi107
          have hS108 : St w wd104 [] := St.extend hS20 he105
          obtain ⟨S109, hS110, hf111⟩ := hphi107 6 23 _ rfl rfl rfl
          have e112 : f103 23 = (Value.pointer (some (elA v_b ((k7 : Int)).toNat))) := hf111
          exact OpX.val u113 wd104 rfl (op_load one_22 e112 (Ext.cell hS108.ext hc114)) (Ext.refl _) rfl
        · intro f116 wd117 Ss118 he119 hout120 hSn121 hSd122 hphi123
          show WL _ _ _ _ _ _ _
          have hS124 : St w wd117 [] := St.extend hS20 he119
          have e125 : f116 20 = u67 := hphi123 3 20 _ (by decide) rfl rfl
          have e126 : f116 24 = u113 := hphi123 7 24 _ (by decide) rfl rfl
          have e127 : f116 0 = v_a := (hout120 0 rfl).trans hf16
          have e128 : f116 1 = v_b := (hout120 1 rfl).trans hf17
          have e129 : f116 5 = (Value.int .i64 (k7 : Int)) := (hout120 5 rfl).trans hf18
          obtain ⟨x130, hx131, hb12⟩ := bs hb12
          refine WL.call _ (op_call fn_27 (args2 e125 e126)) (c_laws_eqInt64S (Ty.lift _ hS124.ext hr69) (Ty.lift _ hS124.ext hr115) hx131) rfl ?_
          rintro _ wd132 ⟨rfl, he133⟩
          have hS135 := St.extend hS124 he133
          replace hS135 : St w wd132 [] := hS135
          refine WL.val (Value.bool (!x130)) _ (op_not rfl) rfl ?_
          refine WL.nil ?_
          show W _ _ _ _ _ _
          refine W.cond (!x130) rfl (fun hc136 => ?_) (fun hc136 => ?_)
          · replace hb12 := ip hb12 hc136
            refine W.seq (W.region ?_)
            refine WL.val (Value.bool false) _ (op_assign rfl) rfl ?_
            refine WL.nil ?_
            show W _ _ _ _ _ _
            refine W.ret ?_
            obtain rfl := Option.some.inj hb12
            obtain rfl := hret15 _ rfl
            replace h := onRes_ret h
            obtain rfl := Option.some.inj h
            show FinP _ _ _ _ _ _ _
            exact FinP.ret _ (res1 rfl rfl) ⟨rfl, hS135.ext⟩
          · replace hb12 := inegb hb12 hc136
            refine W.skip ?_
            show W _ _ _ _ _ _
            refine W.region ?_
            refine WL.val (Value.int .i64 (k7 : Int)) _ (op_move e129) rfl ?_
            refine WL.val (Value.int .i64 (w64 ((k7 : Int) + (1 : Int)))) _ (op_add rfl rfl) rfl ?_
            refine WL.val (Value.int .i64 (w64 ((k7 : Int) + (1 : Int)))) _ (op_assign rfl) rfl ?_
            refine WL.nil ?_
            obtain rfl := Option.some.inj hb12
            show ∃ s, _ = Ctl.next s ∧ _
            exact ⟨_, rfl, e127, e128, (ctr_next hl22 hr21), (ctr_rng hl22 hr21), hS135⟩
      · intro s143 f139 wd140 hs141 hI142
        obtain ⟨⟩ := s143
        replace hI142 : f139 0 = v_a ∧ f139 1 = v_b ∧ f139 5 = Value.int .i64 (((a).length : Nat) : Int) ∧ InR .i64 (((a).length : Nat) : Int) ∧ St w wd140 [] := hI142
        obtain ⟨hf144, hf145, hf146, hr147, hS148⟩ := hI142
        refine W.seq (W.seq (W.region ?_))
        refine WL.val (Value.int .i64 (((a).length : Nat) : Int)) _ (op_move hf146) rfl ?_
        refine WL.val v_a _ (op_move hf144) rfl ?_
        have hr149 := inR_len (Ty.lift _ hS148.ext r_a)
        refine WL.val (Value.int .i64 ((a).length : Int)) _ (op_lenL sl_27 (Ty.lift _ hS148.ext r_a) rfl) rfl ?_
        refine WL.val (Value.bool (decide ((((a).length : Nat) : Int) < ((a).length : Int)))) _ (op_lss rfl rfl) rfl ?_
        have hl150 : ¬ (((a).length : Nat) : Int) < ((a).length : Int) := by omega
        refine WL.nil ?_
        show W _ _ _ _ _ _
        refine W.condF (decide ((((a).length : Nat) : Int) < ((a).length : Int))) rfl (decide_eq_false hl150) ?_
        refine W.exit ?_
        show _ = _ ∧ _
        exact ⟨rfl, _, hs141, hS148⟩
    · rintro f151 wd152 ⟨s154, rfl, hq153⟩
      replace h := onRes_fin h
      obtain ⟨⟩ := s154
      replace hq153 : St w wd152 [] := hq153
      have hS155 := hq153
      show W _ _ _ _ _ _
      refine W.seq (W.region ?_)
      refine WL.val (Value.bool true) _ (op_assign rfl) rfl ?_
      refine WL.nil ?_
      show W _ _ _ _ _ _
      refine W.ret ?_
      obtain rfl := Option.some.inj h
      show FinP _ _ _ _ _ _ _
      exact FinP.ret _ (res1 rfl rfl) ⟨rfl, hS155.ext⟩

theorem c_laws_eqInt64SSS {w : World} {a : (List (List (List Int)))} {v_a : Value} {b : (List (List (List Int)))} {v_b : Value} (r_a : (Ty.sl (Ty.sl (Ty.sl (Ty.i .i64)))).rep w v_a a) (r_b : (Ty.sl (Ty.sl (Ty.sl (Ty.i .i64)))).rep w v_b b) {res : Bool} (h : p_laws_eqInt64SSS a b  = some res) :
    Ret Try.prog 44 #[v_a, v_b] w (fun v w' => v = Value.bool res ∧ Ext w w') := by
  unfold p_laws_eqInt64SSS at h
  have hS0 : St w w [] := St.start w
  refine Ret.start (fn := Try.f44) Try.func44 rfl 27 rfl rfl ?_
  refine W.seq (W.region ?_)
  refine WL.val (Value.bool false) _ (op_assign rfl) rfl ?_
  refine WL.nil ?_
  show W _ _ _ _ _ _
  refine W.seq (W.seq (W.region ?_))
  refine WL.val v_a _ (op_move rfl) rfl ?_
  have hr1 := inR_len (Ty.lift _ hS0.ext r_a)
  refine WL.val (Value.int .i64 ((a).length : Int)) _ (op_lenL sl_23 (Ty.lift _ hS0.ext r_a) rfl) rfl ?_
  refine WL.val v_b _ (op_move rfl) rfl ?_
  have hr2 := inR_len (Ty.lift _ hS0.ext r_b)
  refine WL.val (Value.int .i64 ((b).length : Int)) _ (op_lenL sl_23 (Ty.lift _ hS0.ext r_b) rfl) rfl ?_
  refine WL.val (Value.bool (((a).length : Int) != ((b).length : Int))) _ (op_neq rfl rfl) rfl ?_
  refine WL.nil ?_
  show W _ _ _ _ _ _
  refine W.cond (((a).length : Int) != ((b).length : Int)) rfl (fun hc3 => ?_) (fun hc3 => ?_)
  · replace h := ip h hc3
    refine W.seq (W.region ?_)
    refine WL.val (Value.bool false) _ (op_assign rfl) rfl ?_
    refine WL.nil ?_
    show W _ _ _ _ _ _
    refine W.ret ?_
    obtain rfl := Option.some.inj h
    show FinP _ _ _ _ _ _ _
    exact FinP.ret _ (res1 rfl rfl) ⟨rfl, hS0.ext⟩
  · replace h := inegb h hc3
    refine W.skip ?_
    show W _ _ _ _ _ _
    refine W.seq (W.seq (W.region ?_))
    refine WL.val (Value.int .i64 (0 : Int)) _ (op_assign rfl) rfl ?_
    refine WL.nil ?_
    show W _ _ _ _ _ _
    obtain ⟨res5, hres6, h⟩ := bs h
    refine W.blockLoop (fun fq wq => ∃ s, res5 = Res.fin s ∧ St w wq []) ?_ ?_
    · refine W.forN (fun k (s : Unit) fq wq => fq 0 = v_a ∧ fq 1 = v_b ∧ fq 5 = Value.int .i64 (k : Int) ∧ InR .i64 (k : Int) ∧ St w wq []) hres6 ⟨rfl, rfl, rfl, (inR_i64.2 (show (-9223372036854775808 : Int) ≤ 0 ∧ (0 : Int) ≤ 9223372036854775807 from by decide)), hS0⟩ ?_ ?_
      · intro k7 s138 ct8 f9 wd10 hk11 hb12 hI13 hbrk14 hret15
        obtain ⟨⟩ := s138
        replace hI13 : f9 0 = v_a ∧ f9 1 = v_b ∧ f9 5 = Value.int .i64 (k7 : Int) ∧ InR .i64 (k7 : Int) ∧ St w wd10 [] := hI13
        replace hb12 : p_laws_eqInt64SSS_L1 a b k7  = some ct8 := hb12
        unfold p_laws_eqInt64SSS_L1 at hb12
        obtain ⟨hf16, hf17, hf18, hr19, hS20⟩ := hI13
        refine W.seq (W.seq (W.region ?_))
        refine WL.val (Value.int .i64 (k7 : Int)) _ (op_move hf18) rfl ?_
        refine WL.val v_a _ (op_move hf16) rfl ?_
        have hr21 := inR_len (Ty.lift _ hS20.ext r_a)
        refine WL.val (Value.int .i64 ((a).length : Int)) _ (op_lenL sl_23 (Ty.lift _ hS20.ext r_a) rfl) rfl ?_
        refine WL.val (Value.bool (decide ((k7 : Int) < ((a).length : Int)))) _ (op_lss rfl rfl) rfl ?_
        have hl22 : (k7 : Int) < ((a).length : Int) := by omega
        refine WL.nil ?_
        show W _ _ _ _ _ _
        refine W.condT (decide ((k7 : Int) < ((a).length : Int))) rfl (decide_eq_true hl22) ?_
        refine W.skip ?_
        show W _ _ _ _ _ _
        refine W.seq ?_
        refine W.block ?_
        refine W.seq ?_
        obtain ⟨x53, hx56, hb12⟩ := bs hb12
        obtain ⟨ha54, hb55, hx56⟩ := idx_some hx56
        obtain ⟨u67, hc68, hr69⟩ := repSl.el r_a hx56
        obtain ⟨x99, hx102, hb12⟩ := bs hb12
        obtain ⟨ha100, hb101, hx102⟩ := idx_some hx102
        obtain ⟨u113, hc114, hr115⟩ := repSl.el r_b hx102
        refine W.drawR mixo 8 [] [fun _ v _ _ => v = v_a, fun _ v _ _ => v = (Value.int .i64 (k7 : Int)) ∧ InR .i64 (k7 : Int), fun _ v _ _ => v = (Value.pointer (some (elA v_a ((k7 : Int)).toNat))), fun _ v _ _ => v = u67, fun _ v _ _ => v = v_b, fun _ v _ _ => v = (Value.int .i64 (k7 : Int)) ∧ InR .i64 (k7 : Int), fun _ v _ _ => v = (Value.pointer (some (elA v_b ((k7 : Int)).toNat))), fun _ v _ _ => v = u113] (by kernel_rfl) (by kernel_rfl) ⟨⟨fun _ _ _ _ _ _ h => h, fun _ _ _ _ _ _ h => h⟩, ⟨fun _ _ _ _ _ _ h => h, fun _ _ _ _ _ _ h => h⟩, ⟨fun _ _ _ _ _ _ h => h, fun _ _ _ _ _ _ h => h⟩, ⟨fun _ _ _ _ _ _ h => h, fun _ _ _ _ _ _ h => h⟩, ⟨fun _ _ _ _ _ _ h => h, fun _ _ _ _ _ _ h => h⟩, ⟨fun _ _ _ _ _ _ h => h, fun _ _ _ _ _ _ h => h⟩, ⟨fun _ _ _ _ _ _ h => h, fun _ _ _ _ _ _ h => h⟩, ⟨fun _ _ _ _ _ _ h => h, fun _ _ _ _ _ _ h => h⟩, trivial⟩ ⟨?_, ?_, ?_, ?_, ?_, ?_, ?_, ?_, trivial⟩ ?_
        · refine ObX.op rfl ?_
          intro f24 wd25 he26 hout27 hphi28
          have hS29 : St w wd25 [] := St.extend hS20 he26
          have e30 : f24 0 = v_a := (hout27 0 rfl).trans hf16
          exact OpX.val v_a wd25 rfl (op_move e30) (Ext.refl _) rfl
        · refine ObX.op rfl ?_
          intro f31 wd32 he33 hout34 hphi35
          have hS36 : St w wd32 [] := St.extend hS20 he33
          have e37 : f31 5 = (Value.int .i64 (k7 : Int)) := (hout34 5 rfl).trans hf18
          exact OpX.val (Value.int .i64 (k7 : Int)) wd32 rfl (op_move e37) (Ext.refl _) ⟨rfl, hr19⟩
        · refine ObX.op rfl ?_
          intro f38 wd39 he40 hout41 hphi42
          have hS43 : St w wd39 [] := St.extend hS20 he40
          obtain ⟨S44, hS45, hf46⟩ := hphi42 0 17 _ rfl rfl rfl
          have e47 : f38 17 = v_a := hf46
          obtain ⟨S48, hS49, hf50⟩ := hphi42 1 18 _ rfl rfl rfl
          obtain ⟨e51, hr52⟩ : f38 18 = (Value.int .i64 (k7 : Int)) ∧ InR .i64 (k7 : Int) := hf50
          exact OpX.val (Value.pointer (some (elA v_a ((k7 : Int)).toNat))) wd39 rfl (op_idx sl_23 (Ty.lift _ hS43.ext r_a) e47 e51 ha54 hb55) (Ext.refl _) rfl
        · refine ObX.op rfl ?_
          intro f57 wd58 he59 hout60 hphi61
          have hS62 : St w wd58 [] := St.extend hS20 he59
          obtain ⟨S63, hS64, hf65⟩ := hphi61 2 19 _ rfl rfl rfl
          have e66 : f57 19 = (Value.pointer (some (elA v_a ((k7 : Int)).toNat))) := hf65
          exact OpX.val u67 wd58 rfl (op_load one_27 e66 (Ext.cell hS62.ext hc68)) (Ext.refl _) rfl
        · refine ObX.op rfl ?_
          intro f70 wd71 he72 hout73 hphi74
          have hS75 : St w wd71 [] := St.extend hS20 he72
          have e76 : f70 1 = v_b := (hout73 1 rfl).trans hf17
          exact OpX.val v_b wd71 rfl (op_move e76) (Ext.refl _) rfl
        · refine ObX.op rfl ?_
          intro f77 wd78 he79 hout80 hphi81
          have hS82 : St w wd78 [] := St.extend hS20 he79
          have e83 : f77 5 = (Value.int .i64 (k7 : Int)) := (hout80 5 rfl).trans hf18
          exact OpX.val (Value.int .i64 (k7 : Int)) wd78 rfl (op_move e83) (Ext.refl _) ⟨rfl, hr19⟩
        · refine ObX.op rfl ?_
          intro f84 wd85 he86 hout87 hphi88
          have hS89 : St w wd85 [] := St.extend hS20 he86
          obtain ⟨S90, hS91, hf92⟩ := hphi88 4 21 _ rfl rfl rfl
          have e93 : f84 21 = v_b := hf92
          obtain ⟨S94, hS95, hf96⟩ := hphi88 5 22 _ rfl rfl rfl
          obtain ⟨e97, hr98⟩ : f84 22 = (Value.int .i64 (k7 : Int)) ∧ InR .i64 (k7 : Int) := hf96
          exact OpX.val (Value.pointer (some (elA v_b ((k7 : Int)).toNat))) wd85 rfl (op_idx sl_23 (Ty.lift _ hS89.ext r_b) e93 e97 ha100 hb101) (Ext.refl _) rfl
        · refine ObX.op rfl ?_
          intro f103 wd104 he105 hout106 hphi107
          have hS108 : St w wd104 [] := St.extend hS20 he105
          obtain ⟨S109, hS110, hf111⟩ := hphi107 6 23 _ rfl rfl rfl
          have e112 : f103 23 = (Value.pointer (some (elA v_b ((k7 : Int)).toNat))) := hf111
          exact OpX.val u113 wd104 rfl (op_load one_27 e112 (Ext.cell hS108.ext hc114)) (Ext.refl _) rfl
        · intro f116 wd117 Ss118 he119 hout120 hSn121 hSd122 hphi123
          show WL _ _ _ _ _ _ _
          have hS124 : St w wd117 [] := St.extend hS20 he119
          have e125 : f116 20 = u67 := hphi123 3 20 _ (by decide) rfl rfl
          have e126 : f116 24 = u113 := hphi123 7 24 _ (by decide) rfl rfl
          have e127 : f116 0 = v_a := (hout120 0 rfl).trans hf16
          have e128 : f116 1 = v_b := (hout120 1 rfl).trans hf17
          have e129 : f116 5 = (Value.int .i64 (k7 : Int)) := (hout120 5 rfl).trans hf18
          obtain ⟨x130, hx131, hb12⟩ := bs hb12
          refine WL.call _ (op_call fn_12 (args2 e125 e126)) (c_laws_eqInt64SS (Ty.lift _ hS124.ext hr69) (Ty.lift _ hS124.ext hr115) hx131) rfl ?_
          rintro _ wd132 ⟨rfl, he133⟩
          have hS135 := St.extend hS124 he133
          replace hS135 : St w wd132 [] := hS135
          refine WL.val (Value.bool (!x130)) _ (op_not rfl) rfl ?_
          refine WL.nil ?_
          show W _ _ _ _ _ _
          refine W.cond (!x130) rfl (fun hc136 => ?_) (fun hc136 => ?_)
          · replace hb12 := ip hb12 hc136
            refine W.seq (W.region ?_)
            refine WL.val (Value.bool false) _ (op_assign rfl) rfl ?_
            refine WL.nil ?_
            show W _ _ _ _ _ _
            refine W.ret ?_
            obtain rfl := Option.some.inj hb12
            obtain rfl := hret15 _ rfl
            replace h := onRes_ret h
            obtain rfl := Option.some.inj h
            show FinP _ _ _ _ _ _ _
            exact FinP.ret _ (res1 rfl rfl) ⟨rfl, hS135.ext⟩
          · replace hb12 := inegb hb12 hc136
            refine W.skip ?_
            show W _ _ _ _ _ _
            refine W.region ?_
            refine WL.val (Value.int .i64 (k7 : Int)) _ (op_move e129) rfl ?_
            refine WL.val (Value.int .i64 (w64 ((k7 : Int) + (1 : Int)))) _ (op_add rfl rfl) rfl ?_
            refine WL.val (Value.int .i64 (w64 ((k7 : Int) + (1 : Int)))) _ (op_assign rfl) rfl ?_
            refine WL.nil ?_
            obtain rfl := Option.some.inj hb12
            show ∃ s, _ = Ctl.next s ∧ _
            exact ⟨_, rfl, e127, e128, (ctr_next hl22 hr21), (ctr_rng hl22 hr21), hS135⟩
      · intro s143 f139 wd140 hs141 hI142
        obtain ⟨⟩ := s143
        replace hI142 : f139 0 = v_a ∧ f139 1 = v_b ∧ f139 5 = Value.int .i64 (((a).length : Nat) : Int) ∧ InR .i64 (((a).length : Nat) : Int) ∧ St w wd140 [] := hI142
        obtain ⟨hf144, hf145, hf146, hr147, hS148⟩ := hI142
        refine W.seq (W.seq (W.region ?_))
        refine WL.val (Value.int .i64 (((a).length : Nat) : Int)) _ (op_move hf146) rfl ?_
        refine WL.val v_a _ (op_move hf144) rfl ?_
        have hr149 := inR_len (Ty.lift _ hS148.ext r_a)
        refine WL.val (Value.int .i64 ((a).length : Int)) _ (op_lenL sl_23 (Ty.lift _ hS148.ext r_a) rfl) rfl ?_
        refine WL.val (Value.bool (decide ((((a).length : Nat) : Int) < ((a).length : Int)))) _ (op_lss rfl rfl) rfl ?_
        have hl150 : ¬ (((a).length : Nat) : Int) < ((a).length : Int) := by omega
        refine WL.nil ?_
        show W _ _ _ _ _ _
        refine W.condF (decide ((((a).length : Nat) : Int) < ((a).length : Int))) rfl (decide_eq_false hl150) ?_
        refine W.exit ?_
        show _ = _ ∧ _
        exact ⟨rfl, _, hs141, hS148⟩
    · rintro f151 wd152 ⟨s154, rfl, hq153⟩
      replace h := onRes_fin h
      obtain ⟨⟩ := s154
      replace hq153 : St w wd152 [] := hq153
      have hS155 := hq153
      show W _ _ _ _ _ _
      refine W.seq (W.region ?_)
      refine WL.val (Value.bool true) _ (op_assign rfl) rfl ?_
      refine WL.nil ?_
      show W _ _ _ _ _ _
      refine W.ret ?_
      obtain rfl := Option.some.inj h
      show FinP _ _ _ _ _ _ _
      exact FinP.ret _ (res1 rfl rfl) ⟨rfl, hS155.ext⟩

theorem c_laws_eqCocycle {w : World} {a_Orders : (List Int)} {v_a_Orders : Value} {a_Modulus : Int} {a_Values : (List (List (List Int)))} {v_a_Values : Value} {b_Orders : (List Int)} {v_b_Orders : Value} {b_Modulus : Int} {b_Values : (List (List (List Int)))} {v_b_Values : Value} (r_a_Orders : (Ty.sl (Ty.i .i64)).rep w v_a_Orders a_Orders) (r_a_Modulus : InR .i64 a_Modulus) (r_a_Values : (Ty.sl (Ty.sl (Ty.sl (Ty.i .i64)))).rep w v_a_Values a_Values) (r_b_Orders : (Ty.sl (Ty.i .i64)).rep w v_b_Orders b_Orders) (r_b_Modulus : InR .i64 b_Modulus) (r_b_Values : (Ty.sl (Ty.sl (Ty.sl (Ty.i .i64)))).rep w v_b_Values b_Values) {res : Bool} (h : p_laws_eqCocycle a_Orders a_Modulus a_Values b_Orders b_Modulus b_Values  = some res) :
    Ret Try.prog 13 #[(Value.agg #[v_a_Orders, (Value.int .i64 a_Modulus), v_a_Values]), (Value.agg #[v_b_Orders, (Value.int .i64 b_Modulus), v_b_Values])] w (fun v w' => v = Value.bool res ∧ Ext w w') := by
  unfold p_laws_eqCocycle at h
  have hS0 : St w w [] := St.start w
  refine Ret.start (fn := Try.f13) Try.func13 rfl 22 rfl rfl ?_
  refine W.seq (W.region ?_)
  refine WL.box hS0 rfl (cs := [v_a_Orders, (Value.int .i64 a_Modulus), v_a_Values]) rfl rfl ?_
  intro b1 wd2 hS3 he4 hx5
  replace hS3 : St w wd2 [bx b1 [v_a_Orders, (Value.int .i64 a_Modulus), v_a_Values]] := hS3
  have hx6 := St.boxAt hS3 0 rfl
  have hE7 : Ext w wd2 := hS3.ext
  have hS8 : St wd2 wd2 [] := St.start wd2
  refine WL.box hS8 rfl (cs := [v_b_Orders, (Value.int .i64 b_Modulus), v_b_Values]) rfl rfl ?_
  intro b9 wd10 hS11 he12 hx13
  replace hS11 : St wd2 wd10 [bx b9 [v_b_Orders, (Value.int .i64 b_Modulus), v_b_Values]] := hS11
  have hx14 := St.boxAt hS11 0 rfl
  have hE15 : Ext w wd10 := (Ext.trans hE7 hS11.ext)
  have hE16 : Ext wd2 wd10 := hS11.ext
  have hS17 : St wd10 wd10 [] := St.start wd10
  refine WL.val (Value.bool false) _ (op_assign rfl) rfl ?_
  refine WL.nil ?_
  show W _ _ _ _ _ _
  refine W.seq (W.seq (W.region ?_))
  refine WL.val (Value.pointer (some ⟨b1, 0, none⟩)) _ (op_fieldAddr fd_30_0 rfl) rfl ?_
  refine WL.val v_a_Orders _ (op_load one_22 rfl (BoxAt.cell (BoxAt.lift (Ext.trans hE16 hS17.ext) hx6) rfl)) rfl ?_
  refine WL.val (Value.pointer (some ⟨b9, 0, none⟩)) _ (op_fieldAddr fd_30_0 rfl) rfl ?_
  refine WL.val v_b_Orders _ (op_load one_22 rfl (BoxAt.cell (BoxAt.lift hS17.ext hx14) rfl)) rfl ?_
  obtain ⟨x18, hx19, h⟩ := bs h
  refine WL.call _ (op_call fn_27 (args2 rfl rfl)) (c_laws_eqInt64S (Ty.lift _ (Ext.trans hE15 hS17.ext) r_a_Orders) (Ty.lift _ (Ext.trans hE15 hS17.ext) r_b_Orders) hx19) rfl ?_
  rintro _ wd20 ⟨rfl, he21⟩
  have hS23 := St.extend hS17 he21
  replace hS23 : St wd10 wd20 [] := hS23
  refine WL.val (Value.bool (!x18)) _ (op_not rfl) rfl ?_
  refine WL.nil ?_
  show W _ _ _ _ _ _
  refine W.cond (!x18) rfl (fun hc24 => ?_) (fun hc24 => ?_)
  · replace h := ip h hc24
    refine W.seq (W.region ?_)
    refine WL.val (Value.bool false) _ (op_assign rfl) rfl ?_
    refine WL.nil ?_
    show W _ _ _ _ _ _
    refine W.ret ?_
    obtain rfl := Option.some.inj h
    show FinP _ _ _ _ _ _ _
    exact FinP.ret _ (res1 rfl rfl) ⟨rfl, (Ext.trans hE15 hS23.ext)⟩
  · replace h := inegb h hc24
    refine W.skip ?_
    show W _ _ _ _ _ _
    refine W.seq (W.seq (W.region ?_))
    refine WL.val (Value.pointer (some ⟨b1, 1, none⟩)) _ (op_fieldAddr fd_30_1 rfl) rfl ?_
    refine WL.val (Value.int .i64 a_Modulus) _ (op_load one_2 rfl (BoxAt.cell (BoxAt.lift (Ext.trans hE16 hS23.ext) hx6) rfl)) rfl ?_
    refine WL.val (Value.pointer (some ⟨b9, 1, none⟩)) _ (op_fieldAddr fd_30_1 rfl) rfl ?_
    refine WL.val (Value.int .i64 b_Modulus) _ (op_load one_2 rfl (BoxAt.cell (BoxAt.lift hS23.ext hx14) rfl)) rfl ?_
    refine WL.val (Value.bool (a_Modulus != b_Modulus)) _ (op_neq rfl rfl) rfl ?_
    refine WL.nil ?_
    show W _ _ _ _ _ _
    refine W.cond (a_Modulus != b_Modulus) rfl (fun hc26 => ?_) (fun hc26 => ?_)
    · replace h := ip h hc26
      refine W.seq (W.region ?_)
      refine WL.val (Value.bool false) _ (op_assign rfl) rfl ?_
      refine WL.nil ?_
      show W _ _ _ _ _ _
      refine W.ret ?_
      obtain rfl := Option.some.inj h
      show FinP _ _ _ _ _ _ _
      exact FinP.ret _ (res1 rfl rfl) ⟨rfl, (Ext.trans hE15 hS23.ext)⟩
    · replace h := inegb h hc26
      refine W.skip ?_
      show W _ _ _ _ _ _
      refine W.seq (W.seq (W.region ?_))
      refine WL.val (Value.pointer (some ⟨b1, 2, none⟩)) _ (op_fieldAddr fd_30_2 rfl) rfl ?_
      refine WL.val v_a_Values _ (op_load one_23 rfl (BoxAt.cell (BoxAt.lift (Ext.trans hE16 hS23.ext) hx6) rfl)) rfl ?_
      refine WL.val (Value.pointer (some ⟨b9, 2, none⟩)) _ (op_fieldAddr fd_30_2 rfl) rfl ?_
      refine WL.val v_b_Values _ (op_load one_23 rfl (BoxAt.cell (BoxAt.lift hS23.ext hx14) rfl)) rfl ?_
      obtain ⟨x28, hx29, h⟩ := bs h
      refine WL.call _ (op_call fn_44 (args2 rfl rfl)) (c_laws_eqInt64SSS (Ty.lift _ (Ext.trans hE15 hS23.ext) r_a_Values) (Ty.lift _ (Ext.trans hE15 hS23.ext) r_b_Values) hx29) rfl ?_
      rintro _ wd30 ⟨rfl, he31⟩
      have hS33 := St.extend hS23 he31
      replace hS33 : St wd10 wd30 [] := hS33
      refine WL.val (Value.bool (!x28)) _ (op_not rfl) rfl ?_
      refine WL.nil ?_
      show W _ _ _ _ _ _
      refine W.cond (!x28) rfl (fun hc34 => ?_) (fun hc34 => ?_)
      · replace h := ip h hc34
        refine W.seq (W.region ?_)
        refine WL.val (Value.bool false) _ (op_assign rfl) rfl ?_
        refine WL.nil ?_
        show W _ _ _ _ _ _
        refine W.ret ?_
        obtain rfl := Option.some.inj h
        show FinP _ _ _ _ _ _ _
        exact FinP.ret _ (res1 rfl rfl) ⟨rfl, (Ext.trans hE15 hS33.ext)⟩
      · replace h := inegb h hc34
        refine W.skip ?_
        show W _ _ _ _ _ _
        refine W.seq (W.region ?_)
        refine WL.val (Value.bool true) _ (op_assign rfl) rfl ?_
        refine WL.nil ?_
        show W _ _ _ _ _ _
        refine W.ret ?_
        obtain rfl := Option.some.inj h
        show FinP _ _ _ _ _ _ _
        exact FinP.ret _ (res1 rfl rfl) ⟨rfl, (Ext.trans hE15 hS33.ext)⟩

theorem c_laws_markInt64S {w : World} {a : (List Int)} {v_a : Value} {k1 : Int} {w0 : World} {R : Ent} (hS0 : St w0 w [(Ty.sl (Ty.i .i64)).at v_a a, R]) (r_k1 : InR .i64 k1) {res : Int × (List Int)} (h : p_laws_markInt64S a k1  = some res) :
    Ret Try.prog 28 #[v_a, (Value.int .i64 k1)] w (fun v w' => v = Value.int .i64 res.1 ∧ InR .i64 res.1 ∧ St w0 w' [(Ty.sl (Ty.i .i64)).at v_a res.2, R]) := by
  unfold p_laws_markInt64S at h
  refine Ret.start (fn := Try.f28) Try.func28 rfl 19 rfl rfl ?_
  refine W.seq (W.region ?_)
  refine WL.val (Value.int .i64 (0 : Int)) _ (op_assign rfl) rfl ?_
  refine WL.nil ?_
  show W _ _ _ _ _ _
  refine W.seq (W.seq (W.region ?_))
  refine WL.val (Value.int .i64 (0 : Int)) _ (op_assign rfl) rfl ?_
  refine WL.nil ?_
  show W _ _ _ _ _ _
  obtain ⟨res1, hres2, h⟩ := bs h
  refine W.blockLoop (fun fq wq => ∃ s, res1 = Res.fin s ∧ fq 1 = Value.int .i64 s.2 ∧ InR .i64 s.2 ∧ (s.1).length = (a).length ∧ St w0 wq [(Ty.sl (Ty.i .i64)).at v_a s.1, R]) ?_ ?_
  · refine W.forN (fun k (s : (List Int) × Int) fq wq => fq 0 = v_a ∧ fq 1 = Value.int .i64 s.2 ∧ InR .i64 s.2 ∧ fq 5 = Value.int .i64 (k : Int) ∧ InR .i64 (k : Int) ∧ (s.1).length = (a).length ∧ St w0 wq [(Ty.sl (Ty.i .i64)).at v_a s.1, R]) hres2 ⟨rfl, rfl, r_k1, rfl, (inR_i64.2 (show (-9223372036854775808 : Int) ≤ 0 ∧ (0 : Int) ≤ 9223372036854775807 from by decide)), rfl, hS0⟩ ?_ ?_
    · intro k3 s30 ct6 f7 wd8 hk9 hb10 hI11 hbrk12 hret13
      obtain ⟨x4, x5⟩ := s30
      replace hI11 : f7 0 = v_a ∧ f7 1 = Value.int .i64 x5 ∧ InR .i64 x5 ∧ f7 5 = Value.int .i64 (k3 : Int) ∧ InR .i64 (k3 : Int) ∧ (x4).length = (a).length ∧ St w0 wd8 [(Ty.sl (Ty.i .i64)).at v_a x4, R] := hI11
      replace hb10 : p_laws_markInt64S_L1  k3 x4 x5 = some ct6 := hb10
      unfold p_laws_markInt64S_L1 at hb10
      obtain ⟨hf14, hf15, hr16, hf17, hr18, hL19, hS20⟩ := hI11
      refine W.seq (W.seq (W.region ?_))
      refine WL.val (Value.int .i64 (k3 : Int)) _ (op_move hf17) rfl ?_
      refine WL.val v_a _ (op_move hf14) rfl ?_
      have hr21 := inR_len (St.rep (t := (Ty.sl (Ty.i .i64))) hS20 0 rfl)
      refine WL.val (Value.int .i64 ((x4).length : Int)) _ (op_lenL sl_22 (St.rep (t := (Ty.sl (Ty.i .i64))) hS20 0 rfl) rfl) rfl ?_
      refine WL.val (Value.bool (decide ((k3 : Int) < ((x4).length : Int)))) _ (op_lss rfl rfl) rfl ?_
      have hl22 : (k3 : Int) < ((x4).length : Int) := by omega
      refine WL.nil ?_
      show W _ _ _ _ _ _
      refine W.condT (decide ((k3 : Int) < ((x4).length : Int))) rfl (decide_eq_true hl22) ?_
      refine W.skip ?_
      show W _ _ _ _ _ _
      refine W.seq ?_
      refine W.block ?_
      refine W.seq (W.region ?_)
      refine WL.val v_a _ (op_move hf14) rfl ?_
      refine WL.val (Value.int .i64 (k3 : Int)) _ (op_move hf17) rfl ?_
      refine WL.val (Value.int .i64 x5) _ (op_move hf15) rfl ?_
      obtain ⟨x24, hx27, hb10⟩ := bs hb10
      obtain ⟨ha25, hb26, hx27⟩ := idx_some hx27
      refine WL.val (Value.pointer (some (elA v_a ((k3 : Int)).toNat))) _ (op_idx sl_22 (St.rep (t := (Ty.sl (Ty.i .i64))) hS20 0 rfl) rfl rfl ha25 hb26) rfl ?_
      refine WL.storeEl (flat_i .i64) hS20 (k := 0) rfl sz_2 rfl rfl (lt_of_idx ha25 hb26) ⟨rfl, hr16⟩ ?_
      intro wd28 hS29
      replace hS29 : St w0 wd28 [(Ty.sl (Ty.i .i64)).at v_a ((x4).set ((k3 : Int)).toNat x5), R] := hS29
      refine WL.nil ?_
      show W _ _ _ _ _ _
      refine W.region ?_
      refine WL.val (Value.int .i64 x5) _ (op_move hf15) rfl ?_
      refine WL.val (Value.int .i64 (w64 (x5 + (1 : Int)))) _ (op_add rfl rfl) rfl ?_
      refine WL.val (Value.int .i64 (w64 (x5 + (1 : Int)))) _ (op_assign rfl) rfl ?_
      refine WL.nil ?_
      show W _ _ _ _ _ _
      refine W.region ?_
      refine WL.val (Value.int .i64 (k3 : Int)) _ (op_move hf17) rfl ?_
      refine WL.val (Value.int .i64 (w64 ((k3 : Int) + (1 : Int)))) _ (op_add rfl rfl) rfl ?_
      refine WL.val (Value.int .i64 (w64 ((k3 : Int) + (1 : Int)))) _ (op_assign rfl) rfl ?_
      refine WL.nil ?_
      obtain rfl := Option.some.inj hb10
      show ∃ s, _ = Ctl.next s ∧ _
      exact ⟨_, rfl, hf14, rfl, (inR_wrap _ _), (ctr_next hl22 hr21), (ctr_rng hl22 hr21), (by first | exact hL19 | (simp only [List.length_set]; exact hL19)), hS29⟩
    · intro s35 f31 wd32 hs33 hI34
      obtain ⟨x36, x37⟩ := s35
      replace hI34 : f31 0 = v_a ∧ f31 1 = Value.int .i64 x37 ∧ InR .i64 x37 ∧ f31 5 = Value.int .i64 (((a).length : Nat) : Int) ∧ InR .i64 (((a).length : Nat) : Int) ∧ (x36).length = (a).length ∧ St w0 wd32 [(Ty.sl (Ty.i .i64)).at v_a x36, R] := hI34
      obtain ⟨hf38, hf39, hr40, hf41, hr42, hL43, hS44⟩ := hI34
      refine W.seq (W.seq (W.region ?_))
      refine WL.val (Value.int .i64 (((a).length : Nat) : Int)) _ (op_move hf41) rfl ?_
      refine WL.val v_a _ (op_move hf38) rfl ?_
      have hr45 := inR_len (St.rep (t := (Ty.sl (Ty.i .i64))) hS44 0 rfl)
      refine WL.val (Value.int .i64 ((x36).length : Int)) _ (op_lenL sl_22 (St.rep (t := (Ty.sl (Ty.i .i64))) hS44 0 rfl) rfl) rfl ?_
      refine WL.val (Value.bool (decide ((((a).length : Nat) : Int) < ((x36).length : Int)))) _ (op_lss rfl rfl) rfl ?_
      have hl46 : ¬ (((a).length : Nat) : Int) < ((x36).length : Int) := by omega
      refine WL.nil ?_
      show W _ _ _ _ _ _
      refine W.condF (decide ((((a).length : Nat) : Int) < ((x36).length : Int))) rfl (decide_eq_false hl46) ?_
      refine W.exit ?_
      show _ = _ ∧ _
      exact ⟨rfl, _, hs33, hf39, hr40, (by first | exact hL43 | (simp only [List.length_set]; exact hL43)), hS44⟩
  · rintro f47 wd48 ⟨s50, rfl, hq49⟩
    replace h := onRes_fin h
    obtain ⟨x51, x52⟩ := s50
    replace hq49 : f47 1 = Value.int .i64 x52 ∧ InR .i64 x52 ∧ (x51).length = (a).length ∧ St w0 wd48 [(Ty.sl (Ty.i .i64)).at v_a x51, R] := hq49
    replace h : (_ : Option _) = _ := h
    dsimp only at h
    obtain ⟨hf53, hr54, hL55, hS56⟩ := hq49
    show W _ _ _ _ _ _
    refine W.seq (W.region ?_)
    refine WL.val (Value.int .i64 x52) _ (op_move hf53) rfl ?_
    refine WL.val (Value.int .i64 x52) _ (op_assign rfl) rfl ?_
    refine WL.nil ?_
    show W _ _ _ _ _ _
    refine W.ret ?_
    obtain rfl := Option.some.inj h
    show FinP _ _ _ _ _ _ _
    exact FinP.ret _ (res1 rfl rfl) ⟨rfl, hr54, (St.pick hS56 [0, 1] rfl)⟩

theorem c_laws_markInt64SS {w : World} {a : (List (List Int))} {v_a : Value} {k1 : Int} {w0 : World} {R : Ent} (hS0 : St w0 w [(Ty.sl (Ty.sl (Ty.i .i64))).at v_a a, R]) (r_k1 : InR .i64 k1) {res : Int × (List (List Int))} (h : p_laws_markInt64SS a k1  = some res) :
    Ret Try.prog 15 #[v_a, (Value.int .i64 k1)] w (fun v w' => v = Value.int .i64 res.1 ∧ InR .i64 res.1 ∧ St w0 w' [(Ty.sl (Ty.sl (Ty.i .i64))).at v_a res.2, R]) := by
  unfold p_laws_markInt64SS at h
  refine Ret.start (fn := Try.f15) Try.func15 rfl 19 rfl rfl ?_
  refine W.seq (W.region ?_)
  refine WL.val (Value.int .i64 (0 : Int)) _ (op_assign rfl) rfl ?_
  refine WL.nil ?_
  show W _ _ _ _ _ _
  refine W.seq (W.seq (W.region ?_))
  refine WL.val (Value.int .i64 (0 : Int)) _ (op_assign rfl) rfl ?_
  refine WL.nil ?_
  show W _ _ _ _ _ _
  obtain ⟨res1, hres2, h⟩ := bs h
  refine W.blockLoop (fun fq wq => ∃ s, res1 = Res.fin s ∧ fq 1 = Value.int .i64 s.2 ∧ InR .i64 s.2 ∧ (s.1).length = (a).length ∧ St w0 wq [(Ty.sl (Ty.sl (Ty.i .i64))).at v_a s.1, R]) ?_ ?_
  · refine W.forN (fun k (s : (List (List Int)) × Int) fq wq => fq 0 = v_a ∧ fq 1 = Value.int .i64 s.2 ∧ InR .i64 s.2 ∧ fq 5 = Value.int .i64 (k : Int) ∧ InR .i64 (k : Int) ∧ (s.1).length = (a).length ∧ St w0 wq [(Ty.sl (Ty.sl (Ty.i .i64))).at v_a s.1, R]) hres2 ⟨rfl, rfl, r_k1, rfl, (inR_i64.2 (show (-9223372036854775808 : Int) ≤ 0 ∧ (0 : Int) ≤ 9223372036854775807 from by decide)), rfl, hS0⟩ ?_ ?_
    · intro k3 s40 ct6 f7 wd8 hk9 hb10 hI11 hbrk12 hret13
      obtain ⟨x4, x5⟩ := s40
      replace hI11 : f7 0 = v_a ∧ f7 1 = Value.int .i64 x5 ∧ InR .i64 x5 ∧ f7 5 = Value.int .i64 (k3 : Int) ∧ InR .i64 (k3 : Int) ∧ (x4).length = (a).length ∧ St w0 wd8 [(Ty.sl (Ty.sl (Ty.i .i64))).at v_a x4, R] := hI11
      replace hb10 : p_laws_markInt64SS_L1  k3 x4 x5 = some ct6 := hb10
      unfold p_laws_markInt64SS_L1 at hb10
      obtain ⟨hf14, hf15, hr16, hf17, hr18, hL19, hS20⟩ := hI11
      refine W.seq (W.seq (W.region ?_))
      refine WL.val (Value.int .i64 (k3 : Int)) _ (op_move hf17) rfl ?_
      refine WL.val v_a _ (op_move hf14) rfl ?_
      have hr21 := inR_len (St.rep (t := (Ty.sl (Ty.sl (Ty.i .i64)))) hS20 0 rfl)
      refine WL.val (Value.int .i64 ((x4).length : Int)) _ (op_lenL sl_27 (St.rep (t := (Ty.sl (Ty.sl (Ty.i .i64)))) hS20 0 rfl) rfl) rfl ?_
      refine WL.val (Value.bool (decide ((k3 : Int) < ((x4).length : Int)))) _ (op_lss rfl rfl) rfl ?_
      have hl22 : (k3 : Int) < ((x4).length : Int) := by omega
      refine WL.nil ?_
      show W _ _ _ _ _ _
      refine W.condT (decide ((k3 : Int) < ((x4).length : Int))) rfl (decide_eq_true hl22) ?_
      refine W.skip ?_
      show W _ _ _ _ _ _
      refine W.seq ?_
      refine W.block ?_
      refine W.region ?_
      refine WL.val v_a _ (op_move hf14) rfl ?_
      refine WL.val (Value.int .i64 (k3 : Int)) _ (op_move hf17) rfl ?_
      obtain ⟨x24, hx27, hb10⟩ := bs hb10
      obtain ⟨ha25, hb26, hx27⟩ := idx_some hx27
      refine WL.val (Value.pointer (some (elA v_a ((k3 : Int)).toNat))) _ (op_idx sl_27 (St.rep (t := (Ty.sl (Ty.sl (Ty.i .i64)))) hS20 0 rfl) rfl rfl ha25 hb26) rfl ?_
      obtain ⟨u28, hc29, hr30⟩ := repSl.el (St.rep (t := (Ty.sl (Ty.sl (Ty.i .i64)))) hS20 0 rfl) hx27
      refine WL.val u28 _ (op_load one_22 rfl hc29) rfl ?_
      refine WL.val (Value.int .i64 x5) _ (op_move hf15) rfl ?_
      have hS31 := St.unrow (k := 0) hS20 rfl hx27 hc29
      replace hS31 : St w0 wd8 [holeAt (Ty.sl (Ty.i .i64)) v_a x4 ((k3 : Int)).toNat u28, R, (Ty.sl (Ty.i .i64)).at u28 x24] := hS31
      obtain ⟨x32, hx33, hb10⟩ := bs hb10
      have hS34 := St.fold [(Ty.sl (Ty.i .i64)).at u28 x24] [holeAt (Ty.sl (Ty.i .i64)) v_a x4 ((k3 : Int)).toNat u28, R] (St.pick hS31 [2, 0, 1] rfl)
      refine WL.call _ (op_call fn_28 (args2 rfl rfl)) (c_laws_markInt64S hS34 hr16 hx33) rfl ?_
      rintro _ wd37 ⟨rfl, hr38, hS35⟩
      have hS36 := St.pick (St.unfold [(Ty.sl (Ty.i .i64)).at u28 x32.2] [holeAt (Ty.sl (Ty.i .i64)) v_a x4 ((k3 : Int)).toNat u28, R] hS35) [1, 2, 0] rfl
      replace hS36 : St w0 wd37 [holeAt (Ty.sl (Ty.i .i64)) v_a x4 ((k3 : Int)).toNat u28, R, (Ty.sl (Ty.i .i64)).at u28 x32.2] := hS36
      have hS39 := St.rerow (k := 0) (k2 := 2) hS36 rfl rfl rfl
      replace hS39 : St w0 wd37 [(Ty.sl (Ty.sl (Ty.i .i64))).at v_a ((x4).set ((k3 : Int)).toNat x32.2), R, emp] := hS39
      refine WL.val (Value.int .i64 x32.1) _ (op_assign rfl) rfl ?_
      refine WL.nil ?_
      show W _ _ _ _ _ _
      refine W.region ?_
      refine WL.val (Value.int .i64 (k3 : Int)) _ (op_move hf17) rfl ?_
      refine WL.val (Value.int .i64 (w64 ((k3 : Int) + (1 : Int)))) _ (op_add rfl rfl) rfl ?_
      refine WL.val (Value.int .i64 (w64 ((k3 : Int) + (1 : Int)))) _ (op_assign rfl) rfl ?_
      refine WL.nil ?_
      obtain rfl := Option.some.inj hb10
      show ∃ s, _ = Ctl.next s ∧ _
      exact ⟨_, rfl, hf14, rfl, hr38, (ctr_next hl22 hr21), (ctr_rng hl22 hr21), (by first | exact hL19 | (simp only [List.length_set]; exact hL19)), (St.pick hS39 [0, 1] rfl)⟩
    · intro s45 f41 wd42 hs43 hI44
      obtain ⟨x46, x47⟩ := s45
      replace hI44 : f41 0 = v_a ∧ f41 1 = Value.int .i64 x47 ∧ InR .i64 x47 ∧ f41 5 = Value.int .i64 (((a).length : Nat) : Int) ∧ InR .i64 (((a).length : Nat) : Int) ∧ (x46).length = (a).length ∧ St w0 wd42 [(Ty.sl (Ty.sl (Ty.i .i64))).at v_a x46, R] := hI44
      obtain ⟨hf48, hf49, hr50, hf51, hr52, hL53, hS54⟩ := hI44
      refine W.seq (W.seq (W.region ?_))
      refine WL.val (Value.int .i64 (((a).length : Nat) : Int)) _ (op_move hf51) rfl ?_
      refine WL.val v_a _ (op_move hf48) rfl ?_
      have hr55 := inR_len (St.rep (t := (Ty.sl (Ty.sl (Ty.i .i64)))) hS54 0 rfl)
      refine WL.val (Value.int .i64 ((x46).length : Int)) _ (op_lenL sl_27 (St.rep (t := (Ty.sl (Ty.sl (Ty.i .i64)))) hS54 0 rfl) rfl) rfl ?_
      refine WL.val (Value.bool (decide ((((a).length : Nat) : Int) < ((x46).length : Int)))) _ (op_lss rfl rfl) rfl ?_
      have hl56 : ¬ (((a).length : Nat) : Int) < ((x46).length : Int) := by omega
      refine WL.nil ?_
      show W _ _ _ _ _ _
      refine W.condF (decide ((((a).length : Nat) : Int) < ((x46).length : Int))) rfl (decide_eq_false hl56) ?_
      refine W.exit ?_
      show _ = _ ∧ _
      exact ⟨rfl, _, hs43, hf49, hr50, (by first | exact hL53 | (simp only [List.length_set]; exact hL53)), hS54⟩
  · rintro f57 wd58 ⟨s60, rfl, hq59⟩
    replace h := onRes_fin h
    obtain ⟨x61, x62⟩ := s60
    replace hq59 : f57 1 = Value.int .i64 x62 ∧ InR .i64 x62 ∧ (x61).length = (a).length ∧ St w0 wd58 [(Ty.sl (Ty.sl (Ty.i .i64))).at v_a x61, R] := hq59
    replace h : (_ : Option _) = _ := h
    dsimp only at h
    obtain ⟨hf63, hr64, hL65, hS66⟩ := hq59
    show W _ _ _ _ _ _
    refine W.seq (W.region ?_)
    refine WL.val (Value.int .i64 x62) _ (op_move hf63) rfl ?_
    refine WL.val (Value.int .i64 x62) _ (op_assign rfl) rfl ?_
    refine WL.nil ?_
    show W _ _ _ _ _ _
    refine W.ret ?_
    obtain rfl := Option.some.inj h
    show FinP _ _ _ _ _ _ _
    exact FinP.ret _ (res1 rfl rfl) ⟨rfl, hr64, (St.pick hS66 [0, 1] rfl)⟩

theorem c_laws_markInt64SSS {w : World} {a : (List (List (List Int)))} {v_a : Value} {k1 : Int} {w0 : World} {R : Ent} (hS0 : St w0 w [(Ty.sl (Ty.sl (Ty.sl (Ty.i .i64)))).at v_a a, R]) (r_k1 : InR .i64 k1) {res : Int × (List (List (List Int)))} (h : p_laws_markInt64SSS a k1  = some res) :
    Ret Try.prog 45 #[v_a, (Value.int .i64 k1)] w (fun v w' => v = Value.int .i64 res.1 ∧ InR .i64 res.1 ∧ St w0 w' [(Ty.sl (Ty.sl (Ty.sl (Ty.i .i64)))).at v_a res.2, R]) := by
  unfold p_laws_markInt64SSS at h
  refine Ret.start (fn := Try.f45) Try.func45 rfl 19 rfl rfl ?_
  refine W.seq (W.region ?_)
  refine WL.val (Value.int .i64 (0 : Int)) _ (op_assign rfl) rfl ?_
  refine WL.nil ?_
  show W _ _ _ _ _ _
  refine W.seq (W.seq (W.region ?_))
  refine WL.val (Value.int .i64 (0 : Int)) _ (op_assign rfl) rfl ?_
  refine WL.nil ?_
  show W _ _ _ _ _ _
  obtain ⟨res1, hres2, h⟩ := bs h
  refine W.blockLoop (fun fq wq => ∃ s, res1 = Res.fin s ∧ fq 1 = Value.int .i64 s.2 ∧ InR .i64 s.2 ∧ (s.1).length = (a).length ∧ St w0 wq [(Ty.sl (Ty.sl (Ty.sl (Ty.i .i64)))).at v_a s.1, R]) ?_ ?_
  · refine W.forN (fun k (s : (List (List (List Int))) × Int) fq wq => fq 0 = v_a ∧ fq 1 = Value.int .i64 s.2 ∧ InR .i64 s.2 ∧ fq 5 = Value.int .i64 (k : Int) ∧ InR .i64 (k : Int) ∧ (s.1).length = (a).length ∧ St w0 wq [(Ty.sl (Ty.sl (Ty.sl (Ty.i .i64)))).at v_a s.1, R]) hres2 ⟨rfl, rfl, r_k1, rfl, (inR_i64.2 (show (-9223372036854775808 : Int) ≤ 0 ∧ (0 : Int) ≤ 9223372036854775807 from by decide)), rfl, hS0⟩ ?_ ?_
    · intro k3 s40 ct6 f7 wd8 hk9 hb10 hI11 hbrk12 hret13
      obtain ⟨x4, x5⟩ := s40
      replace hI11 : f7 0 = v_a ∧ f7 1 = Value.int .i64 x5 ∧ InR .i64 x5 ∧ f7 5 = Value.int .i64 (k3 : Int) ∧ InR .i64 (k3 : Int) ∧ (x4).length = (a).length ∧ St w0 wd8 [(Ty.sl (Ty.sl (Ty.sl (Ty.i .i64)))).at v_a x4, R] := hI11
      replace hb10 : p_laws_markInt64SSS_L1  k3 x4 x5 = some ct6 := hb10
      unfold p_laws_markInt64SSS_L1 at hb10
      obtain ⟨hf14, hf15, hr16, hf17, hr18, hL19, hS20⟩ := hI11
      refine W.seq (W.seq (W.region ?_))
      refine WL.val (Value.int .i64 (k3 : Int)) _ (op_move hf17) rfl ?_
      refine WL.val v_a _ (op_move hf14) rfl ?_
      have hr21 := inR_len (St.rep (t := (Ty.sl (Ty.sl (Ty.sl (Ty.i .i64))))) hS20 0 rfl)
      refine WL.val (Value.int .i64 ((x4).length : Int)) _ (op_lenL sl_23 (St.rep (t := (Ty.sl (Ty.sl (Ty.sl (Ty.i .i64))))) hS20 0 rfl) rfl) rfl ?_
      refine WL.val (Value.bool (decide ((k3 : Int) < ((x4).length : Int)))) _ (op_lss rfl rfl) rfl ?_
      have hl22 : (k3 : Int) < ((x4).length : Int) := by omega
      refine WL.nil ?_
      show W _ _ _ _ _ _
      refine W.condT (decide ((k3 : Int) < ((x4).length : Int))) rfl (decide_eq_true hl22) ?_
      refine W.skip ?_
      show W _ _ _ _ _ _
      refine W.seq ?_
      refine W.block ?_
      refine W.region ?_
      refine WL.val v_a _ (op_move hf14) rfl ?_
      refine WL.val (Value.int .i64 (k3 : Int)) _ (op_move hf17) rfl ?_
      obtain ⟨x24, hx27, hb10⟩ := bs hb10
      obtain ⟨ha25, hb26, hx27⟩ := idx_some hx27
      refine WL.val (Value.pointer (some (elA v_a ((k3 : Int)).toNat))) _ (op_idx sl_23 (St.rep (t := (Ty.sl (Ty.sl (Ty.sl (Ty.i .i64))))) hS20 0 rfl) rfl rfl ha25 hb26) rfl ?_
      obtain ⟨u28, hc29, hr30⟩ := repSl.el (St.rep (t := (Ty.sl (Ty.sl (Ty.sl (Ty.i .i64))))) hS20 0 rfl) hx27
      refine WL.val u28 _ (op_load one_27 rfl hc29) rfl ?_
      refine WL.val (Value.int .i64 x5) _ (op_move hf15) rfl ?_
      have hS31 := St.unrow (k := 0) hS20 rfl hx27 hc29
      replace hS31 : St w0 wd8 [holeAt (Ty.sl (Ty.sl (Ty.i .i64))) v_a x4 ((k3 : Int)).toNat u28, R, (Ty.sl (Ty.sl (Ty.i .i64))).at u28 x24] := hS31
      obtain ⟨x32, hx33, hb10⟩ := bs hb10
      have hS34 := St.fold [(Ty.sl (Ty.sl (Ty.i .i64))).at u28 x24] [holeAt (Ty.sl (Ty.sl (Ty.i .i64))) v_a x4 ((k3 : Int)).toNat u28, R] (St.pick hS31 [2, 0, 1] rfl)
      refine WL.call _ (op_call fn_15 (args2 rfl rfl)) (c_laws_markInt64SS hS34 hr16 hx33) rfl ?_
      rintro _ wd37 ⟨rfl, hr38, hS35⟩
      have hS36 := St.pick (St.unfold [(Ty.sl (Ty.sl (Ty.i .i64))).at u28 x32.2] [holeAt (Ty.sl (Ty.sl (Ty.i .i64))) v_a x4 ((k3 : Int)).toNat u28, R] hS35) [1, 2, 0] rfl
      replace hS36 : St w0 wd37 [holeAt (Ty.sl (Ty.sl (Ty.i .i64))) v_a x4 ((k3 : Int)).toNat u28, R, (Ty.sl (Ty.sl (Ty.i .i64))).at u28 x32.2] := hS36
      have hS39 := St.rerow (k := 0) (k2 := 2) hS36 rfl rfl rfl
      replace hS39 : St w0 wd37 [(Ty.sl (Ty.sl (Ty.sl (Ty.i .i64)))).at v_a ((x4).set ((k3 : Int)).toNat x32.2), R, emp] := hS39
      refine WL.val (Value.int .i64 x32.1) _ (op_assign rfl) rfl ?_
      refine WL.nil ?_
      show W _ _ _ _ _ _
      refine W.region ?_
      refine WL.val (Value.int .i64 (k3 : Int)) _ (op_move hf17) rfl ?_
      refine WL.val (Value.int .i64 (w64 ((k3 : Int) + (1 : Int)))) _ (op_add rfl rfl) rfl ?_
      refine WL.val (Value.int .i64 (w64 ((k3 : Int) + (1 : Int)))) _ (op_assign rfl) rfl ?_
      refine WL.nil ?_
      obtain rfl := Option.some.inj hb10
      show ∃ s, _ = Ctl.next s ∧ _
      exact ⟨_, rfl, hf14, rfl, hr38, (ctr_next hl22 hr21), (ctr_rng hl22 hr21), (by first | exact hL19 | (simp only [List.length_set]; exact hL19)), (St.pick hS39 [0, 1] rfl)⟩
    · intro s45 f41 wd42 hs43 hI44
      obtain ⟨x46, x47⟩ := s45
      replace hI44 : f41 0 = v_a ∧ f41 1 = Value.int .i64 x47 ∧ InR .i64 x47 ∧ f41 5 = Value.int .i64 (((a).length : Nat) : Int) ∧ InR .i64 (((a).length : Nat) : Int) ∧ (x46).length = (a).length ∧ St w0 wd42 [(Ty.sl (Ty.sl (Ty.sl (Ty.i .i64)))).at v_a x46, R] := hI44
      obtain ⟨hf48, hf49, hr50, hf51, hr52, hL53, hS54⟩ := hI44
      refine W.seq (W.seq (W.region ?_))
      refine WL.val (Value.int .i64 (((a).length : Nat) : Int)) _ (op_move hf51) rfl ?_
      refine WL.val v_a _ (op_move hf48) rfl ?_
      have hr55 := inR_len (St.rep (t := (Ty.sl (Ty.sl (Ty.sl (Ty.i .i64))))) hS54 0 rfl)
      refine WL.val (Value.int .i64 ((x46).length : Int)) _ (op_lenL sl_23 (St.rep (t := (Ty.sl (Ty.sl (Ty.sl (Ty.i .i64))))) hS54 0 rfl) rfl) rfl ?_
      refine WL.val (Value.bool (decide ((((a).length : Nat) : Int) < ((x46).length : Int)))) _ (op_lss rfl rfl) rfl ?_
      have hl56 : ¬ (((a).length : Nat) : Int) < ((x46).length : Int) := by omega
      refine WL.nil ?_
      show W _ _ _ _ _ _
      refine W.condF (decide ((((a).length : Nat) : Int) < ((x46).length : Int))) rfl (decide_eq_false hl56) ?_
      refine W.exit ?_
      show _ = _ ∧ _
      exact ⟨rfl, _, hs43, hf49, hr50, (by first | exact hL53 | (simp only [List.length_set]; exact hL53)), hS54⟩
  · rintro f57 wd58 ⟨s60, rfl, hq59⟩
    replace h := onRes_fin h
    obtain ⟨x61, x62⟩ := s60
    replace hq59 : f57 1 = Value.int .i64 x62 ∧ InR .i64 x62 ∧ (x61).length = (a).length ∧ St w0 wd58 [(Ty.sl (Ty.sl (Ty.sl (Ty.i .i64)))).at v_a x61, R] := hq59
    replace h : (_ : Option _) = _ := h
    dsimp only at h
    obtain ⟨hf63, hr64, hL65, hS66⟩ := hq59
    show W _ _ _ _ _ _
    refine W.seq (W.region ?_)
    refine WL.val (Value.int .i64 x62) _ (op_move hf63) rfl ?_
    refine WL.val (Value.int .i64 x62) _ (op_assign rfl) rfl ?_
    refine WL.nil ?_
    show W _ _ _ _ _ _
    refine W.ret ?_
    obtain rfl := Option.some.inj h
    show FinP _ _ _ _ _ _ _
    exact FinP.ret _ (res1 rfl rfl) ⟨rfl, hr64, (St.pick hS66 [0, 1] rfl)⟩

theorem c_laws_markCocycle {w : World} {a_Orders : (List Int)} {v_a_Orders : Value} {a_Modulus : Int} {a_Values : (List (List (List Int)))} {v_a_Values : Value} {k1 : Int} {w0 : World} {R : Ent} (hS0 : St w0 w [(Ty.sl (Ty.i .i64)).at v_a_Orders a_Orders, (Ty.sl (Ty.sl (Ty.sl (Ty.i .i64)))).at v_a_Values a_Values, R]) (r_a_Modulus : InR .i64 a_Modulus) (r_k1 : InR .i64 k1) {res : Int × (List Int) × (List (List (List Int)))} (h : p_laws_markCocycle a_Orders a_Modulus a_Values k1  = some res) :
    Ret Try.prog 14 #[(Value.agg #[v_a_Orders, (Value.int .i64 a_Modulus), v_a_Values]), (Value.int .i64 k1)] w (fun v w' => v = Value.int .i64 res.1 ∧ InR .i64 res.1 ∧ St w0 w' [(Ty.sl (Ty.i .i64)).at v_a_Orders res.2.1, (Ty.sl (Ty.sl (Ty.sl (Ty.i .i64)))).at v_a_Values res.2.2, R]) := by
  unfold p_laws_markCocycle at h
  refine Ret.start (fn := Try.f14) Try.func14 rfl 14 rfl rfl ?_
  refine W.seq (W.region ?_)
  refine WL.box hS0 rfl (cs := [v_a_Orders, (Value.int .i64 a_Modulus), v_a_Values]) rfl rfl ?_
  intro b1 wd2 hS3 he4 hx5
  replace hS3 : St w0 wd2 [(Ty.sl (Ty.i .i64)).at v_a_Orders a_Orders, (Ty.sl (Ty.sl (Ty.sl (Ty.i .i64)))).at v_a_Values a_Values, R, bx b1 [v_a_Orders, (Value.int .i64 a_Modulus), v_a_Values]] := hS3
  refine WL.val (Value.int .i64 (0 : Int)) _ (op_assign rfl) rfl ?_
  refine WL.nil ?_
  show W _ _ _ _ _ _
  refine W.seq (W.region ?_)
  refine WL.val (Value.pointer (some ⟨b1, 0, none⟩)) _ (op_fieldAddr fd_30_0 rfl) rfl ?_
  refine WL.val v_a_Orders _ (op_load one_22 rfl (BoxAt.cell (St.boxAt hS3 3 rfl) rfl)) rfl ?_
  refine WL.val (Value.int .i64 k1) _ (op_move rfl) rfl ?_
  obtain ⟨x6, hx7, h⟩ := bs h
  have hS8 := St.fold [(Ty.sl (Ty.i .i64)).at v_a_Orders a_Orders] [(Ty.sl (Ty.sl (Ty.sl (Ty.i .i64)))).at v_a_Values a_Values, R, bx b1 [v_a_Orders, (Value.int .i64 a_Modulus), v_a_Values]] (St.pick hS3 [0, 1, 2, 3] rfl)
  refine WL.call _ (op_call fn_28 (args2 rfl rfl)) (c_laws_markInt64S hS8 r_k1 hx7) rfl ?_
  rintro _ wd11 ⟨rfl, hr12, hS9⟩
  have hS10 := St.pick (St.unfold [(Ty.sl (Ty.i .i64)).at v_a_Orders x6.2] [(Ty.sl (Ty.sl (Ty.sl (Ty.i .i64)))).at v_a_Values a_Values, R, bx b1 [v_a_Orders, (Value.int .i64 a_Modulus), v_a_Values]] hS9) [0, 1, 2, 3] rfl
  replace hS10 : St w0 wd11 [(Ty.sl (Ty.i .i64)).at v_a_Orders x6.2, (Ty.sl (Ty.sl (Ty.sl (Ty.i .i64)))).at v_a_Values a_Values, R, bx b1 [v_a_Orders, (Value.int .i64 a_Modulus), v_a_Values]] := hS10
  refine WL.val (Value.int .i64 x6.1) _ (op_assign rfl) rfl ?_
  refine WL.nil ?_
  show W _ _ _ _ _ _
  refine W.seq (W.region ?_)
  refine WL.val (Value.pointer (some ⟨b1, 2, none⟩)) _ (op_fieldAddr fd_30_2 rfl) rfl ?_
  refine WL.val v_a_Values _ (op_load one_23 rfl (BoxAt.cell (St.boxAt hS10 3 rfl) rfl)) rfl ?_
  refine WL.val (Value.int .i64 x6.1) _ (op_move rfl) rfl ?_
  obtain ⟨x13, hx14, h⟩ := bs h
  have hS15 := St.fold [(Ty.sl (Ty.sl (Ty.sl (Ty.i .i64)))).at v_a_Values a_Values] [(Ty.sl (Ty.i .i64)).at v_a_Orders x6.2, R, bx b1 [v_a_Orders, (Value.int .i64 a_Modulus), v_a_Values]] (St.pick hS10 [1, 0, 2, 3] rfl)
  refine WL.call _ (op_call fn_45 (args2 rfl rfl)) (c_laws_markInt64SSS hS15 hr12 hx14) rfl ?_
  rintro _ wd18 ⟨rfl, hr19, hS16⟩
  have hS17 := St.pick (St.unfold [(Ty.sl (Ty.sl (Ty.sl (Ty.i .i64)))).at v_a_Values x13.2] [(Ty.sl (Ty.i .i64)).at v_a_Orders x6.2, R, bx b1 [v_a_Orders, (Value.int .i64 a_Modulus), v_a_Values]] hS16) [1, 0, 2, 3] rfl
  replace hS17 : St w0 wd18 [(Ty.sl (Ty.i .i64)).at v_a_Orders x6.2, (Ty.sl (Ty.sl (Ty.sl (Ty.i .i64)))).at v_a_Values x13.2, R, bx b1 [v_a_Orders, (Value.int .i64 a_Modulus), v_a_Values]] := hS17
  refine WL.val (Value.int .i64 x13.1) _ (op_assign rfl) rfl ?_
  refine WL.nil ?_
  show W _ _ _ _ _ _
  refine W.seq (W.region ?_)
  refine WL.val (Value.int .i64 x13.1) _ (op_move rfl) rfl ?_
  refine WL.val (Value.int .i64 x13.1) _ (op_assign rfl) rfl ?_
  refine WL.nil ?_
  show W _ _ _ _ _ _
  refine W.ret ?_
  obtain rfl := Option.some.inj h
  show FinP _ _ _ _ _ _ _
  exact FinP.ret _ (res1 rfl rfl) ⟨rfl, hr19, (St.pick hS17 [0, 1, 2] rfl)⟩

theorem c_laws_heldInt64S {w : World} {a : (List Int)} {v_a : Value} {k1 : Int} (r_a : (Ty.sl (Ty.i .i64)).rep w v_a a) (r_k1 : InR .i64 k1) {res : Int} (h : p_laws_heldInt64S a k1  = some res) :
    Ret Try.prog 46 #[v_a, (Value.int .i64 k1)] w (fun v w' => v = Value.int .i64 res ∧ InR .i64 res ∧ Ext w w') := by
  unfold p_laws_heldInt64S at h
  have hS0 : St w w [] := St.start w
  refine Ret.start (fn := Try.f46) Try.func46 rfl 21 rfl rfl ?_
  refine W.seq (W.region ?_)
  refine WL.val (Value.int .i64 (0 : Int)) _ (op_assign rfl) rfl ?_
  refine WL.nil ?_
  show W _ _ _ _ _ _
  refine W.seq (W.seq (W.region ?_))
  refine WL.val (Value.int .i64 (0 : Int)) _ (op_assign rfl) rfl ?_
  refine WL.nil ?_
  show W _ _ _ _ _ _
  obtain ⟨res1, hres2, h⟩ := bs h
  refine W.blockLoop (fun fq wq => ∃ s, res1 = Res.fin s ∧ fq 1 = Value.int .i64 s ∧ InR .i64 s ∧ St w wq []) ?_ ?_
  · refine W.forN (fun k (s : Int) fq wq => fq 0 = v_a ∧ fq 1 = Value.int .i64 s ∧ InR .i64 s ∧ fq 5 = Value.int .i64 (k : Int) ∧ InR .i64 (k : Int) ∧ St w wq []) hres2 ⟨rfl, rfl, r_k1, rfl, (inR_i64.2 (show (-9223372036854775808 : Int) ≤ 0 ∧ (0 : Int) ≤ 9223372036854775807 from by decide)), hS0⟩ ?_ ?_
    · intro k3 x4 ct5 f6 wd7 hk8 hb9 hI10 hbrk11 hret12
      replace hI10 : f6 0 = v_a ∧ f6 1 = Value.int .i64 x4 ∧ InR .i64 x4 ∧ f6 5 = Value.int .i64 (k3 : Int) ∧ InR .i64 (k3 : Int) ∧ St w wd7 [] := hI10
      replace hb9 : p_laws_heldInt64S_L1 a k3 x4 = some ct5 := hb9
      unfold p_laws_heldInt64S_L1 at hb9
      obtain ⟨hf13, hf14, hr15, hf16, hr17, hS18⟩ := hI10
      refine W.seq (W.seq (W.region ?_))
      refine WL.val (Value.int .i64 (k3 : Int)) _ (op_move hf16) rfl ?_
      refine WL.val v_a _ (op_move hf13) rfl ?_
      have hr19 := inR_len (Ty.lift _ hS18.ext r_a)
      refine WL.val (Value.int .i64 ((a).length : Int)) _ (op_lenL sl_22 (Ty.lift _ hS18.ext r_a) rfl) rfl ?_
      refine WL.val (Value.bool (decide ((k3 : Int) < ((a).length : Int)))) _ (op_lss rfl rfl) rfl ?_
      have hl20 : (k3 : Int) < ((a).length : Int) := by omega
      refine WL.nil ?_
      show W _ _ _ _ _ _
      refine W.condT (decide ((k3 : Int) < ((a).length : Int))) rfl (decide_eq_true hl20) ?_
      refine W.skip ?_
      show W _ _ _ _ _ _
      refine W.seq ?_
      refine W.block ?_
      refine W.seq (W.seq (W.region ?_))
      refine WL.val v_a _ (op_move hf13) rfl ?_
      refine WL.val (Value.int .i64 (k3 : Int)) _ (op_move hf16) rfl ?_
      obtain ⟨x22, hx25, hb9⟩ := bs hb9
      obtain ⟨ha23, hb24, hx25⟩ := idx_some hx25
      refine WL.val (Value.pointer (some (elA v_a ((k3 : Int)).toNat))) _ (op_idx sl_22 (Ty.lift _ hS18.ext r_a) rfl rfl ha23 hb24) rfl ?_
      obtain ⟨u26, hc27, hr28⟩ := repSl.el r_a hx25
      obtain ⟨rfl, hr28⟩ := hr28
      refine WL.val (Value.int .i64 x22) _ (op_load one_2 rfl (Ext.cell hS18.ext hc27)) rfl ?_
      refine WL.val (Value.int .i64 x4) _ (op_move hf14) rfl ?_
      refine WL.val (Value.bool (x22 != x4)) _ (op_neq rfl rfl) rfl ?_
      refine WL.nil ?_
      show W _ _ _ _ _ _
      refine W.cond (x22 != x4) rfl (fun hc29 => ?_) (fun hc29 => ?_)
      · replace hb9 := ip hb9 hc29
        refine W.seq (W.region ?_)
        refine WL.val (Value.int .i64 (-1 : Int)) _ (op_assign rfl) rfl ?_
        refine WL.nil ?_
        show W _ _ _ _ _ _
        refine W.ret ?_
        obtain rfl := Option.some.inj hb9
        obtain rfl := hret12 _ rfl
        replace h := onRes_ret h
        obtain rfl := Option.some.inj h
        show FinP _ _ _ _ _ _ _
        exact FinP.ret _ (res1 rfl rfl) ⟨rfl, (inR_i64.2 (show (-9223372036854775808 : Int) ≤ -1 ∧ (-1 : Int) ≤ 9223372036854775807 from by decide)), hS18.ext⟩
      · replace hb9 := inegb hb9 hc29
        refine W.skip ?_
        show W _ _ _ _ _ _
        refine W.region ?_
        refine WL.val (Value.int .i64 x4) _ (op_move hf14) rfl ?_
        refine WL.val (Value.int .i64 (w64 (x4 + (1 : Int)))) _ (op_add rfl rfl) rfl ?_
        refine WL.val (Value.int .i64 (w64 (x4 + (1 : Int)))) _ (op_assign rfl) rfl ?_
        refine WL.nil ?_
        show W _ _ _ _ _ _
        refine W.region ?_
        refine WL.val (Value.int .i64 (k3 : Int)) _ (op_move hf16) rfl ?_
        refine WL.val (Value.int .i64 (w64 ((k3 : Int) + (1 : Int)))) _ (op_add rfl rfl) rfl ?_
        refine WL.val (Value.int .i64 (w64 ((k3 : Int) + (1 : Int)))) _ (op_assign rfl) rfl ?_
        refine WL.nil ?_
        obtain rfl := Option.some.inj hb9
        show ∃ s, _ = Ctl.next s ∧ _
        exact ⟨_, rfl, hf13, rfl, (inR_wrap _ _), (ctr_next hl20 hr19), (ctr_rng hl20 hr19), hS18⟩
    · intro x37 f32 wd33 hs34 hI35
      replace hI35 : f32 0 = v_a ∧ f32 1 = Value.int .i64 x37 ∧ InR .i64 x37 ∧ f32 5 = Value.int .i64 (((a).length : Nat) : Int) ∧ InR .i64 (((a).length : Nat) : Int) ∧ St w wd33 [] := hI35
      obtain ⟨hf38, hf39, hr40, hf41, hr42, hS43⟩ := hI35
      refine W.seq (W.seq (W.region ?_))
      refine WL.val (Value.int .i64 (((a).length : Nat) : Int)) _ (op_move hf41) rfl ?_
      refine WL.val v_a _ (op_move hf38) rfl ?_
      have hr44 := inR_len (Ty.lift _ hS43.ext r_a)
      refine WL.val (Value.int .i64 ((a).length : Int)) _ (op_lenL sl_22 (Ty.lift _ hS43.ext r_a) rfl) rfl ?_
      refine WL.val (Value.bool (decide ((((a).length : Nat) : Int) < ((a).length : Int)))) _ (op_lss rfl rfl) rfl ?_
      have hl45 : ¬ (((a).length : Nat) : Int) < ((a).length : Int) := by omega
      refine WL.nil ?_
      show W _ _ _ _ _ _
      refine W.condF (decide ((((a).length : Nat) : Int) < ((a).length : Int))) rfl (decide_eq_false hl45) ?_
      refine W.exit ?_
      show _ = _ ∧ _
      exact ⟨rfl, _, hs34, hf39, hr40, hS43⟩
  · rintro f46 wd47 ⟨x50, rfl, hq48⟩
    replace h := onRes_fin h
    replace hq48 : f46 1 = Value.int .i64 x50 ∧ InR .i64 x50 ∧ St w wd47 [] := hq48
    obtain ⟨hf51, hr52, hS53⟩ := hq48
    show W _ _ _ _ _ _
    refine W.seq (W.region ?_)
    refine WL.val (Value.int .i64 x50) _ (op_move hf51) rfl ?_
    refine WL.val (Value.int .i64 x50) _ (op_assign rfl) rfl ?_
    refine WL.nil ?_
    show W _ _ _ _ _ _
    refine W.ret ?_
    obtain rfl := Option.some.inj h
    show FinP _ _ _ _ _ _ _
    exact FinP.ret _ (res1 rfl rfl) ⟨rfl, hr52, hS53.ext⟩

theorem c_laws_heldInt64SS {w : World} {a : (List (List Int))} {v_a : Value} {k1 : Int} (r_a : (Ty.sl (Ty.sl (Ty.i .i64))).rep w v_a a) (r_k1 : InR .i64 k1) {res : Int} (h : p_laws_heldInt64SS a k1  = some res) :
    Ret Try.prog 16 #[v_a, (Value.int .i64 k1)] w (fun v w' => v = Value.int .i64 res ∧ InR .i64 res ∧ Ext w w') := by
  unfold p_laws_heldInt64SS at h
  have hS0 : St w w [] := St.start w
  refine Ret.start (fn := Try.f16) Try.func16 rfl 21 rfl rfl ?_
  refine W.seq (W.region ?_)
  refine WL.val (Value.int .i64 (0 : Int)) _ (op_assign rfl) rfl ?_
  refine WL.nil ?_
  show W _ _ _ _ _ _
  refine W.seq (W.seq (W.region ?_))
  refine WL.val (Value.int .i64 (0 : Int)) _ (op_assign rfl) rfl ?_
  refine WL.nil ?_
  show W _ _ _ _ _ _
  obtain ⟨res1, hres2, h⟩ := bs h
  refine W.blockLoop (fun fq wq => ∃ s, res1 = Res.fin s ∧ fq 1 = Value.int .i64 s ∧ InR .i64 s ∧ St w wq []) ?_ ?_
  · refine W.forN (fun k (s : Int) fq wq => fq 0 = v_a ∧ fq 1 = Value.int .i64 s ∧ InR .i64 s ∧ fq 5 = Value.int .i64 (k : Int) ∧ InR .i64 (k : Int) ∧ St w wq []) hres2 ⟨rfl, rfl, r_k1, rfl, (inR_i64.2 (show (-9223372036854775808 : Int) ≤ 0 ∧ (0 : Int) ≤ 9223372036854775807 from by decide)), hS0⟩ ?_ ?_
    · intro k3 x4 ct5 f6 wd7 hk8 hb9 hI10 hbrk11 hret12
      replace hI10 : f6 0 = v_a ∧ f6 1 = Value.int .i64 x4 ∧ InR .i64 x4 ∧ f6 5 = Value.int .i64 (k3 : Int) ∧ InR .i64 (k3 : Int) ∧ St w wd7 [] := hI10
      replace hb9 : p_laws_heldInt64SS_L1 a k3 x4 = some ct5 := hb9
      unfold p_laws_heldInt64SS_L1 at hb9
      obtain ⟨hf13, hf14, hr15, hf16, hr17, hS18⟩ := hI10
      refine W.seq (W.seq (W.region ?_))
      refine WL.val (Value.int .i64 (k3 : Int)) _ (op_move hf16) rfl ?_
      refine WL.val v_a _ (op_move hf13) rfl ?_
      have hr19 := inR_len (Ty.lift _ hS18.ext r_a)
      refine WL.val (Value.int .i64 ((a).length : Int)) _ (op_lenL sl_27 (Ty.lift _ hS18.ext r_a) rfl) rfl ?_
      refine WL.val (Value.bool (decide ((k3 : Int) < ((a).length : Int)))) _ (op_lss rfl rfl) rfl ?_
      have hl20 : (k3 : Int) < ((a).length : Int) := by omega
      refine WL.nil ?_
      show W _ _ _ _ _ _
      refine W.condT (decide ((k3 : Int) < ((a).length : Int))) rfl (decide_eq_true hl20) ?_
      refine W.skip ?_
      show W _ _ _ _ _ _
      refine W.seq ?_
      refine W.block ?_
      refine W.seq (W.region ?_)
      refine WL.val v_a _ (op_move hf13) rfl ?_
      refine WL.val (Value.int .i64 (k3 : Int)) _ (op_move hf16) rfl ?_
      obtain ⟨x22, hx25, hb9⟩ := bs hb9
      obtain ⟨ha23, hb24, hx25⟩ := idx_some hx25
      refine WL.val (Value.pointer (some (elA v_a ((k3 : Int)).toNat))) _ (op_idx sl_27 (Ty.lift _ hS18.ext r_a) rfl rfl ha23 hb24) rfl ?_
      obtain ⟨u26, hc27, hr28⟩ := repSl.el r_a hx25
      refine WL.val u26 _ (op_load one_22 rfl (Ext.cell hS18.ext hc27)) rfl ?_
      refine WL.val (Value.int .i64 x4) _ (op_move hf14) rfl ?_
      obtain ⟨x29, hx30, hb9⟩ := bs hb9
      refine WL.call _ (op_call fn_46 (args2 rfl rfl)) (c_laws_heldInt64S (Ty.lift _ hS18.ext hr28) hr15 hx30) rfl ?_
      rintro _ wd32 ⟨rfl, hr31, he33⟩
      have hS35 := St.extend hS18 he33
      replace hS35 : St w wd32 [] := hS35
      refine WL.val (Value.int .i64 x29) _ (op_assign rfl) rfl ?_
      refine WL.nil ?_
      show W _ _ _ _ _ _
      refine W.seq (W.region ?_)
      refine WL.val (Value.int .i64 x29) _ (op_move rfl) rfl ?_
      refine WL.val (Value.bool (decide (x29 < (0 : Int)))) _ (op_lss rfl rfl) rfl ?_
      refine WL.nil ?_
      show W _ _ _ _ _ _
      refine W.cond (decide (x29 < (0 : Int))) rfl (fun hc36 => ?_) (fun hc36 => ?_)
      · replace hb9 := ip hb9 hc36
        refine W.seq (W.region ?_)
        refine WL.val (Value.int .i64 (-1 : Int)) _ (op_assign rfl) rfl ?_
        refine WL.nil ?_
        show W _ _ _ _ _ _
        refine W.ret ?_
        obtain rfl := Option.some.inj hb9
        obtain rfl := hret12 _ rfl
        replace h := onRes_ret h
        obtain rfl := Option.some.inj h
        show FinP _ _ _ _ _ _ _
        exact FinP.ret _ (res1 rfl rfl) ⟨rfl, (inR_i64.2 (show (-9223372036854775808 : Int) ≤ -1 ∧ (-1 : Int) ≤ 9223372036854775807 from by decide)), hS35.ext⟩
      · replace hb9 := inegb hb9 hc36
        refine W.skip ?_
        show W _ _ _ _ _ _
        refine W.region ?_
        refine WL.val (Value.int .i64 (k3 : Int)) _ (op_move hf16) rfl ?_
        refine WL.val (Value.int .i64 (w64 ((k3 : Int) + (1 : Int)))) _ (op_add rfl rfl) rfl ?_
        refine WL.val (Value.int .i64 (w64 ((k3 : Int) + (1 : Int)))) _ (op_assign rfl) rfl ?_
        refine WL.nil ?_
        obtain rfl := Option.some.inj hb9
        show ∃ s, _ = Ctl.next s ∧ _
        exact ⟨_, rfl, hf13, rfl, hr31, (ctr_next hl20 hr19), (ctr_rng hl20 hr19), hS35⟩
    · intro x44 f39 wd40 hs41 hI42
      replace hI42 : f39 0 = v_a ∧ f39 1 = Value.int .i64 x44 ∧ InR .i64 x44 ∧ f39 5 = Value.int .i64 (((a).length : Nat) : Int) ∧ InR .i64 (((a).length : Nat) : Int) ∧ St w wd40 [] := hI42
      obtain ⟨hf45, hf46, hr47, hf48, hr49, hS50⟩ := hI42
      refine W.seq (W.seq (W.region ?_))
      refine WL.val (Value.int .i64 (((a).length : Nat) : Int)) _ (op_move hf48) rfl ?_
      refine WL.val v_a _ (op_move hf45) rfl ?_
      have hr51 := inR_len (Ty.lift _ hS50.ext r_a)
      refine WL.val (Value.int .i64 ((a).length : Int)) _ (op_lenL sl_27 (Ty.lift _ hS50.ext r_a) rfl) rfl ?_
      refine WL.val (Value.bool (decide ((((a).length : Nat) : Int) < ((a).length : Int)))) _ (op_lss rfl rfl) rfl ?_
      have hl52 : ¬ (((a).length : Nat) : Int) < ((a).length : Int) := by omega
      refine WL.nil ?_
      show W _ _ _ _ _ _
      refine W.condF (decide ((((a).length : Nat) : Int) < ((a).length : Int))) rfl (decide_eq_false hl52) ?_
      refine W.exit ?_
      show _ = _ ∧ _
      exact ⟨rfl, _, hs41, hf46, hr47, hS50⟩
  · rintro f53 wd54 ⟨x57, rfl, hq55⟩
    replace h := onRes_fin h
    replace hq55 : f53 1 = Value.int .i64 x57 ∧ InR .i64 x57 ∧ St w wd54 [] := hq55
    obtain ⟨hf58, hr59, hS60⟩ := hq55
    show W _ _ _ _ _ _
    refine W.seq (W.region ?_)
    refine WL.val (Value.int .i64 x57) _ (op_move hf58) rfl ?_
    refine WL.val (Value.int .i64 x57) _ (op_assign rfl) rfl ?_
    refine WL.nil ?_
    show W _ _ _ _ _ _
    refine W.ret ?_
    obtain rfl := Option.some.inj h
    show FinP _ _ _ _ _ _ _
    exact FinP.ret _ (res1 rfl rfl) ⟨rfl, hr59, hS60.ext⟩

theorem c_spec_l01Own {w : World} {list : (List Int)} {v_list : Value} (r_list : (Ty.sl (Ty.i .i64)).rep w v_list list) {res : (List Int)} (h : p_spec_l01Own list  = some res) :
    Ret Try.prog 87 #[v_list] w (fun v w' => ∃ (u0 : Value), v = u0 ∧ Ext w w' ∧ Sep w.heap.size w' [(Ty.sl (Ty.i .i64)).at u0 res]) := by
  unfold p_spec_l01Own at h
  have hS0 : St w w [] := St.start w
  refine Ret.start (fn := Try.f87) Try.func87 rfl 6 rfl rfl ?_
  refine W.seq (W.region ?_)
  refine WL.val (Value.slice none 0 0) _ (op_assign rfl) rfl ?_
  refine WL.nil ?_
  show W _ _ _ _ _ _
  refine W.seq (W.region ?_)
  refine WL.lit0 (t := (Ty.i .i64)) hS0 sl_22 rfl rfl ?_
  intro u1 wd2 hS3 he4
  replace hS3 : St w wd2 [(Ty.sl (Ty.i .i64)).at u1 ([] : (List Int))] := hS3
  refine WL.val v_list _ (op_move rfl) rfl ?_
  obtain ⟨x5, hx6, h⟩ := bs h
  refine WL.append (flat_i .i64) hS3 (k := 0) rfl sl_22 rfl rfl rfl rfl (Ty.lift _ hS3.ext r_list) hx6 rfl ?_
  intro u7 wd8 hS9 hz10
  replace hS9 : St w wd8 [(Ty.sl (Ty.i .i64)).at u7 x5] := hS9
  refine WL.val u7 _ (op_assign rfl) rfl ?_
  refine WL.nil ?_
  show W _ _ _ _ _ _
  refine W.ret ?_
  obtain rfl := Option.some.inj h
  show FinP _ _ _ _ _ _ _
  exact FinP.ret _ (res1 rfl rfl) ⟨u7, rfl, hS9.ext, (St.out (St.pick hS9 [0] rfl) (Ext.refl _))⟩

theorem c_slices_Clone_Lint64_int64 {w : World} {s1 : (List Int)} {v_s1 : Value} (r_s1 : (Ty.sl (Ty.i .i64)).rep w v_s1 s1) {res : (List Int)} (h : p_slices_Clone_Lint64_int64 s1  = some res) :
    Ret Try.prog 100 #[v_s1] w (fun v w' => ∃ (u0 : Value), v = u0 ∧ Ext w w' ∧ Sep w.heap.size w' [(Ty.sl (Ty.i .i64)).at u0 res]) := by
  unfold p_slices_Clone_Lint64_int64 at h
  have hS0 : St w w [] := St.start w
  obtain ⟨p0, c0, hv0, hl10, hl20, hp0, hel0⟩ := id r_s1
  refine Ret.start (fn := Try.f100) Try.func100 rfl 8 rfl rfl ?_
  refine W.seq (W.region ?_)
  refine WL.val (Value.slice none 0 0) _ (op_assign rfl) rfl ?_
  refine WL.nil ?_
  show W _ _ _ _ _ _
  refine W.seq (W.seq (W.region ?_))
  refine WL.val v_s1 _ (op_move rfl) rfl ?_
  refine WL.val (Value.bool p0.isNone) _ (op_eqlNil (Eq.trans rfl hv0) rfl sl_22.1) rfl ?_
  refine WL.nil ?_
  show W _ _ _ _ _ _
  refine W.cond p0.isNone rfl (fun hc1 => ?_) (fun hc1 => ?_)
  · obtain rfl : p0 = none := by cases p0 <;> simp_all
    obtain rfl : s1 = [] := Classical.byContradiction fun hn => hp0 hn rfl
    simp [appL] at h
    subst h
    refine W.seq (W.region ?_)
    refine WL.val (Value.slice none 0 0) _ (op_assign rfl) rfl ?_
    refine WL.nil ?_
    show W _ _ _ _ _ _
    refine W.ret ?_
    show FinP _ _ _ _ _ _ _
    exact FinP.ret _ (res1 rfl rfl) ⟨(Value.slice none 0 0), rfl, hS0.ext, (St.out (St.pick (St.addNil (Ty.i .i64) hS0) [0] rfl) (Ext.refl _))⟩
  · refine W.skip ?_
    show W _ _ _ _ _ _
    refine W.seq (W.region ?_)
    refine WL.lit0 (t := (Ty.i .i64)) hS0 sl_22 rfl rfl ?_
    intro u2 wd3 hS4 he5
    replace hS4 : St w wd3 [(Ty.sl (Ty.i .i64)).at u2 ([] : (List Int))] := hS4
    refine WL.val v_s1 _ (op_move rfl) rfl ?_
    obtain ⟨x6, hx7, h⟩ := bs h
    refine WL.append (flat_i .i64) hS4 (k := 0) rfl sl_22 rfl rfl rfl rfl (Ty.lift _ hS4.ext r_s1) hx7 rfl ?_
    intro u8 wd9 hS10 hz11
    replace hS10 : St w wd9 [(Ty.sl (Ty.i .i64)).at u8 x6] := hS10
    refine WL.val u8 _ (op_assign rfl) rfl ?_
    refine WL.nil ?_
    show W _ _ _ _ _ _
    refine W.ret ?_
    obtain rfl := Option.some.inj h
    show FinP _ _ _ _ _ _ _
    exact FinP.ret _ (res1 rfl rfl) ⟨u8, rfl, hS10.ext, (St.out (St.pick hS10 [0] rfl) (Ext.refl _))⟩

end Go.VG
