/- The walks, part 4: each Go function returns what its plain twin returns. No condition beyond what each names. -/
import Derived.Test.YtaghjfegbooceaaDoorGWalk3
set_option linter.all false
namespace Go.VG
open Go.Proofs
attribute [local irreducible] W WL Sep FinP

theorem c_impl_AdjointSeries {w : World} {r_Table : (List (List (List Int)))} {v_r_Table : Value} (tb : TabAt w) (r_r_Table : (Ty.sl (Ty.sl (Ty.sl (Ty.i .i64)))).rep w v_r_Table r_Table) {res : (List Int) × Int} (h : p_impl_AdjointSeries r_Table  = some res) :
    Ret Tryd.prog 16 #[(Value.agg #[v_r_Table])] w (fun v w' => ∃ (u0 : Value), v = (Value.tuple #[u0, Value.int .i64 res.2]) ∧ InR .i64 res.2 ∧ Ext w w' ∧ Sep w.heap.size w' [(Ty.sl (Ty.i .i64)).at u0 res.1]) := by
  unfold p_impl_AdjointSeries at h
  have hS0 : St w w [] := St.start w
  refine Ret.start (fn := Tryd.f16) Tryd.func16 rfl 9 rfl rfl ?_
  refine W.seq (W.region ?_)
  refine WL.box hS0 rfl (cs := [v_r_Table]) rfl rfl ?_
  intro b1 wd2 hS3 he4 hx5
  replace hS3 : St w wd2 [bx b1 [v_r_Table]] := hS3
  have hx6 := St.boxAt hS3 0 rfl
  have hE7 : Ext w wd2 := hS3.ext
  have hS8 : St wd2 wd2 [] := St.start wd2
  refine WL.val (Value.slice none 0 0) _ (op_assign rfl) rfl ?_
  refine WL.val (Value.int .i64 (0 : Int)) _ (op_assign rfl) rfl ?_
  refine WL.nil ?_
  refine W.seq (W.seq (W.region ?_))
  refine WL.val (Value.agg #[v_r_Table]) _ (op_loadBox st_26 rfl (BoxAt.lift hS8.ext hx6) rfl rfl) rfl ?_
  obtain ⟨x9, hx10, h⟩ := bs h
  refine WL.call _ (op_call fn_42 (args1 rfl)) (c_impl_IsRing (Ty.lift _ (Ext.trans hE7 hS8.ext) r_r_Table) hx10) rfl ?_
  rintro _ wd11 ⟨rfl, he12⟩
  have hS14 := St.extend hS8 he12
  replace hS14 : St wd2 wd11 [] := hS14
  refine WL.val (Value.bool (!x9)) _ (op_not rfl) rfl ?_
  refine WL.nil ?_
  refine W.cond (!x9) rfl (fun hc15 => ?_) (fun hc15 => ?_)
  · replace h := ip h hc15
    refine W.seq (W.region ?_)
    refine WL.val (Value.slice none 0 0) _ (op_assign rfl) rfl ?_
    refine WL.val (Value.int .i64 (1 : Int)) _ (op_assign rfl) rfl ?_
    refine WL.nil ?_
    refine W.ret ?_
    obtain rfl := Option.some.inj h
    show FinP _ _ _ _ _ _ _
    exact FinP.ret _ (res2 rfl rfl rfl) ⟨(Value.slice none 0 0), rfl, (inL rfl), (Ext.trans hE7 hS14.ext), (St.out (St.pick (St.addNil (Ty.i .i64) hS14) [0] rfl) (hE7))⟩
  · replace h := inegb h hc15
    refine W.skip ?_
    refine W.seq (W.region ?_)
    refine WL.val (Value.agg #[v_r_Table]) _ (op_loadBox st_26 rfl (BoxAt.lift hS14.ext hx6) rfl rfl) rfl ?_
    obtain ⟨x17, hx18, h⟩ := bs h
    refine WL.call _ (op_call fn_43 (args1 rfl)) (c_impl_Ring_series (tb.ext (Ext.trans hE7 hS14.ext)) (Ty.lift _ (Ext.trans hE7 hS14.ext) r_r_Table) hx18) rfl ?_
    rintro u19 wd20 ⟨_, rfl, he21, hs22⟩
    have hS23 := St.join hS14 he21 hs22
    replace hS23 : St wd2 wd20 [(Ty.sl (Ty.i .i64)).at u19 x17] := hS23
    refine WL.val u19 _ (op_assign rfl) rfl ?_
    refine WL.val (Value.int .i64 (0 : Int)) _ (op_assign rfl) rfl ?_
    refine WL.nil ?_
    refine W.ret ?_
    obtain rfl := Option.some.inj h
    show FinP _ _ _ _ _ _ _
    exact FinP.ret _ (res2 rfl rfl rfl) ⟨u19, rfl, (inL rfl), (Ext.trans hE7 hS23.ext), (St.out (St.pick hS23 [0] rfl) (hE7))⟩

theorem c_spec_NilpotencyClass {w : World} {r_Table : (List (List (List Int)))} {v_r_Table : Value} (r_r_Table : (Ty.sl (Ty.sl (Ty.sl (Ty.i .i64)))).rep w v_r_Table r_Table) {res : Int × Int} (h : p_spec_NilpotencyClass r_Table  = some res) :
    Ret Tryd.prog 20 #[(Value.agg #[v_r_Table])] w (fun v w' => v = (Value.tuple #[Value.int .i64 res.1, Value.int .i64 res.2]) ∧ InR .i64 res.1 ∧ InR .i64 res.2 ∧ Ext w w') := by
  unfold p_spec_NilpotencyClass at h
  have hS0 : St w w [] := St.start w
  refine Ret.start (fn := Tryd.f20) Tryd.func20 rfl 26 rfl rfl ?_
  refine W.seq (W.region ?_)
  refine WL.box hS0 rfl (cs := [v_r_Table]) rfl rfl ?_
  intro b1 wd2 hS3 he4 hx5
  replace hS3 : St w wd2 [bx b1 [v_r_Table]] := hS3
  have hx6 := St.boxAt hS3 0 rfl
  have hE7 : Ext w wd2 := hS3.ext
  have hS8 : St wd2 wd2 [] := St.start wd2
  refine WL.val (Value.int .i64 (0 : Int)) _ (op_assign rfl) rfl ?_
  refine WL.val (Value.int .i64 (0 : Int)) _ (op_assign rfl) rfl ?_
  refine WL.nil ?_
  refine W.seq (W.region ?_)
  refine WL.val (Value.agg #[v_r_Table]) _ (op_loadBox st_26 rfl (BoxAt.lift hS8.ext hx6) rfl rfl) rfl ?_
  obtain ⟨x9, hx10, h⟩ := bs h
  refine WL.call _ (op_call fn_15 (args1 rfl)) (c_spec_AdjointSeries (Ty.lift _ (Ext.trans hE7 hS8.ext) r_r_Table) hx10) rfl ?_
  rintro _ wd13 ⟨u11, rfl, hr12, he14, hs15⟩
  have hS16 := St.join hS8 he14 hs15
  replace hS16 : St wd2 wd13 [(Ty.sl (Ty.i .i64)).at u11 x9.1] := hS16
  refine WL.val (Value.tuple #[u11, (Value.int .i64 x9.2)]) _ (op_move rfl) rfl ?_
  refine WL.val u11 _ (op_extract rfl rfl) rfl ?_
  refine WL.val (Value.int .i64 x9.2) _ (op_extract rfl rfl) rfl ?_
  refine WL.val u11 _ (op_assign rfl) rfl ?_
  refine WL.val (Value.int .i64 x9.2) _ (op_assign rfl) rfl ?_
  refine WL.nil ?_
  refine W.seq ?_
  refine W.block ?_
  refine W.seq (W.region ?_)
  refine WL.val (Value.int .i64 x9.2) _ (op_move rfl) rfl ?_
  refine WL.val (Value.bool (x9.2 != (0 : Int))) _ (op_neq rfl rfl) rfl ?_
  refine WL.val (Value.bool (x9.2 != (0 : Int))) _ (op_assign rfl) rfl ?_
  refine WL.nil ?_
  refine W.cond (x9.2 != (0 : Int)) rfl (fun hc17 => ?_) (fun hc17 => ?_)
  · replace h := ip h hc17
    refine W.seq (W.region ?_)
    refine WL.val (Value.int .i64 x9.2) _ (op_move rfl) rfl ?_
    refine WL.val (Value.int .i64 (0 : Int)) _ (op_assign rfl) rfl ?_
    refine WL.val (Value.int .i64 x9.2) _ (op_assign rfl) rfl ?_
    refine WL.nil ?_
    refine W.ret ?_
    obtain rfl := Option.some.inj h
    show FinP _ _ _ _ _ _ _
    exact FinP.ret _ (res2 rfl rfl rfl) ⟨rfl, (inL rfl), hr12, (Ext.trans hE7 hS16.ext)⟩
  · replace h := inegb h hc17
    refine W.seq (W.region ?_)
    refine WL.val u11 _ (op_move rfl) rfl ?_
    refine WL.val u11 _ (op_move rfl) rfl ?_
    have hr19 := inR_len (St.rep (t := (Ty.sl (Ty.i .i64))) hS16 0 rfl)
    refine WL.val (Value.int .i64 ((x9.1).length : Int)) _ (op_lenL sl_33 (St.rep (t := (Ty.sl (Ty.i .i64))) hS16 0 rfl) rfl) rfl ?_
    refine WL.val (Value.int .i64 (w64 (((x9.1).length : Int) - (1 : Int)))) _ (op_sub rfl rfl) rfl ?_
    obtain ⟨x20, hx23, h⟩ := bs h
    obtain ⟨ha21, hb22, hx23⟩ := idx_some hx23
    refine WL.val (Value.pointer (some (elA u11 ((w64 (((x9.1).length : Int) - (1 : Int)))).toNat))) _ (op_idx sl_33 (St.rep (t := (Ty.sl (Ty.i .i64))) hS16 0 rfl) rfl rfl ha21 hb22) rfl ?_
    obtain ⟨u24, hc25, hr26⟩ := repSl.el (St.rep (t := (Ty.sl (Ty.i .i64))) hS16 0 rfl) hx23
    obtain ⟨rfl, hr26⟩ := hr26
    refine WL.val (Value.int .i64 x20) _ (op_load one_2 rfl hc25) rfl ?_
    refine WL.val (Value.bool (x20 != (1 : Int))) _ (op_neq rfl rfl) rfl ?_
    refine WL.val (Value.bool (x20 != (1 : Int))) _ (op_assign rfl) rfl ?_
    refine WL.nil ?_
    refine W.cond (x20 != (1 : Int)) rfl (fun hc27 => ?_) (fun hc27 => ?_)
    · replace h := ip h hc27
      refine W.seq (W.region ?_)
      refine WL.val (Value.int .i64 (0 : Int)) _ (op_assign rfl) rfl ?_
      refine WL.val (Value.int .i64 (4 : Int)) _ (op_assign rfl) rfl ?_
      refine WL.nil ?_
      refine W.ret ?_
      obtain rfl := Option.some.inj h
      show FinP _ _ _ _ _ _ _
      exact FinP.ret _ (res2 rfl rfl rfl) ⟨rfl, (inL rfl), (inL rfl), (Ext.trans hE7 hS16.ext)⟩
    · replace h := inegb h hc27
      refine W.skip ?_
      refine W.seq (W.region ?_)
      refine WL.val u11 _ (op_move rfl) rfl ?_
      have hr29 := inR_len (St.rep (t := (Ty.sl (Ty.i .i64))) hS16 0 rfl)
      refine WL.val (Value.int .i64 ((x9.1).length : Int)) _ (op_lenL sl_33 (St.rep (t := (Ty.sl (Ty.i .i64))) hS16 0 rfl) rfl) rfl ?_
      refine WL.val (Value.int .i64 (w64 (((x9.1).length : Int) - (1 : Int)))) _ (op_sub rfl rfl) rfl ?_
      refine WL.val (Value.int .i64 (w64 (((x9.1).length : Int) - (1 : Int)))) _ (op_assign rfl) rfl ?_
      refine WL.val (Value.int .i64 (0 : Int)) _ (op_assign rfl) rfl ?_
      refine WL.nil ?_
      refine W.ret ?_
      obtain rfl := Option.some.inj h
      show FinP _ _ _ _ _ _ _
      exact FinP.ret _ (res2 rfl rfl rfl) ⟨rfl, (inR_wrap _ _), (inL rfl), (Ext.trans hE7 hS16.ext)⟩

theorem c_impl_NilpotencyClass {w : World} {r_Table : (List (List (List Int)))} {v_r_Table : Value} (tb : TabAt w) (r_r_Table : (Ty.sl (Ty.sl (Ty.sl (Ty.i .i64)))).rep w v_r_Table r_Table) {res : Int × Int} (h : p_impl_NilpotencyClass r_Table  = some res) :
    Ret Tryd.prog 21 #[(Value.agg #[v_r_Table])] w (fun v w' => v = (Value.tuple #[Value.int .i64 res.1, Value.int .i64 res.2]) ∧ InR .i64 res.1 ∧ InR .i64 res.2 ∧ Ext w w') := by
  unfold p_impl_NilpotencyClass at h
  have hS0 : St w w [] := St.start w
  refine Ret.start (fn := Tryd.f21) Tryd.func21 rfl 24 rfl rfl ?_
  refine W.seq (W.region ?_)
  refine WL.box hS0 rfl (cs := [v_r_Table]) rfl rfl ?_
  intro b1 wd2 hS3 he4 hx5
  replace hS3 : St w wd2 [bx b1 [v_r_Table]] := hS3
  have hx6 := St.boxAt hS3 0 rfl
  have hE7 : Ext w wd2 := hS3.ext
  have hS8 : St wd2 wd2 [] := St.start wd2
  refine WL.val (Value.int .i64 (0 : Int)) _ (op_assign rfl) rfl ?_
  refine WL.val (Value.int .i64 (0 : Int)) _ (op_assign rfl) rfl ?_
  refine WL.nil ?_
  refine W.seq (W.region ?_)
  refine WL.val (Value.agg #[v_r_Table]) _ (op_loadBox st_26 rfl (BoxAt.lift hS8.ext hx6) rfl rfl) rfl ?_
  obtain ⟨x9, hx10, h⟩ := bs h
  refine WL.call _ (op_call fn_16 (args1 rfl)) (c_impl_AdjointSeries (tb.ext (Ext.trans hE7 hS8.ext)) (Ty.lift _ (Ext.trans hE7 hS8.ext) r_r_Table) hx10) rfl ?_
  rintro _ wd13 ⟨u11, rfl, hr12, he14, hs15⟩
  have hS16 := St.join hS8 he14 hs15
  replace hS16 : St wd2 wd13 [(Ty.sl (Ty.i .i64)).at u11 x9.1] := hS16
  refine WL.val (Value.tuple #[u11, (Value.int .i64 x9.2)]) _ (op_move rfl) rfl ?_
  refine WL.val u11 _ (op_extract rfl rfl) rfl ?_
  refine WL.val (Value.int .i64 x9.2) _ (op_extract rfl rfl) rfl ?_
  refine WL.val u11 _ (op_assign rfl) rfl ?_
  refine WL.val (Value.int .i64 x9.2) _ (op_assign rfl) rfl ?_
  refine WL.nil ?_
  refine W.seq (W.seq (W.region ?_))
  refine WL.val (Value.int .i64 x9.2) _ (op_move rfl) rfl ?_
  refine WL.val (Value.bool (x9.2 != (0 : Int))) _ (op_neq rfl rfl) rfl ?_
  refine WL.nil ?_
  refine W.cond (x9.2 != (0 : Int)) rfl (fun hc17 => ?_) (fun hc17 => ?_)
  · replace h := ip h hc17
    refine W.seq (W.region ?_)
    refine WL.val (Value.int .i64 x9.2) _ (op_move rfl) rfl ?_
    refine WL.val (Value.int .i64 (0 : Int)) _ (op_assign rfl) rfl ?_
    refine WL.val (Value.int .i64 x9.2) _ (op_assign rfl) rfl ?_
    refine WL.nil ?_
    refine W.ret ?_
    obtain rfl := Option.some.inj h
    show FinP _ _ _ _ _ _ _
    exact FinP.ret _ (res2 rfl rfl rfl) ⟨rfl, (inL rfl), hr12, (Ext.trans hE7 hS16.ext)⟩
  · replace h := inegb h hc17
    refine W.skip ?_
    refine W.seq (W.seq (W.region ?_))
    refine WL.val u11 _ (op_move rfl) rfl ?_
    refine WL.val u11 _ (op_move rfl) rfl ?_
    have hr19 := inR_len (St.rep (t := (Ty.sl (Ty.i .i64))) hS16 0 rfl)
    refine WL.val (Value.int .i64 ((x9.1).length : Int)) _ (op_lenL sl_33 (St.rep (t := (Ty.sl (Ty.i .i64))) hS16 0 rfl) rfl) rfl ?_
    refine WL.val (Value.int .i64 (w64 (((x9.1).length : Int) - (1 : Int)))) _ (op_sub rfl rfl) rfl ?_
    obtain ⟨x20, hx23, h⟩ := bs h
    obtain ⟨ha21, hb22, hx23⟩ := idx_some hx23
    refine WL.val (Value.pointer (some (elA u11 ((w64 (((x9.1).length : Int) - (1 : Int)))).toNat))) _ (op_idx sl_33 (St.rep (t := (Ty.sl (Ty.i .i64))) hS16 0 rfl) rfl rfl ha21 hb22) rfl ?_
    obtain ⟨u24, hc25, hr26⟩ := repSl.el (St.rep (t := (Ty.sl (Ty.i .i64))) hS16 0 rfl) hx23
    obtain ⟨rfl, hr26⟩ := hr26
    refine WL.val (Value.int .i64 x20) _ (op_load one_2 rfl hc25) rfl ?_
    refine WL.val (Value.bool (x20 != (1 : Int))) _ (op_neq rfl rfl) rfl ?_
    refine WL.nil ?_
    refine W.cond (x20 != (1 : Int)) rfl (fun hc27 => ?_) (fun hc27 => ?_)
    · replace h := ip h hc27
      refine W.seq (W.region ?_)
      refine WL.val (Value.int .i64 (0 : Int)) _ (op_assign rfl) rfl ?_
      refine WL.val (Value.int .i64 (4 : Int)) _ (op_assign rfl) rfl ?_
      refine WL.nil ?_
      refine W.ret ?_
      obtain rfl := Option.some.inj h
      show FinP _ _ _ _ _ _ _
      exact FinP.ret _ (res2 rfl rfl rfl) ⟨rfl, (inL rfl), (inL rfl), (Ext.trans hE7 hS16.ext)⟩
    · replace h := inegb h hc27
      refine W.skip ?_
      refine W.seq (W.region ?_)
      refine WL.val u11 _ (op_move rfl) rfl ?_
      have hr29 := inR_len (St.rep (t := (Ty.sl (Ty.i .i64))) hS16 0 rfl)
      refine WL.val (Value.int .i64 ((x9.1).length : Int)) _ (op_lenL sl_33 (St.rep (t := (Ty.sl (Ty.i .i64))) hS16 0 rfl) rfl) rfl ?_
      refine WL.val (Value.int .i64 (w64 (((x9.1).length : Int) - (1 : Int)))) _ (op_sub rfl rfl) rfl ?_
      refine WL.val (Value.int .i64 (w64 (((x9.1).length : Int) - (1 : Int)))) _ (op_assign rfl) rfl ?_
      refine WL.val (Value.int .i64 (0 : Int)) _ (op_assign rfl) rfl ?_
      refine WL.nil ?_
      refine W.ret ?_
      obtain rfl := Option.some.inj h
      show FinP _ _ _ _ _ _ _
      exact FinP.ret _ (res2 rfl rfl rfl) ⟨rfl, (inR_wrap _ _), (inL rfl), (Ext.trans hE7 hS16.ext)⟩

theorem c_laws_FnExactNilpotencyClass {w : World} {aR_Table : (List (List (List Int)))} {v_aR_Table : Value} (tb : TabAt w) (r_aR_Table : (Ty.sl (Ty.sl (Ty.sl (Ty.i .i64)))).rep w v_aR_Table aR_Table) {res : Bool} (h : p_laws_FnExactNilpotencyClass aR_Table  = some res) :
    Ret Tryd.prog 5 #[(Value.agg #[v_aR_Table])] w (fun v w' => v = Value.bool res ∧ Ext w w') := by
  unfold p_laws_FnExactNilpotencyClass at h
  have hS0 : St w w [] := St.start w
  refine Ret.start (fn := Tryd.f5) Tryd.func5 rfl 40 rfl rfl ?_
  refine W.seq (W.region ?_)
  refine WL.box hS0 rfl (cs := [v_aR_Table]) rfl rfl ?_
  intro b1 wd2 hS3 he4 hx5
  replace hS3 : St w wd2 [bx b1 [v_aR_Table]] := hS3
  have hx6 := St.boxAt hS3 0 rfl
  have hE7 : Ext w wd2 := hS3.ext
  have hS8 : St wd2 wd2 [] := St.start wd2
  refine WL.val (Value.bool false) _ (op_assign rfl) rfl ?_
  refine WL.nil ?_
  refine W.seq (W.region ?_)
  refine WL.val (Value.int .i64 (1048576 : Int)) _ (op_assign rfl) rfl ?_
  refine WL.nil ?_
  refine W.seq (W.region ?_)
  refine WL.val (Value.agg #[v_aR_Table]) _ (op_loadBox st_24 rfl (BoxAt.lift hS8.ext hx6) rfl rfl) rfl ?_
  refine WL.val (Value.int .i64 (1048576 : Int)) _ (op_move rfl) rfl ?_
  obtain ⟨x9, hx10, h⟩ := bs h
  refine WL.call _ (op_call fn_8 (args2 rfl rfl)) (c_laws_szRing (Ty.lift _ (Ext.trans hE7 hS8.ext) r_aR_Table) (inL rfl) hx10) rfl ?_
  rintro _ wd12 ⟨rfl, hr11, he13⟩
  have hS15 := St.extend hS8 he13
  replace hS15 : St wd2 wd12 [] := hS15
  refine WL.val (Value.int .i64 x9) _ (op_assign rfl) rfl ?_
  refine WL.nil ?_
  refine W.seq (W.seq (W.region ?_))
  refine WL.val (Value.int .i64 x9) _ (op_move rfl) rfl ?_
  refine WL.val (Value.bool (decide (x9 < (0 : Int)))) _ (op_lss rfl rfl) rfl ?_
  refine WL.nil ?_
  refine W.cond (decide (x9 < (0 : Int))) rfl (fun hc16 => ?_) (fun hc16 => ?_)
  · replace h := ip h hc16
    refine W.seq (W.region ?_)
    refine WL.val (Value.bool true) _ (op_assign rfl) rfl ?_
    refine WL.nil ?_
    refine W.ret ?_
    obtain rfl := Option.some.inj h
    show FinP _ _ _ _ _ _ _
    exact FinP.ret _ (res1 rfl rfl) ⟨rfl, (Ext.trans hE7 hS15.ext)⟩
  · replace h := inegb h hc16
    refine W.skip ?_
    refine W.seq (W.region ?_)
    refine WL.val (Value.agg #[v_aR_Table]) _ (op_loadBox st_24 rfl (BoxAt.lift hS15.ext hx6) rfl rfl) rfl ?_
    obtain ⟨x18, hx19, h⟩ := bs h
    refine WL.call _ (op_call fn_10 (args1 rfl)) (c_laws_toRing (Ty.lift _ (Ext.trans hE7 hS15.ext) r_aR_Table) hx19) rfl ?_
    rintro _ wd21 ⟨u20, rfl, he22, hs23⟩
    have hS24 := St.join hS15 he22 hs23
    replace hS24 : St wd2 wd21 [(Ty.sl (Ty.sl (Ty.sl (Ty.i .i64)))).at u20 x18] := hS24
    have hb25 := St.rep (t := (Ty.sl (Ty.sl (Ty.sl (Ty.i .i64))))) hS24 0 rfl
    have hE26 : Ext w wd21 := (Ext.trans hE7 hS24.ext)
    have hE27 : Ext wd2 wd21 := hS24.ext
    have hS28 : St wd21 wd21 [] := St.start wd21
    obtain ⟨x29, hx30, h⟩ := bs h
    refine WL.call _ (op_call fn_20 (args1 rfl)) (c_spec_NilpotencyClass (Ty.lift _ hS28.ext hb25) hx30) rfl ?_
    rintro _ wd33 ⟨rfl, hr31, hr32, he34⟩
    have hS36 := St.extend hS28 he34
    replace hS36 : St wd21 wd33 [] := hS36
    refine WL.val (Value.tuple #[(Value.int .i64 x29.1), (Value.int .i64 x29.2)]) _ (op_move rfl) rfl ?_
    refine WL.val (Value.int .i64 x29.1) _ (op_extract rfl rfl) rfl ?_
    refine WL.val (Value.int .i64 x29.2) _ (op_extract rfl rfl) rfl ?_
    refine WL.val (Value.int .i64 x29.1) _ (op_assign rfl) rfl ?_
    refine WL.val (Value.int .i64 x29.2) _ (op_assign rfl) rfl ?_
    refine WL.nil ?_
    refine W.seq (W.region ?_)
    refine WL.val (Value.agg #[v_aR_Table]) _ (op_loadBox st_24 rfl (BoxAt.lift (Ext.trans hE27 hS36.ext) hx6) rfl rfl) rfl ?_
    obtain ⟨x37, hx38, h⟩ := bs h
    refine WL.call _ (op_call fn_10 (args1 rfl)) (c_laws_toRing (Ty.lift _ (Ext.trans hE26 hS36.ext) r_aR_Table) hx38) rfl ?_
    rintro _ wd40 ⟨u39, rfl, he41, hs42⟩
    have hS43 := St.join hS36 he41 hs42
    replace hS43 : St wd21 wd40 [(Ty.sl (Ty.sl (Ty.sl (Ty.i .i64)))).at u39 x37] := hS43
    refine WL.alloc hS43 ze_26 (cs := [(Value.slice none 0 0)]) rfl rfl ?_
    intro b44 wd45 hS46 he47
    replace hS46 : St wd21 wd45 [(Ty.sl (Ty.sl (Ty.sl (Ty.i .i64)))).at u39 x37, bx b44 [(Value.slice none 0 0)]] := hS46
    refine WL.storeBox [u39] hS46 (k := 1) rfl rfl rfl (us := [u39]) rfl sz_26 rfl rfl (all_rep (St.rep (t := (Ty.sl (Ty.sl (Ty.sl (Ty.i .i64))))) hS46 0 rfl) all_nil) rfl ?_
    intro wd48 hS49
    replace hS49 : St wd21 wd48 [(Ty.sl (Ty.sl (Ty.sl (Ty.i .i64)))).at u39 x37, bx b44 [u39]] := hS49
    refine WL.nil ?_
    refine W.seq (W.region ?_)
    refine WL.val (Value.agg #[u39]) _ (op_loadBox st_26 rfl (St.boxAt hS49 1 rfl) rfl rfl) rfl ?_
    obtain ⟨x50, hx51, h⟩ := bs h
    refine WL.call _ (op_call fn_21 (args1 rfl)) (c_impl_NilpotencyClass (tb.ext (Ext.trans hE26 hS49.ext)) (St.rep (t := (Ty.sl (Ty.sl (Ty.sl (Ty.i .i64))))) hS49 0 rfl) hx51) rfl ?_
    rintro _ wd54 ⟨rfl, hr52, hr53, he55⟩
    have hS57 := St.extend hS49 he55
    replace hS57 : St wd21 wd54 [(Ty.sl (Ty.sl (Ty.sl (Ty.i .i64)))).at u39 x37, bx b44 [u39]] := hS57
    refine WL.val (Value.tuple #[(Value.int .i64 x50.1), (Value.int .i64 x50.2)]) _ (op_move rfl) rfl ?_
    refine WL.val (Value.int .i64 x50.1) _ (op_extract rfl rfl) rfl ?_
    refine WL.val (Value.int .i64 x50.2) _ (op_extract rfl rfl) rfl ?_
    refine WL.val (Value.int .i64 x50.1) _ (op_assign rfl) rfl ?_
    refine WL.val (Value.int .i64 x50.2) _ (op_assign rfl) rfl ?_
    refine WL.nil ?_
    refine W.seq (W.seq (W.region ?_))
    refine WL.val (Value.int .i64 x50.1) _ (op_move rfl) rfl ?_
    refine WL.val (Value.int .i64 x29.1) _ (op_move rfl) rfl ?_
    refine WL.val (Value.bool (x50.1 != x29.1)) _ (op_neq rfl rfl) rfl ?_
    refine WL.val (Value.bool (x50.1 != x29.1)) _ (op_move rfl) rfl ?_
    refine WL.cut 4 (fun fq wq => fq 1 = (Value.pointer (some ⟨b1, 0, none⟩)) ∧ fq 6 = (Value.pointer (some ⟨b44, 0, none⟩)) ∧ fq 34 = (Value.bool ((x50.1 != x29.1) || (x50.2 != x29.2))) ∧ St wd21 wq [(Ty.sl (Ty.sl (Ty.sl (Ty.i .i64)))).at u39 x37, bx b44 [u39]]) ?_ ?_
    · rcases Bool.eq_false_or_eq_true (x50.1 != x29.1) with hc58 | hc58
      · refine WL.gskip rfl (bool_of rfl hc58) rfl ?_
        refine WL.gskip rfl (bool_of rfl hc58) rfl ?_
        refine WL.gskip rfl (bool_of rfl hc58) rfl ?_
        refine WL.val (Value.bool true) _ (op_pick_t (evb_of rfl hc58) rfl) rfl ?_
        refine WL.nil ?_
        exact ⟨rfl, rfl, rfl, (orT hc58), hS57⟩
      · refine WL.grun rfl (bool_of rfl hc58) ?_
        refine WL.val (Value.int .i64 x50.2) _ (op_move rfl) rfl ?_
        refine WL.grun rfl (bool_of rfl hc58) ?_
        refine WL.val (Value.int .i64 x29.2) _ (op_move rfl) rfl ?_
        refine WL.grun rfl (bool_of rfl hc58) ?_
        refine WL.val (Value.bool (x50.2 != x29.2)) _ (op_neq rfl rfl) rfl ?_
        refine WL.val (Value.bool (x50.2 != x29.2)) _ (op_pick_f (evb_of rfl hc58) rfl) rfl ?_
        refine WL.nil ?_
        exact ⟨rfl, rfl, rfl, (orF hc58), hS57⟩
    · intro f59 wd60 hq61
      obtain ⟨hf62, hf63, hf64, hS65⟩ := hq61
      refine WL.nil ?_
      refine W.cond ((x50.1 != x29.1) || (x50.2 != x29.2)) hf64 (fun hc66 => ?_) (fun hc66 => ?_)
      · replace h := ip h hc66
        refine W.seq (W.region ?_)
        refine WL.val (Value.bool false) _ (op_assign rfl) rfl ?_
        refine WL.nil ?_
        refine W.ret ?_
        obtain rfl := Option.some.inj h
        show FinP _ _ _ _ _ _ _
        exact FinP.ret _ (res1 rfl rfl) ⟨rfl, (Ext.trans hE26 hS65.ext)⟩
      · replace h := inegb h hc66
        refine W.skip ?_
        refine W.seq (W.seq ?_)
        obtain ⟨x92, hx93, h⟩ := bs h
        refine W.drawR mixo 3 [] [fun _ v S w' => v = (Value.agg #[u39]), fun _ v S w' => v = (Value.agg #[v_aR_Table]), fun _ v S w' => ∃ (uu0 : Value), v = (Value.agg #[uu0]) ∧ SepS S w' [(Ty.sl (Ty.sl (Ty.sl (Ty.i .i64)))).at uu0 x92]] (by kernel_rfl) (by kernel_rfl) ⟨pk, pk, ⟨fun _ _ _ _ _ he ⟨uu0, h0, r0⟩ => ⟨uu0, h0, SepS.extend he r0⟩, fun _ _ _ _ _ _ h => h⟩, trivial⟩ ⟨?_, ?_, ?_, trivial⟩ ?_
        · refine ObX.op rfl fun f68 wd69 he70 hout71 hphi72 => ?_
          have hS73 := St.extend hS65 he70
          have e74 : f68 6 = (Value.pointer (some ⟨b44, 0, none⟩)) := (hout71 6 rfl).trans hf63
          exact OpX.val (Value.agg #[u39]) wd69 rfl (op_loadBox st_26 e74 (St.boxAt hS73 1 rfl) rfl rfl) (Ext.refl _) rfl
        · refine ObX.op rfl fun f75 wd76 he77 hout78 hphi79 => ?_
          have hS80 := St.extend hS65 he77
          have e81 : f75 1 = (Value.pointer (some ⟨b1, 0, none⟩)) := (hout78 1 rfl).trans hf62
          exact OpX.val (Value.agg #[v_aR_Table]) wd76 rfl (op_loadBox st_24 e81 (BoxAt.lift (Ext.trans hE27 hS80.ext) hx6) rfl rfl) (Ext.refl _) rfl
        · refine ObX.op rfl fun f82 wd83 he84 hout85 hphi86 => ?_
          have hS87 := St.extend hS65 he84
          obtain ⟨S88, hS89, hf90⟩ := hphi86 1 36 _ rfl rfl rfl
          have e91 : f82 36 = (Value.agg #[v_aR_Table]) := hf90
          refine OpX.call rfl (op_call fn_10 (args1 e91)) (Ret.mono (c_laws_toRing (Ty.lift _ (Ext.trans hE26 hS87.ext) r_aR_Table) hx93) ?_)
          rintro _ wd95 ⟨u94, rfl, he96, hs97⟩
          exact ⟨he96, _, newS _ _, ⟨u94, rfl, (Sep.new hs97)⟩⟩
        · intro f98 wd99 Ss100 he101 hout102 hSn103 hSd104 hphi105
          show WL _ _ _ _ _ _ _
          have e107 : f98 35 = (Value.agg #[u39]) := hphi105 0 35 _ (by decide) rfl rfl
          obtain ⟨u109, e108, e108s⟩ := hphi105 2 37 _ (by decide) rfl rfl
          have hS110 := St.joinS hS65 he101 hSn103 (SepS.consS hSd104 rfl e108s SepS.nilS)
          replace hS110 : St wd21 wd99 [(Ty.sl (Ty.sl (Ty.sl (Ty.i .i64)))).at u39 x37, bx b44 [u39], (Ty.sl (Ty.sl (Ty.sl (Ty.i .i64)))).at u109 x92] := hS110
          obtain ⟨x111, hx112, h⟩ := bs h
          refine WL.call _ (op_call fn_12 (args2 e107 e108)) (c_laws_eqRing (St.rep (t := (Ty.sl (Ty.sl (Ty.sl (Ty.i .i64))))) hS110 0 rfl) (St.rep (t := (Ty.sl (Ty.sl (Ty.sl (Ty.i .i64))))) hS110 2 rfl) hx112) rfl ?_
          rintro _ wd113 ⟨rfl, he114⟩
          have hS116 := St.extend hS110 he114
          replace hS116 : St wd21 wd113 [(Ty.sl (Ty.sl (Ty.sl (Ty.i .i64)))).at u39 x37, bx b44 [u39], (Ty.sl (Ty.sl (Ty.sl (Ty.i .i64)))).at u109 x92] := hS116
          refine WL.val (Value.bool (!x111)) _ (op_not rfl) rfl ?_
          refine WL.nil ?_
          refine W.cond (!x111) rfl (fun hc117 => ?_) (fun hc117 => ?_)
          · replace h := ip h hc117
            refine W.seq (W.region ?_)
            refine WL.val (Value.bool false) _ (op_assign rfl) rfl ?_
            refine WL.nil ?_
            refine W.ret ?_
            obtain rfl := Option.some.inj h
            show FinP _ _ _ _ _ _ _
            exact FinP.ret _ (res1 rfl rfl) ⟨rfl, (Ext.trans hE26 hS116.ext)⟩
          · replace h := inegb h hc117
            refine W.skip ?_
            refine W.seq (W.region ?_)
            refine WL.val (Value.bool true) _ (op_assign rfl) rfl ?_
            refine WL.nil ?_
            refine W.ret ?_
            obtain rfl := Option.some.inj h
            show FinP _ _ _ _ _ _ _
            exact FinP.ret _ (res1 rfl rfl) ⟨rfl, (Ext.trans hE26 hS116.ext)⟩

end Go.VG
