/- The walks, part 4: each Go function returns what its plain twin returns. No condition beyond what each names. -/
import Derived.Test.YtoobahemnnhkbaaGWalk3
set_option linter.all false
namespace Go.VG
open Go.Proofs
attribute [local irreducible] W WL Sep FinP

theorem c_laws_eqInt64SSS {w : World} {a : (List (List (List Int)))} {v_a : Value} {b : (List (List (List Int)))} {v_b : Value} (r_a : (Ty.sl (Ty.sl (Ty.sl (Ty.i .i64)))).rep w v_a a) (r_b : (Ty.sl (Ty.sl (Ty.sl (Ty.i .i64)))).rep w v_b b) {res : Bool} (h : p_laws_eqInt64SSS a b  = some res) :
    Ret Try.prog 29 #[v_a, v_b] w (fun v w' => v = Value.bool res ∧ Ext w w') := by
  unfold p_laws_eqInt64SSS at h
  have hS0 : St w w [] := St.start w
  refine Ret.start (fn := Try.f29) Try.func29 rfl 27 rfl rfl ?_
  refine W.seq (W.region ?_)
  refine WL.val (Value.bool false) _ (op_assign rfl) rfl ?_
  refine WL.nil ?_
  refine W.seq (W.seq (W.region ?_))
  refine WL.val v_a _ (op_move rfl) rfl ?_
  have hr1 := inR_len (Ty.lift _ hS0.ext r_a)
  refine WL.val (Value.int .i64 ((a).length : Int)) _ (op_lenL sl_22 (Ty.lift _ hS0.ext r_a) rfl) rfl ?_
  refine WL.val v_b _ (op_move rfl) rfl ?_
  have hr2 := inR_len (Ty.lift _ hS0.ext r_b)
  refine WL.val (Value.int .i64 ((b).length : Int)) _ (op_lenL sl_22 (Ty.lift _ hS0.ext r_b) rfl) rfl ?_
  refine WL.val (Value.bool (((a).length : Int) != ((b).length : Int))) _ (op_neq rfl rfl) rfl ?_
  refine WL.nil ?_
  refine W.cond (((a).length : Int) != ((b).length : Int)) rfl (fun hc3 => ?_) (fun hc3 => ?_)
  · replace h := ip h hc3
    refine W.seq (W.region ?_)
    refine WL.val (Value.bool false) _ (op_assign rfl) rfl ?_
    refine WL.nil ?_
    refine W.ret ?_
    obtain rfl := Option.some.inj h
    show FinP _ _ _ _ _ _ _
    exact FinP.ret _ (res1 rfl rfl) ⟨rfl, hS0.ext⟩
  · replace h := inegb h hc3
    refine W.skip ?_
    refine W.seq (W.seq (W.region ?_))
    refine WL.val (Value.int .i64 (0 : Int)) _ (op_assign rfl) rfl ?_
    refine WL.nil ?_
    show W _ _ _ _ _ _
    obtain ⟨res5, hres6, h⟩ := bs h
    refine W.blockLoop (fun fq wq => ∃ s, res5 = Res.fin s ∧ St w wq []) ?_ ?_
    · refine W.forN (fun k (s : Unit) fq wq => fq 0 = v_a ∧ fq 1 = v_b ∧ fq 5 = Value.int .i64 (k : Int) ∧ InR .i64 (k : Int) ∧ St w wq []) hres6 ⟨rfl, rfl, rfl, (inL rfl), hS0⟩ ?_ ?_
      · intro k7 s138 ct8 f9 wd10 hk11 hb12 hI13 hbrk14 hret15
        obtain ⟨⟩ := s138
        replace hI13 : f9 0 = v_a ∧ f9 1 = v_b ∧ f9 5 = Value.int .i64 (k7 : Int) ∧ InR .i64 (k7 : Int) ∧ St w wd10 [] := hI13
        replace hb12 : p_laws_eqInt64SSS_L1 a b k7  = some ct8 := hb12
        unfold p_laws_eqInt64SSS_L1 at hb12
        obtain ⟨hf16, hf17, hf18, hr19, hS20⟩ := hI13
        refine W.seq (W.seq (W.region ?_))
        refine WL.val (Value.int .i64 (k7 : Int)) _ (op_move hf18) rfl ?_
        refine WL.val v_a _ (op_move hf16) rfl ?_
        have hr21 := inR_len (Ty.lift _ hS20.ext r_a)
        refine WL.val (Value.int .i64 ((a).length : Int)) _ (op_lenL sl_22 (Ty.lift _ hS20.ext r_a) rfl) rfl ?_
        refine WL.val (Value.bool (decide ((k7 : Int) < ((a).length : Int)))) _ (op_lss rfl rfl) rfl ?_
        have hl22 : (k7 : Int) < ((a).length : Int) := by omega
        refine WL.nil ?_
        refine W.condT (decide ((k7 : Int) < ((a).length : Int))) rfl (decide_eq_true hl22) ?_
        refine W.skip ?_
        refine W.seq ?_
        refine W.block ?_
        refine W.seq ?_
        obtain ⟨x53, hx56, hb12⟩ := bs hb12
        obtain ⟨ha54, hb55, hx56⟩ := idx_some hx56
        obtain ⟨u67, hc68, hr69⟩ := repSl.el r_a hx56
        obtain ⟨x99, hx102, hb12⟩ := bs hb12
        obtain ⟨ha100, hb101, hx102⟩ := idx_some hx102
        obtain ⟨u113, hc114, hr115⟩ := repSl.el r_b hx102
        refine W.drawR mixo 8 [] [fun _ v _ _ => v = v_a, fun _ v _ _ => v = (Value.int .i64 (k7 : Int)) ∧ InR .i64 (k7 : Int), fun _ v _ _ => v = (Value.pointer (some (elA v_a ((k7 : Int)).toNat))), fun _ v _ _ => v = u67, fun _ v _ _ => v = v_b, fun _ v _ _ => v = (Value.int .i64 (k7 : Int)) ∧ InR .i64 (k7 : Int), fun _ v _ _ => v = (Value.pointer (some (elA v_b ((k7 : Int)).toNat))), fun _ v _ _ => v = u113] (by kernel_rfl) (by kernel_rfl) ⟨pk, pk, pk, pk, pk, pk, pk, pk, trivial⟩ ⟨?_, ?_, ?_, ?_, ?_, ?_, ?_, ?_, trivial⟩ ?_
        · refine ObX.op rfl fun f24 wd25 he26 hout27 hphi28 => ?_
          have e30 : f24 0 = v_a := (hout27 0 rfl).trans hf16
          exact OpX.val v_a wd25 rfl (op_move e30) (Ext.refl _) rfl
        · refine ObX.op rfl fun f31 wd32 he33 hout34 hphi35 => ?_
          have e37 : f31 5 = (Value.int .i64 (k7 : Int)) := (hout34 5 rfl).trans hf18
          exact OpX.val (Value.int .i64 (k7 : Int)) wd32 rfl (op_move e37) (Ext.refl _) ⟨rfl, hr19⟩
        · refine ObX.op rfl fun f38 wd39 he40 hout41 hphi42 => ?_
          have hS43 := St.extend hS20 he40
          obtain ⟨S44, hS45, hf46⟩ := hphi42 0 17 _ rfl rfl rfl
          have e47 : f38 17 = v_a := hf46
          obtain ⟨S48, hS49, hf50⟩ := hphi42 1 18 _ rfl rfl rfl
          obtain ⟨e51, hr52⟩ := hf50
          exact OpX.val (Value.pointer (some (elA v_a ((k7 : Int)).toNat))) wd39 rfl (op_idx sl_22 (Ty.lift _ hS43.ext r_a) e47 e51 ha54 hb55) (Ext.refl _) rfl
        · refine ObX.op rfl fun f57 wd58 he59 hout60 hphi61 => ?_
          have hS62 := St.extend hS20 he59
          obtain ⟨S63, hS64, hf65⟩ := hphi61 2 19 _ rfl rfl rfl
          have e66 : f57 19 = (Value.pointer (some (elA v_a ((k7 : Int)).toNat))) := hf65
          exact OpX.val u67 wd58 rfl (op_load one_46 e66 (Ext.cell hS62.ext hc68)) (Ext.refl _) rfl
        · refine ObX.op rfl fun f70 wd71 he72 hout73 hphi74 => ?_
          have e76 : f70 1 = v_b := (hout73 1 rfl).trans hf17
          exact OpX.val v_b wd71 rfl (op_move e76) (Ext.refl _) rfl
        · refine ObX.op rfl fun f77 wd78 he79 hout80 hphi81 => ?_
          have e83 : f77 5 = (Value.int .i64 (k7 : Int)) := (hout80 5 rfl).trans hf18
          exact OpX.val (Value.int .i64 (k7 : Int)) wd78 rfl (op_move e83) (Ext.refl _) ⟨rfl, hr19⟩
        · refine ObX.op rfl fun f84 wd85 he86 hout87 hphi88 => ?_
          have hS89 := St.extend hS20 he86
          obtain ⟨S90, hS91, hf92⟩ := hphi88 4 21 _ rfl rfl rfl
          have e93 : f84 21 = v_b := hf92
          obtain ⟨S94, hS95, hf96⟩ := hphi88 5 22 _ rfl rfl rfl
          obtain ⟨e97, hr98⟩ := hf96
          exact OpX.val (Value.pointer (some (elA v_b ((k7 : Int)).toNat))) wd85 rfl (op_idx sl_22 (Ty.lift _ hS89.ext r_b) e93 e97 ha100 hb101) (Ext.refl _) rfl
        · refine ObX.op rfl fun f103 wd104 he105 hout106 hphi107 => ?_
          have hS108 := St.extend hS20 he105
          obtain ⟨S109, hS110, hf111⟩ := hphi107 6 23 _ rfl rfl rfl
          have e112 : f103 23 = (Value.pointer (some (elA v_b ((k7 : Int)).toNat))) := hf111
          exact OpX.val u113 wd104 rfl (op_load one_46 e112 (Ext.cell hS108.ext hc114)) (Ext.refl _) rfl
        · intro f116 wd117 Ss118 he119 hout120 hSn121 hSd122 hphi123
          show WL _ _ _ _ _ _ _
          have hS124 := St.extend hS20 he119
          have e125 : f116 20 = u67 := hphi123 3 20 _ (by decide) rfl rfl
          have e126 : f116 24 = u113 := hphi123 7 24 _ (by decide) rfl rfl
          have e127 : f116 0 = v_a := (hout120 0 rfl).trans hf16
          have e128 : f116 1 = v_b := (hout120 1 rfl).trans hf17
          have e129 : f116 5 = (Value.int .i64 (k7 : Int)) := (hout120 5 rfl).trans hf18
          obtain ⟨x130, hx131, hb12⟩ := bs hb12
          refine WL.call _ (op_call fn_46 (args2 e125 e126)) (c_laws_eqInt64SS (Ty.lift _ hS124.ext hr69) (Ty.lift _ hS124.ext hr115) hx131) rfl ?_
          rintro _ wd132 ⟨rfl, he133⟩
          have hS135 := St.extend hS124 he133
          replace hS135 : St w wd132 [] := hS135
          refine WL.val (Value.bool (!x130)) _ (op_not rfl) rfl ?_
          refine WL.nil ?_
          refine W.cond (!x130) rfl (fun hc136 => ?_) (fun hc136 => ?_)
          · replace hb12 := ip hb12 hc136
            refine W.seq (W.region ?_)
            refine WL.val (Value.bool false) _ (op_assign rfl) rfl ?_
            refine WL.nil ?_
            refine W.ret ?_
            obtain rfl := Option.some.inj hb12
            obtain rfl := hret15 _ rfl
            replace h := onRes_ret h
            obtain rfl := Option.some.inj h
            show FinP _ _ _ _ _ _ _
            exact FinP.ret _ (res1 rfl rfl) ⟨rfl, hS135.ext⟩
          · replace hb12 := inegb hb12 hc136
            refine W.skip ?_
            show W _ _ _ _ _ _
            refine W.region ?_
            refine WL.val (Value.int .i64 (k7 : Int)) _ (op_move e129) rfl ?_
            refine WL.val (Value.int .i64 (w64 ((k7 : Int) + (1 : Int)))) _ (op_add rfl rfl) rfl ?_
            refine WL.val (Value.int .i64 (w64 ((k7 : Int) + (1 : Int)))) _ (op_assign rfl) rfl ?_
            refine WL.nil ?_
            obtain rfl := Option.some.inj hb12
            show ∃ s, _ = Ctl.next s ∧ _
            exact ⟨_, rfl, e127, e128, (ctr_next hl22 hr21), (ctr_rng hl22 hr21), hS135⟩
      · intro s143 f139 wd140 hs141 hI142
        obtain ⟨⟩ := s143
        replace hI142 : f139 0 = v_a ∧ f139 1 = v_b ∧ f139 5 = Value.int .i64 (((a).length : Nat) : Int) ∧ InR .i64 (((a).length : Nat) : Int) ∧ St w wd140 [] := hI142
        obtain ⟨hf144, hf145, hf146, hr147, hS148⟩ := hI142
        refine W.seq (W.seq (W.region ?_))
        refine WL.val (Value.int .i64 (((a).length : Nat) : Int)) _ (op_move hf146) rfl ?_
        refine WL.val v_a _ (op_move hf144) rfl ?_
        have hr149 := inR_len (Ty.lift _ hS148.ext r_a)
        refine WL.val (Value.int .i64 ((a).length : Int)) _ (op_lenL sl_22 (Ty.lift _ hS148.ext r_a) rfl) rfl ?_
        refine WL.val (Value.bool (decide ((((a).length : Nat) : Int) < ((a).length : Int)))) _ (op_lss rfl rfl) rfl ?_
        have hl150 : ¬ (((a).length : Nat) : Int) < ((a).length : Int) := by omega
        refine WL.nil ?_
        refine W.condF (decide ((((a).length : Nat) : Int) < ((a).length : Int))) rfl (decide_eq_false hl150) ?_
        refine W.exit ?_
        show _ = _ ∧ _
        exact ⟨rfl, _, hs141, hS148⟩
    · rintro f151 wd152 ⟨s154, rfl, hq153⟩
      replace h := onRes_fin h
      obtain ⟨⟩ := s154
      replace hq153 : St w wd152 [] := hq153
      have hS155 := hq153
      refine W.seq (W.region ?_)
      refine WL.val (Value.bool true) _ (op_assign rfl) rfl ?_
      refine WL.nil ?_
      refine W.ret ?_
      obtain rfl := Option.some.inj h
      show FinP _ _ _ _ _ _ _
      exact FinP.ret _ (res1 rfl rfl) ⟨rfl, hS155.ext⟩

theorem c_laws_eqRing {w : World} {a_Table : (List (List (List Int)))} {v_a_Table : Value} {b_Table : (List (List (List Int)))} {v_b_Table : Value} (r_a_Table : (Ty.sl (Ty.sl (Ty.sl (Ty.i .i64)))).rep w v_a_Table a_Table) (r_b_Table : (Ty.sl (Ty.sl (Ty.sl (Ty.i .i64)))).rep w v_b_Table b_Table) {res : Bool} (h : p_laws_eqRing a_Table b_Table  = some res) :
    Ret Try.prog 12 #[(Value.agg #[v_a_Table]), (Value.agg #[v_b_Table])] w (fun v w' => v = Value.bool res ∧ Ext w w') := by
  unfold p_laws_eqRing at h
  have hS0 : St w w [] := St.start w
  refine Ret.start (fn := Try.f12) Try.func12 rfl 11 rfl rfl ?_
  refine W.seq (W.region ?_)
  refine WL.box hS0 rfl (cs := [v_a_Table]) rfl rfl ?_
  intro b1 wd2 hS3 he4 hx5
  replace hS3 : St w wd2 [bx b1 [v_a_Table]] := hS3
  have hx6 := St.boxAt hS3 0 rfl
  have hE7 : Ext w wd2 := hS3.ext
  have hS8 : St wd2 wd2 [] := St.start wd2
  refine WL.box hS8 rfl (cs := [v_b_Table]) rfl rfl ?_
  intro b9 wd10 hS11 he12 hx13
  replace hS11 : St wd2 wd10 [bx b9 [v_b_Table]] := hS11
  have hx14 := St.boxAt hS11 0 rfl
  have hE15 : Ext w wd10 := (Ext.trans hE7 hS11.ext)
  have hE16 : Ext wd2 wd10 := hS11.ext
  have hS17 : St wd10 wd10 [] := St.start wd10
  refine WL.val (Value.bool false) _ (op_assign rfl) rfl ?_
  refine WL.nil ?_
  refine W.seq (W.seq (W.region ?_))
  refine WL.val (Value.pointer (some ⟨b1, 0, none⟩)) _ (op_fieldAddr fd_29_0 rfl) rfl ?_
  refine WL.val v_a_Table _ (op_load one_22 rfl (BoxAt.cell (BoxAt.lift (Ext.trans hE16 hS17.ext) hx6) rfl)) rfl ?_
  refine WL.val (Value.pointer (some ⟨b9, 0, none⟩)) _ (op_fieldAddr fd_29_0 rfl) rfl ?_
  refine WL.val v_b_Table _ (op_load one_22 rfl (BoxAt.cell (BoxAt.lift hS17.ext hx14) rfl)) rfl ?_
  obtain ⟨x18, hx19, h⟩ := bs h
  refine WL.call _ (op_call fn_29 (args2 rfl rfl)) (c_laws_eqInt64SSS (Ty.lift _ (Ext.trans hE15 hS17.ext) r_a_Table) (Ty.lift _ (Ext.trans hE15 hS17.ext) r_b_Table) hx19) rfl ?_
  rintro _ wd20 ⟨rfl, he21⟩
  have hS23 := St.extend hS17 he21
  replace hS23 : St wd10 wd20 [] := hS23
  refine WL.val (Value.bool (!x18)) _ (op_not rfl) rfl ?_
  refine WL.nil ?_
  refine W.cond (!x18) rfl (fun hc24 => ?_) (fun hc24 => ?_)
  · replace h := ip h hc24
    refine W.seq (W.region ?_)
    refine WL.val (Value.bool false) _ (op_assign rfl) rfl ?_
    refine WL.nil ?_
    refine W.ret ?_
    obtain rfl := Option.some.inj h
    show FinP _ _ _ _ _ _ _
    exact FinP.ret _ (res1 rfl rfl) ⟨rfl, (Ext.trans hE15 hS23.ext)⟩
  · replace h := inegb h hc24
    refine W.skip ?_
    refine W.seq (W.region ?_)
    refine WL.val (Value.bool true) _ (op_assign rfl) rfl ?_
    refine WL.nil ?_
    refine W.ret ?_
    obtain rfl := Option.some.inj h
    show FinP _ _ _ _ _ _ _
    exact FinP.ret _ (res1 rfl rfl) ⟨rfl, (Ext.trans hE15 hS23.ext)⟩

theorem c_laws_FnExactValueOf {w : World} {aR_Table : (List (List (List Int)))} {v_aR_Table : Value} {aX : (List Int)} {v_aX : Value} {aV : (List Int)} {v_aV : Value} (r_aR_Table : (Ty.sl (Ty.sl (Ty.sl (Ty.i .i64)))).rep w v_aR_Table aR_Table) (r_aX : (Ty.sl (Ty.i .i64)).rep w v_aX aX) (r_aV : (Ty.sl (Ty.i .i64)).rep w v_aV aV) {res : Bool} (h : p_laws_FnExactValueOf aR_Table aX aV  = some res) :
    Ret Try.prog 3 #[(Value.agg #[v_aR_Table]), v_aX, v_aV] w (fun v w' => v = Value.bool res ∧ Ext w w') := by
  unfold p_laws_FnExactValueOf at h
  have hS0 : St w w [] := St.start w
  refine Ret.start (fn := Try.f3) Try.func3 rfl 72 rfl rfl ?_
  refine W.seq (W.region ?_)
  refine WL.box hS0 rfl (cs := [v_aR_Table]) rfl rfl ?_
  intro b1 wd2 hS3 he4 hx5
  replace hS3 : St w wd2 [bx b1 [v_aR_Table]] := hS3
  have hx6 := St.boxAt hS3 0 rfl
  have hE7 : Ext w wd2 := hS3.ext
  have hS8 : St wd2 wd2 [] := St.start wd2
  refine WL.val (Value.bool false) _ (op_assign rfl) rfl ?_
  refine WL.nil ?_
  refine W.seq (W.seq (W.region ?_))
  refine WL.val v_aX _ (op_move rfl) rfl ?_
  have hr9 := inR_len (Ty.lift _ (Ext.trans hE7 hS8.ext) r_aX)
  refine WL.val (Value.int .i64 ((aX).length : Int)) _ (op_lenL sl_25 (Ty.lift _ (Ext.trans hE7 hS8.ext) r_aX) rfl) rfl ?_
  refine WL.val (Value.bool (decide (((aX).length : Int) > (1048576 : Int)))) _ (op_gtr rfl rfl) rfl ?_
  refine WL.nil ?_
  refine W.cond (decide (((aX).length : Int) > (1048576 : Int))) rfl (fun hc10 => ?_) (fun hc10 => ?_)
  · replace h := ip h hc10
    refine W.seq (W.region ?_)
    refine WL.val (Value.bool true) _ (op_assign rfl) rfl ?_
    refine WL.nil ?_
    refine W.ret ?_
    obtain rfl := Option.some.inj h
    show FinP _ _ _ _ _ _ _
    exact FinP.ret _ (res1 rfl rfl) ⟨rfl, (Ext.trans hE7 hS8.ext)⟩
  · replace h := inegb h hc10
    refine W.skip ?_
    refine W.seq (W.seq (W.region ?_))
    refine WL.val v_aV _ (op_move rfl) rfl ?_
    have hr12 := inR_len (Ty.lift _ (Ext.trans hE7 hS8.ext) r_aV)
    refine WL.val (Value.int .i64 ((aV).length : Int)) _ (op_lenL sl_25 (Ty.lift _ (Ext.trans hE7 hS8.ext) r_aV) rfl) rfl ?_
    refine WL.val (Value.bool (decide (((aV).length : Int) > (1048576 : Int)))) _ (op_gtr rfl rfl) rfl ?_
    refine WL.nil ?_
    refine W.cond (decide (((aV).length : Int) > (1048576 : Int))) rfl (fun hc13 => ?_) (fun hc13 => ?_)
    · replace h := ip h hc13
      refine W.seq (W.region ?_)
      refine WL.val (Value.bool true) _ (op_assign rfl) rfl ?_
      refine WL.nil ?_
      refine W.ret ?_
      obtain rfl := Option.some.inj h
      show FinP _ _ _ _ _ _ _
      exact FinP.ret _ (res1 rfl rfl) ⟨rfl, (Ext.trans hE7 hS8.ext)⟩
    · replace h := inegb h hc13
      refine W.skip ?_
      refine W.seq (W.region ?_)
      refine WL.val (Value.int .i64 (1048576 : Int)) _ (op_assign rfl) rfl ?_
      refine WL.nil ?_
      refine W.seq (W.region ?_)
      refine WL.val (Value.agg #[v_aR_Table]) _ (op_loadBox st_24 rfl (BoxAt.lift hS8.ext hx6) rfl rfl) rfl ?_
      refine WL.val (Value.int .i64 (1048576 : Int)) _ (op_move rfl) rfl ?_
      obtain ⟨x15, hx16, h⟩ := bs h
      refine WL.call _ (op_call fn_7 (args2 rfl rfl)) (c_laws_szRing (Ty.lift _ (Ext.trans hE7 hS8.ext) r_aR_Table) (inL rfl) hx16) rfl ?_
      rintro _ wd18 ⟨rfl, hr17, he19⟩
      have hS21 := St.extend hS8 he19
      replace hS21 : St wd2 wd18 [] := hS21
      refine WL.val (Value.int .i64 x15) _ (op_assign rfl) rfl ?_
      refine WL.nil ?_
      refine W.seq (W.seq (W.region ?_))
      refine WL.val (Value.int .i64 x15) _ (op_move rfl) rfl ?_
      refine WL.val (Value.bool (decide (x15 < (0 : Int)))) _ (op_lss rfl rfl) rfl ?_
      refine WL.nil ?_
      refine W.cond (decide (x15 < (0 : Int))) rfl (fun hc22 => ?_) (fun hc22 => ?_)
      · replace h := ip h hc22
        refine W.seq (W.region ?_)
        refine WL.val (Value.bool true) _ (op_assign rfl) rfl ?_
        refine WL.nil ?_
        refine W.ret ?_
        obtain rfl := Option.some.inj h
        show FinP _ _ _ _ _ _ _
        exact FinP.ret _ (res1 rfl rfl) ⟨rfl, (Ext.trans hE7 hS21.ext)⟩
      · replace h := inegb h hc22
        refine W.skip ?_
        refine W.seq (W.region ?_)
        refine WL.val (Value.agg #[v_aR_Table]) _ (op_loadBox st_24 rfl (BoxAt.lift hS21.ext hx6) rfl rfl) rfl ?_
        obtain ⟨x24, hx25, h⟩ := bs h
        refine WL.call _ (op_call fn_9 (args1 rfl)) (c_laws_toRing (Ty.lift _ (Ext.trans hE7 hS21.ext) r_aR_Table) hx25) rfl ?_
        rintro _ wd27 ⟨u26, rfl, he28, hs29⟩
        have hS30 := St.join hS21 he28 hs29
        replace hS30 : St wd2 wd27 [(Ty.sl (Ty.sl (Ty.sl (Ty.i .i64)))).at u26 x24] := hS30
        have hb31 := St.rep (t := (Ty.sl (Ty.sl (Ty.sl (Ty.i .i64))))) hS30 0 rfl
        have hE32 : Ext w wd27 := (Ext.trans hE7 hS30.ext)
        have hE33 : Ext wd2 wd27 := hS30.ext
        have hS34 : St wd27 wd27 [] := St.start wd27
        refine WL.val v_aX _ (op_move rfl) rfl ?_
        obtain ⟨x35, hx36, h⟩ := bs h
        refine WL.call _ (op_call fn_10 (args1 rfl)) (c_laws_toInt64S (Ty.lift _ (Ext.trans hE32 hS34.ext) r_aX) hx36) rfl ?_
        rintro u37 wd38 ⟨_, rfl, he39, hs40⟩
        have hS41 := St.join hS34 he39 hs40
        replace hS41 : St wd27 wd38 [(Ty.sl (Ty.i .i64)).at u37 x35] := hS41
        have hb42 := St.rep (t := (Ty.sl (Ty.i .i64))) hS41 0 rfl
        have hE43 : Ext w wd38 := (Ext.trans hE32 hS41.ext)
        have hE44 : Ext wd2 wd38 := (Ext.trans hE33 hS41.ext)
        have hE45 : Ext wd27 wd38 := hS41.ext
        have hS46 : St wd38 wd38 [] := St.start wd38
        refine WL.val v_aV _ (op_move rfl) rfl ?_
        obtain ⟨x47, hx48, h⟩ := bs h
        refine WL.call _ (op_call fn_10 (args1 rfl)) (c_laws_toInt64S (Ty.lift _ (Ext.trans hE43 hS46.ext) r_aV) hx48) rfl ?_
        rintro u49 wd50 ⟨_, rfl, he51, hs52⟩
        have hS53 := St.join hS46 he51 hs52
        replace hS53 : St wd38 wd50 [(Ty.sl (Ty.i .i64)).at u49 x47] := hS53
        have hb54 := St.rep (t := (Ty.sl (Ty.i .i64))) hS53 0 rfl
        have hE55 : Ext w wd50 := (Ext.trans hE43 hS53.ext)
        have hE56 : Ext wd2 wd50 := (Ext.trans hE44 hS53.ext)
        have hE57 : Ext wd27 wd50 := (Ext.trans hE45 hS53.ext)
        have hE58 : Ext wd38 wd50 := hS53.ext
        have hS59 : St wd50 wd50 [] := St.start wd50
        obtain ⟨x60, hx61, h⟩ := bs h
        refine WL.call _ (op_call fn_8 (args3 rfl rfl rfl)) (c_spec_ValueOf (Ty.lift _ (Ext.trans hE57 hS59.ext) hb31) (Ty.lift _ (Ext.trans hE58 hS59.ext) hb42) (Ty.lift _ hS59.ext hb54) hx61) rfl ?_
        rintro _ wd64 ⟨rfl, hr62, hr63, he65⟩
        have hS67 := St.extend hS59 he65
        replace hS67 : St wd50 wd64 [] := hS67
        refine WL.val (Value.tuple #[(Value.int .i64 x60.1), (Value.int .i64 x60.2)]) _ (op_move rfl) rfl ?_
        refine WL.val (Value.int .i64 x60.1) _ (op_extract rfl rfl) rfl ?_
        refine WL.val (Value.int .i64 x60.2) _ (op_extract rfl rfl) rfl ?_
        refine WL.val (Value.int .i64 x60.1) _ (op_assign rfl) rfl ?_
        refine WL.val (Value.int .i64 x60.2) _ (op_assign rfl) rfl ?_
        refine WL.nil ?_
        refine W.seq (W.region ?_)
        refine WL.val (Value.agg #[v_aR_Table]) _ (op_loadBox st_24 rfl (BoxAt.lift (Ext.trans hE56 hS67.ext) hx6) rfl rfl) rfl ?_
        obtain ⟨x68, hx69, h⟩ := bs h
        refine WL.call _ (op_call fn_9 (args1 rfl)) (c_laws_toRing (Ty.lift _ (Ext.trans hE55 hS67.ext) r_aR_Table) hx69) rfl ?_
        rintro _ wd71 ⟨u70, rfl, he72, hs73⟩
        have hS74 := St.join hS67 he72 hs73
        replace hS74 : St wd50 wd71 [(Ty.sl (Ty.sl (Ty.sl (Ty.i .i64)))).at u70 x68] := hS74
        refine WL.alloc hS74 ze_29 (cs := [(Value.slice none 0 0)]) rfl rfl ?_
        intro b75 wd76 hS77 he78
        replace hS77 : St wd50 wd76 [(Ty.sl (Ty.sl (Ty.sl (Ty.i .i64)))).at u70 x68, bx b75 [(Value.slice none 0 0)]] := hS77
        refine WL.storeBox [u70] hS77 (k := 1) rfl rfl rfl (us := [u70]) rfl sz_29 rfl rfl (all_rep (St.rep (t := (Ty.sl (Ty.sl (Ty.sl (Ty.i .i64))))) hS77 0 rfl) all_nil) rfl ?_
        intro wd79 hS80
        replace hS80 : St wd50 wd79 [(Ty.sl (Ty.sl (Ty.sl (Ty.i .i64)))).at u70 x68, bx b75 [u70]] := hS80
        refine WL.nil ?_
        refine W.seq (W.region ?_)
        refine WL.val v_aX _ (op_move rfl) rfl ?_
        obtain ⟨x81, hx82, h⟩ := bs h
        refine WL.call _ (op_call fn_10 (args1 rfl)) (c_laws_toInt64S (Ty.lift _ (Ext.trans hE55 hS80.ext) r_aX) hx82) rfl ?_
        rintro u83 wd84 ⟨_, rfl, he85, hs86⟩
        have hS87 := St.join hS80 he85 hs86
        replace hS87 : St wd50 wd84 [(Ty.sl (Ty.sl (Ty.sl (Ty.i .i64)))).at u70 x68, bx b75 [u70], (Ty.sl (Ty.i .i64)).at u83 x81] := hS87
        refine WL.val u83 _ (op_assign rfl) rfl ?_
        refine WL.nil ?_
        refine W.seq (W.region ?_)
        refine WL.val v_aV _ (op_move rfl) rfl ?_
        obtain ⟨x88, hx89, h⟩ := bs h
        refine WL.call _ (op_call fn_10 (args1 rfl)) (c_laws_toInt64S (Ty.lift _ (Ext.trans hE55 hS87.ext) r_aV) hx89) rfl ?_
        rintro u90 wd91 ⟨_, rfl, he92, hs93⟩
        have hS94 := St.join hS87 he92 hs93
        replace hS94 : St wd50 wd91 [(Ty.sl (Ty.sl (Ty.sl (Ty.i .i64)))).at u70 x68, bx b75 [u70], (Ty.sl (Ty.i .i64)).at u83 x81, (Ty.sl (Ty.i .i64)).at u90 x88] := hS94
        refine WL.val u90 _ (op_assign rfl) rfl ?_
        refine WL.nil ?_
        refine W.seq (W.region ?_)
        refine WL.val (Value.agg #[u70]) _ (op_loadBox st_29 rfl (St.boxAt hS94 1 rfl) rfl rfl) rfl ?_
        refine WL.val u83 _ (op_move rfl) rfl ?_
        refine WL.val u90 _ (op_move rfl) rfl ?_
        obtain ⟨x95, hx96, h⟩ := bs h
        refine WL.call _ (op_call fn_11 (args3 rfl rfl rfl)) (c_impl_ValueOf (St.rep (t := (Ty.sl (Ty.sl (Ty.sl (Ty.i .i64))))) hS94 0 rfl) (St.rep (t := (Ty.sl (Ty.i .i64))) hS94 2 rfl) (St.rep (t := (Ty.sl (Ty.i .i64))) hS94 3 rfl) hx96) rfl ?_
        rintro _ wd99 ⟨rfl, hr97, hr98, he100⟩
        have hS102 := St.extend hS94 he100
        replace hS102 : St wd50 wd99 [(Ty.sl (Ty.sl (Ty.sl (Ty.i .i64)))).at u70 x68, bx b75 [u70], (Ty.sl (Ty.i .i64)).at u83 x81, (Ty.sl (Ty.i .i64)).at u90 x88] := hS102
        refine WL.val (Value.tuple #[(Value.int .i64 x95.1), (Value.int .i64 x95.2)]) _ (op_move rfl) rfl ?_
        refine WL.val (Value.int .i64 x95.1) _ (op_extract rfl rfl) rfl ?_
        refine WL.val (Value.int .i64 x95.2) _ (op_extract rfl rfl) rfl ?_
        refine WL.val (Value.int .i64 x95.1) _ (op_assign rfl) rfl ?_
        refine WL.val (Value.int .i64 x95.2) _ (op_assign rfl) rfl ?_
        refine WL.nil ?_
        refine W.seq (W.seq (W.region ?_))
        refine WL.val (Value.int .i64 x95.1) _ (op_move rfl) rfl ?_
        refine WL.val (Value.int .i64 x60.1) _ (op_move rfl) rfl ?_
        refine WL.val (Value.bool (x95.1 != x60.1)) _ (op_neq rfl rfl) rfl ?_
        refine WL.val (Value.bool (x95.1 != x60.1)) _ (op_move rfl) rfl ?_
        refine WL.cut 4 (fun fq wq => fq 1 = v_aX ∧ fq 2 = v_aV ∧ fq 3 = (Value.pointer (some ⟨b1, 0, none⟩)) ∧ fq 10 = (Value.pointer (some ⟨b75, 0, none⟩)) ∧ fq 11 = u83 ∧ fq 12 = u90 ∧ fq 56 = (Value.bool ((x95.1 != x60.1) || (x95.2 != x60.2))) ∧ St wd50 wq [(Ty.sl (Ty.sl (Ty.sl (Ty.i .i64)))).at u70 x68, bx b75 [u70], (Ty.sl (Ty.i .i64)).at u83 x81, (Ty.sl (Ty.i .i64)).at u90 x88]) ?_ ?_
        · rcases Bool.eq_false_or_eq_true (x95.1 != x60.1) with hc103 | hc103
          · refine WL.gskip rfl (bool_of rfl hc103) rfl ?_
            refine WL.gskip rfl (bool_of rfl hc103) rfl ?_
            refine WL.gskip rfl (bool_of rfl hc103) rfl ?_
            refine WL.val (Value.bool true) _ (op_pick_t (evb_of rfl hc103) rfl) rfl ?_
            refine WL.nil ?_
            exact ⟨rfl, rfl, rfl, rfl, rfl, rfl, rfl, (orT hc103), hS102⟩
          · refine WL.grun rfl (bool_of rfl hc103) ?_
            refine WL.val (Value.int .i64 x95.2) _ (op_move rfl) rfl ?_
            refine WL.grun rfl (bool_of rfl hc103) ?_
            refine WL.val (Value.int .i64 x60.2) _ (op_move rfl) rfl ?_
            refine WL.grun rfl (bool_of rfl hc103) ?_
            refine WL.val (Value.bool (x95.2 != x60.2)) _ (op_neq rfl rfl) rfl ?_
            refine WL.val (Value.bool (x95.2 != x60.2)) _ (op_pick_f (evb_of rfl hc103) rfl) rfl ?_
            refine WL.nil ?_
            exact ⟨rfl, rfl, rfl, rfl, rfl, rfl, rfl, (orF hc103), hS102⟩
        · intro f104 wd105 hq106
          obtain ⟨hf107, hf108, hf109, hf110, hf111, hf112, hf113, hS114⟩ := hq106
          refine WL.nil ?_
          refine W.cond ((x95.1 != x60.1) || (x95.2 != x60.2)) hf113 (fun hc115 => ?_) (fun hc115 => ?_)
          · replace h := ip h hc115
            refine W.seq (W.region ?_)
            refine WL.val (Value.bool false) _ (op_assign rfl) rfl ?_
            refine WL.nil ?_
            refine W.ret ?_
            obtain rfl := Option.some.inj h
            show FinP _ _ _ _ _ _ _
            exact FinP.ret _ (res1 rfl rfl) ⟨rfl, (Ext.trans hE55 hS114.ext)⟩
          · replace h := inegb h hc115
            refine W.skip ?_
            refine W.seq (W.seq ?_)
            obtain ⟨x141, hx142, h⟩ := bs h
            refine W.drawR mixo 3 [] [fun _ v S w' => v = (Value.agg #[u70]), fun _ v S w' => v = (Value.agg #[v_aR_Table]), fun _ v S w' => ∃ (uu0 : Value), v = (Value.agg #[uu0]) ∧ SepS S w' [(Ty.sl (Ty.sl (Ty.sl (Ty.i .i64)))).at uu0 x141]] (by kernel_rfl) (by kernel_rfl) ⟨pk, pk, ⟨fun _ _ _ _ _ he ⟨uu0, h0, r0⟩ => ⟨uu0, h0, SepS.extend he r0⟩, fun _ _ _ _ _ _ h => h⟩, trivial⟩ ⟨?_, ?_, ?_, trivial⟩ ?_
            · refine ObX.op rfl fun f117 wd118 he119 hout120 hphi121 => ?_
              have hS122 := St.extend hS114 he119
              have e123 : f117 10 = (Value.pointer (some ⟨b75, 0, none⟩)) := (hout120 10 rfl).trans hf110
              exact OpX.val (Value.agg #[u70]) wd118 rfl (op_loadBox st_29 e123 (St.boxAt hS122 1 rfl) rfl rfl) (Ext.refl _) rfl
            · refine ObX.op rfl fun f124 wd125 he126 hout127 hphi128 => ?_
              have hS129 := St.extend hS114 he126
              have e130 : f124 3 = (Value.pointer (some ⟨b1, 0, none⟩)) := (hout127 3 rfl).trans hf109
              exact OpX.val (Value.agg #[v_aR_Table]) wd125 rfl (op_loadBox st_24 e130 (BoxAt.lift (Ext.trans hE56 hS129.ext) hx6) rfl rfl) (Ext.refl _) rfl
            · refine ObX.op rfl fun f131 wd132 he133 hout134 hphi135 => ?_
              have hS136 := St.extend hS114 he133
              obtain ⟨S137, hS138, hf139⟩ := hphi135 1 58 _ rfl rfl rfl
              have e140 : f131 58 = (Value.agg #[v_aR_Table]) := hf139
              refine OpX.call rfl (op_call fn_9 (args1 e140)) (Ret.mono (c_laws_toRing (Ty.lift _ (Ext.trans hE55 hS136.ext) r_aR_Table) hx142) ?_)
              rintro _ wd144 ⟨u143, rfl, he145, hs146⟩
              exact ⟨he145, _, newS _ _, ⟨u143, rfl, (Sep.new hs146)⟩⟩
            · intro f147 wd148 Ss149 he150 hout151 hSn152 hSd153 hphi154
              show WL _ _ _ _ _ _ _
              have e156 : f147 57 = (Value.agg #[u70]) := hphi154 0 57 _ (by decide) rfl rfl
              obtain ⟨u158, e157, e157s⟩ := hphi154 2 59 _ (by decide) rfl rfl
              have e159 : f147 1 = v_aX := (hout151 1 rfl).trans hf107
              have e160 : f147 2 = v_aV := (hout151 2 rfl).trans hf108
              have e161 : f147 11 = u83 := (hout151 11 rfl).trans hf111
              have e162 : f147 12 = u90 := (hout151 12 rfl).trans hf112
              have hS163 := St.joinS hS114 he150 hSn152 (SepS.consS hSd153 rfl e157s SepS.nilS)
              replace hS163 : St wd50 wd148 [(Ty.sl (Ty.sl (Ty.sl (Ty.i .i64)))).at u70 x68, bx b75 [u70], (Ty.sl (Ty.i .i64)).at u83 x81, (Ty.sl (Ty.i .i64)).at u90 x88, (Ty.sl (Ty.sl (Ty.sl (Ty.i .i64)))).at u158 x141] := hS163
              obtain ⟨x164, hx165, h⟩ := bs h
              refine WL.call _ (op_call fn_12 (args2 e156 e157)) (c_laws_eqRing (St.rep (t := (Ty.sl (Ty.sl (Ty.sl (Ty.i .i64))))) hS163 0 rfl) (St.rep (t := (Ty.sl (Ty.sl (Ty.sl (Ty.i .i64))))) hS163 4 rfl) hx165) rfl ?_
              rintro _ wd166 ⟨rfl, he167⟩
              have hS169 := St.extend hS163 he167
              replace hS169 : St wd50 wd166 [(Ty.sl (Ty.sl (Ty.sl (Ty.i .i64)))).at u70 x68, bx b75 [u70], (Ty.sl (Ty.i .i64)).at u83 x81, (Ty.sl (Ty.i .i64)).at u90 x88, (Ty.sl (Ty.sl (Ty.sl (Ty.i .i64)))).at u158 x141] := hS169
              refine WL.val (Value.bool (!x164)) _ (op_not rfl) rfl ?_
              refine WL.nil ?_
              refine W.cond (!x164) rfl (fun hc170 => ?_) (fun hc170 => ?_)
              · replace h := ip h hc170
                refine W.seq (W.region ?_)
                refine WL.val (Value.bool false) _ (op_assign rfl) rfl ?_
                refine WL.nil ?_
                refine W.ret ?_
                obtain rfl := Option.some.inj h
                show FinP _ _ _ _ _ _ _
                exact FinP.ret _ (res1 rfl rfl) ⟨rfl, (Ext.trans hE55 hS169.ext)⟩
              · replace h := inegb h hc170
                refine W.skip ?_
                refine W.seq (W.seq (W.region ?_))
                refine WL.val u83 _ (op_move e161) rfl ?_
                refine WL.val v_aX _ (op_move e159) rfl ?_
                obtain ⟨x172, hx173, h⟩ := bs h
                refine WL.call _ (op_call fn_10 (args1 rfl)) (c_laws_toInt64S (Ty.lift _ (Ext.trans hE55 hS169.ext) r_aX) hx173) rfl ?_
                rintro u174 wd175 ⟨_, rfl, he176, hs177⟩
                have hS178 := St.join hS169 he176 hs177
                replace hS178 : St wd50 wd175 [(Ty.sl (Ty.sl (Ty.sl (Ty.i .i64)))).at u70 x68, bx b75 [u70], (Ty.sl (Ty.i .i64)).at u83 x81, (Ty.sl (Ty.i .i64)).at u90 x88, (Ty.sl (Ty.sl (Ty.sl (Ty.i .i64)))).at u158 x141, (Ty.sl (Ty.i .i64)).at u174 x172] := hS178
                obtain ⟨x179, hx180, h⟩ := bs h
                refine WL.call _ (op_call fn_13 (args2 rfl rfl)) (c_laws_eqInt64S (St.rep (t := (Ty.sl (Ty.i .i64))) hS178 2 rfl) (St.rep (t := (Ty.sl (Ty.i .i64))) hS178 5 rfl) hx180) rfl ?_
                rintro _ wd181 ⟨rfl, he182⟩
                have hS184 := St.extend hS178 he182
                replace hS184 : St wd50 wd181 [(Ty.sl (Ty.sl (Ty.sl (Ty.i .i64)))).at u70 x68, bx b75 [u70], (Ty.sl (Ty.i .i64)).at u83 x81, (Ty.sl (Ty.i .i64)).at u90 x88, (Ty.sl (Ty.sl (Ty.sl (Ty.i .i64)))).at u158 x141, (Ty.sl (Ty.i .i64)).at u174 x172] := hS184
                refine WL.val (Value.bool (!x179)) _ (op_not rfl) rfl ?_
                refine WL.nil ?_
                refine W.cond (!x179) rfl (fun hc185 => ?_) (fun hc185 => ?_)
                · replace h := ip h hc185
                  refine W.seq (W.region ?_)
                  refine WL.val (Value.bool false) _ (op_assign rfl) rfl ?_
                  refine WL.nil ?_
                  refine W.ret ?_
                  obtain rfl := Option.some.inj h
                  show FinP _ _ _ _ _ _ _
                  exact FinP.ret _ (res1 rfl rfl) ⟨rfl, (Ext.trans hE55 hS184.ext)⟩
                · replace h := inegb h hc185
                  refine W.skip ?_
                  refine W.seq (W.seq (W.region ?_))
                  refine WL.val u90 _ (op_move e162) rfl ?_
                  refine WL.val v_aV _ (op_move e160) rfl ?_
                  obtain ⟨x187, hx188, h⟩ := bs h
                  refine WL.call _ (op_call fn_10 (args1 rfl)) (c_laws_toInt64S (Ty.lift _ (Ext.trans hE55 hS184.ext) r_aV) hx188) rfl ?_
                  rintro u189 wd190 ⟨_, rfl, he191, hs192⟩
                  have hS193 := St.join hS184 he191 hs192
                  replace hS193 : St wd50 wd190 [(Ty.sl (Ty.sl (Ty.sl (Ty.i .i64)))).at u70 x68, bx b75 [u70], (Ty.sl (Ty.i .i64)).at u83 x81, (Ty.sl (Ty.i .i64)).at u90 x88, (Ty.sl (Ty.sl (Ty.sl (Ty.i .i64)))).at u158 x141, (Ty.sl (Ty.i .i64)).at u174 x172, (Ty.sl (Ty.i .i64)).at u189 x187] := hS193
                  obtain ⟨x194, hx195, h⟩ := bs h
                  refine WL.call _ (op_call fn_13 (args2 rfl rfl)) (c_laws_eqInt64S (St.rep (t := (Ty.sl (Ty.i .i64))) hS193 3 rfl) (St.rep (t := (Ty.sl (Ty.i .i64))) hS193 6 rfl) hx195) rfl ?_
                  rintro _ wd196 ⟨rfl, he197⟩
                  have hS199 := St.extend hS193 he197
                  replace hS199 : St wd50 wd196 [(Ty.sl (Ty.sl (Ty.sl (Ty.i .i64)))).at u70 x68, bx b75 [u70], (Ty.sl (Ty.i .i64)).at u83 x81, (Ty.sl (Ty.i .i64)).at u90 x88, (Ty.sl (Ty.sl (Ty.sl (Ty.i .i64)))).at u158 x141, (Ty.sl (Ty.i .i64)).at u174 x172, (Ty.sl (Ty.i .i64)).at u189 x187] := hS199
                  refine WL.val (Value.bool (!x194)) _ (op_not rfl) rfl ?_
                  refine WL.nil ?_
                  refine W.cond (!x194) rfl (fun hc200 => ?_) (fun hc200 => ?_)
                  · replace h := ip h hc200
                    refine W.seq (W.region ?_)
                    refine WL.val (Value.bool false) _ (op_assign rfl) rfl ?_
                    refine WL.nil ?_
                    refine W.ret ?_
                    obtain rfl := Option.some.inj h
                    show FinP _ _ _ _ _ _ _
                    exact FinP.ret _ (res1 rfl rfl) ⟨rfl, (Ext.trans hE55 hS199.ext)⟩
                  · replace h := inegb h hc200
                    refine W.skip ?_
                    refine W.seq (W.region ?_)
                    refine WL.val (Value.bool true) _ (op_assign rfl) rfl ?_
                    refine WL.nil ?_
                    refine W.ret ?_
                    obtain rfl := Option.some.inj h
                    show FinP _ _ _ _ _ _ _
                    exact FinP.ret _ (res1 rfl rfl) ⟨rfl, (Ext.trans hE55 hS199.ext)⟩

end Go.VG
