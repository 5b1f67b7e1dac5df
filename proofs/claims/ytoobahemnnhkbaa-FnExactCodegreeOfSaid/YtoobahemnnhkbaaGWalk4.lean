/- The walks, part 4: each Go function returns what its plain twin returns. No condition beyond what each names. -/
import Derived.Test.YtoobahemnnhkbaaGWalk3
set_option linter.all false
namespace Go.VG
open Go.Proofs
attribute [local irreducible] W WL Sep FinP

theorem c_laws_eqInt64SSS {w : World} {a : (List (List (List Int)))} {v_a : Value} {b : (List (List (List Int)))} {v_b : Value} (r_a : (Ty.sl (Ty.sl (Ty.sl (Ty.i .i64)))).rep w v_a a) (r_b : (Ty.sl (Ty.sl (Ty.sl (Ty.i .i64)))).rep w v_b b) {res : Bool} (h : p_laws_eqInt64SSS a b  = some res) :
    Ret Try.prog 29 #[v_a, v_b] w (fun v w' => v = Value.bool res ∧ Ext w w') := by
  unfold p_laws_eqInt64SSS at h
  have hS0 : St w w [] := St.start w
  refine Ret.start (fn := Try.f29) Try.func29 rfl 27 rfl rfl ?_
  refine W.seq (W.region ?_)
  refine WL.val (Value.bool false) _ (op_assign rfl) rfl ?_
  refine WL.nil ?_
  refine W.seq (W.seq (W.region ?_))
  refine WL.val v_a _ (op_move rfl) rfl ?_
  have hr1 := inR_len (Ty.lift _ hS0.ext r_a)
  refine WL.val (Value.int .i64 ((a).length : Int)) _ (op_lenL sl_22 (Ty.lift _ hS0.ext r_a) rfl) rfl ?_
  refine WL.val v_b _ (op_move rfl) rfl ?_
  have hr2 := inR_len (Ty.lift _ hS0.ext r_b)
  refine WL.val (Value.int .i64 ((b).length : Int)) _ (op_lenL sl_22 (Ty.lift _ hS0.ext r_b) rfl) rfl ?_
  refine WL.val (Value.bool (((a).length : Int) != ((b).length : Int))) _ (op_neq rfl rfl) rfl ?_
  refine WL.nil ?_
  refine W.cond (((a).length : Int) != ((b).length : Int)) rfl (fun hc3 => ?_) (fun hc3 => ?_)
  · replace h := ip h hc3
    refine W.seq (W.region ?_)
    refine WL.val (Value.bool false) _ (op_assign rfl) rfl ?_
    refine WL.nil ?_
    refine W.ret ?_
    obtain rfl := Option.some.inj h
    show FinP _ _ _ _ _ _ _
    exact FinP.ret _ (res1 rfl rfl) ⟨rfl, hS0.ext⟩
  · replace h := inegb h hc3
    refine W.skip ?_
    refine W.seq (W.seq (W.region ?_))
    refine WL.val (Value.int .i64 (0 : Int)) _ (op_assign rfl) rfl ?_
    refine WL.nil ?_
    show W _ _ _ _ _ _
    obtain ⟨res5, hres6, h⟩ := bs h
    refine W.blockLoop (fun fq wq => ∃ s, res5 = Res.fin s ∧ St w wq []) ?_ ?_
    · refine W.forN (fun k (s : Unit) fq wq => fq 0 = v_a ∧ fq 1 = v_b ∧ fq 5 = Value.int .i64 (k : Int) ∧ InR .i64 (k : Int) ∧ St w wq []) hres6 ⟨rfl, rfl, rfl, (inL rfl), hS0⟩ ?_ ?_
      · intro k7 s138 ct8 f9 wd10 hk11 hb12 hI13 hbrk14 hret15
        obtain ⟨⟩ := s138
        replace hI13 : f9 0 = v_a ∧ f9 1 = v_b ∧ f9 5 = Value.int .i64 (k7 : Int) ∧ InR .i64 (k7 : Int) ∧ St w wd10 [] := hI13
        replace hb12 : p_laws_eqInt64SSS_L1 a b k7  = some ct8 := hb12
        unfold p_laws_eqInt64SSS_L1 at hb12
        obtain ⟨hf16, hf17, hf18, hr19, hS20⟩ := hI13
        refine W.seq (W.seq (W.region ?_))
        refine WL.val (Value.int .i64 (k7 : Int)) _ (op_move hf18) rfl ?_
        refine WL.val v_a _ (op_move hf16) rfl ?_
        have hr21 := inR_len (Ty.lift _ hS20.ext r_a)
        refine WL.val (Value.int .i64 ((a).length : Int)) _ (op_lenL sl_22 (Ty.lift _ hS20.ext r_a) rfl) rfl ?_
        refine WL.val (Value.bool (decide ((k7 : Int) < ((a).length : Int)))) _ (op_lss rfl rfl) rfl ?_
        have hl22 : (k7 : Int) < ((a).length : Int) := by omega
        refine WL.nil ?_
        refine W.condT (decide ((k7 : Int) < ((a).length : Int))) rfl (decide_eq_true hl22) ?_
        refine W.skip ?_
        refine W.seq ?_
        refine W.block ?_
        refine W.seq ?_
        obtain ⟨x53, hx56, hb12⟩ := bs hb12
        obtain ⟨ha54, hb55, hx56⟩ := idx_some hx56
        obtain ⟨u67, hc68, hr69⟩ := repSl.el r_a hx56
        obtain ⟨x99, hx102, hb12⟩ := bs hb12
        obtain ⟨ha100, hb101, hx102⟩ := idx_some hx102
        obtain ⟨u113, hc114, hr115⟩ := repSl.el r_b hx102
        refine W.drawR mixo 8 [] [fun _ v _ _ => v = v_a, fun _ v _ _ => v = (Value.int .i64 (k7 : Int)) ∧ InR .i64 (k7 : Int), fun _ v _ _ => v = (Value.pointer (some (elA v_a ((k7 : Int)).toNat))), fun _ v _ _ => v = u67, fun _ v _ _ => v = v_b, fun _ v _ _ => v = (Value.int .i64 (k7 : Int)) ∧ InR .i64 (k7 : Int), fun _ v _ _ => v = (Value.pointer (some (elA v_b ((k7 : Int)).toNat))), fun _ v _ _ => v = u113] (by kernel_rfl) (by kernel_rfl) ⟨pk, pk, pk, pk, pk, pk, pk, pk, trivial⟩ ⟨?_, ?_, ?_, ?_, ?_, ?_, ?_, ?_, trivial⟩ ?_
        · refine ObX.op rfl fun f24 wd25 he26 hout27 hphi28 => ?_
          have e30 : f24 0 = v_a := (hout27 0 rfl).trans hf16
          exact OpX.val v_a wd25 rfl (op_move e30) (Ext.refl _) rfl
        · refine ObX.op rfl fun f31 wd32 he33 hout34 hphi35 => ?_
          have e37 : f31 5 = (Value.int .i64 (k7 : Int)) := (hout34 5 rfl).trans hf18
          exact OpX.val (Value.int .i64 (k7 : Int)) wd32 rfl (op_move e37) (Ext.refl _) ⟨rfl, hr19⟩
        · refine ObX.op rfl fun f38 wd39 he40 hout41 hphi42 => ?_
          have hS43 := St.extend hS20 he40
          obtain ⟨S44, hS45, hf46⟩ := hphi42 0 17 _ rfl rfl rfl
          have e47 : f38 17 = v_a := hf46
          obtain ⟨S48, hS49, hf50⟩ := hphi42 1 18 _ rfl rfl rfl
          obtain ⟨e51, hr52⟩ := hf50
          exact OpX.val (Value.pointer (some (elA v_a ((k7 : Int)).toNat))) wd39 rfl (op_idx sl_22 (Ty.lift _ hS43.ext r_a) e47 e51 ha54 hb55) (Ext.refl _) rfl
        · refine ObX.op rfl fun f57 wd58 he59 hout60 hphi61 => ?_
          have hS62 := St.extend hS20 he59
          obtain ⟨S63, hS64, hf65⟩ := hphi61 2 19 _ rfl rfl rfl
          have e66 : f57 19 = (Value.pointer (some (elA v_a ((k7 : Int)).toNat))) := hf65
          exact OpX.val u67 wd58 rfl (op_load one_46 e66 (Ext.cell hS62.ext hc68)) (Ext.refl _) rfl
        · refine ObX.op rfl fun f70 wd71 he72 hout73 hphi74 => ?_
          have e76 : f70 1 = v_b := (hout73 1 rfl).trans hf17
          exact OpX.val v_b wd71 rfl (op_move e76) (Ext.refl _) rfl
        · refine ObX.op rfl fun f77 wd78 he79 hout80 hphi81 => ?_
          have e83 : f77 5 = (Value.int .i64 (k7 : Int)) := (hout80 5 rfl).trans hf18
          exact OpX.val (Value.int .i64 (k7 : Int)) wd78 rfl (op_move e83) (Ext.refl _) ⟨rfl, hr19⟩
        · refine ObX.op rfl fun f84 wd85 he86 hout87 hphi88 => ?_
          have hS89 := St.extend hS20 he86
          obtain ⟨S90, hS91, hf92⟩ := hphi88 4 21 _ rfl rfl rfl
          have e93 : f84 21 = v_b := hf92
          obtain ⟨S94, hS95, hf96⟩ := hphi88 5 22 _ rfl rfl rfl
          obtain ⟨e97, hr98⟩ := hf96
          exact OpX.val (Value.pointer (some (elA v_b ((k7 : Int)).toNat))) wd85 rfl (op_idx sl_22 (Ty.lift _ hS89.ext r_b) e93 e97 ha100 hb101) (Ext.refl _) rfl
        · refine ObX.op rfl fun f103 wd104 he105 hout106 hphi107 => ?_
          have hS108 := St.extend hS20 he105
          obtain ⟨S109, hS110, hf111⟩ := hphi107 6 23 _ rfl rfl rfl
          have e112 : f103 23 = (Value.pointer (some (elA v_b ((k7 : Int)).toNat))) := hf111
          exact OpX.val u113 wd104 rfl (op_load one_46 e112 (Ext.cell hS108.ext hc114)) (Ext.refl _) rfl
        · intro f116 wd117 Ss118 he119 hout120 hSn121 hSd122 hphi123
          show WL _ _ _ _ _ _ _
          have hS124 := St.extend hS20 he119
          have e125 : f116 20 = u67 := hphi123 3 20 _ (by decide) rfl rfl
          have e126 : f116 24 = u113 := hphi123 7 24 _ (by decide) rfl rfl
          have e127 : f116 0 = v_a := (hout120 0 rfl).trans hf16
          have e128 : f116 1 = v_b := (hout120 1 rfl).trans hf17
          have e129 : f116 5 = (Value.int .i64 (k7 : Int)) := (hout120 5 rfl).trans hf18
          obtain ⟨x130, hx131, hb12⟩ := bs hb12
          refine WL.call _ (op_call fn_46 (args2 e125 e126)) (c_laws_eqInt64SS (Ty.lift _ hS124.ext hr69) (Ty.lift _ hS124.ext hr115) hx131) rfl ?_
          rintro _ wd132 ⟨rfl, he133⟩
          have hS135 := St.extend hS124 he133
          replace hS135 : St w wd132 [] := hS135
          refine WL.val (Value.bool (!x130)) _ (op_not rfl) rfl ?_
          refine WL.nil ?_
          refine W.cond (!x130) rfl (fun hc136 => ?_) (fun hc136 => ?_)
          · replace hb12 := ip hb12 hc136
            refine W.seq (W.region ?_)
            refine WL.val (Value.bool false) _ (op_assign rfl) rfl ?_
            refine WL.nil ?_
            refine W.ret ?_
            obtain rfl := Option.some.inj hb12
            obtain rfl := hret15 _ rfl
            replace h := onRes_ret h
            obtain rfl := Option.some.inj h
            show FinP _ _ _ _ _ _ _
            exact FinP.ret _ (res1 rfl rfl) ⟨rfl, hS135.ext⟩
          · replace hb12 := inegb hb12 hc136
            refine W.skip ?_
            show W _ _ _ _ _ _
            refine W.region ?_
            refine WL.val (Value.int .i64 (k7 : Int)) _ (op_move e129) rfl ?_
            refine WL.val (Value.int .i64 (w64 ((k7 : Int) + (1 : Int)))) _ (op_add rfl rfl) rfl ?_
            refine WL.val (Value.int .i64 (w64 ((k7 : Int) + (1 : Int)))) _ (op_assign rfl) rfl ?_
            refine WL.nil ?_
            obtain rfl := Option.some.inj hb12
            show ∃ s, _ = Ctl.next s ∧ _
            exact ⟨_, rfl, e127, e128, (ctr_next hl22 hr21), (ctr_rng hl22 hr21), hS135⟩
      · intro s143 f139 wd140 hs141 hI142
        obtain ⟨⟩ := s143
        replace hI142 : f139 0 = v_a ∧ f139 1 = v_b ∧ f139 5 = Value.int .i64 (((a).length : Nat) : Int) ∧ InR .i64 (((a).length : Nat) : Int) ∧ St w wd140 [] := hI142
        obtain ⟨hf144, hf145, hf146, hr147, hS148⟩ := hI142
        refine W.seq (W.seq (W.region ?_))
        refine WL.val (Value.int .i64 (((a).length : Nat) : Int)) _ (op_move hf146) rfl ?_
        refine WL.val v_a _ (op_move hf144) rfl ?_
        have hr149 := inR_len (Ty.lift _ hS148.ext r_a)
        refine WL.val (Value.int .i64 ((a).length : Int)) _ (op_lenL sl_22 (Ty.lift _ hS148.ext r_a) rfl) rfl ?_
        refine WL.val (Value.bool (decide ((((a).length : Nat) : Int) < ((a).length : Int)))) _ (op_lss rfl rfl) rfl ?_
        have hl150 : ¬ (((a).length : Nat) : Int) < ((a).length : Int) := by omega
        refine WL.nil ?_
        refine W.condF (decide ((((a).length : Nat) : Int) < ((a).length : Int))) rfl (decide_eq_false hl150) ?_
        refine W.exit ?_
        show _ = _ ∧ _
        exact ⟨rfl, _, hs141, hS148⟩
    · rintro f151 wd152 ⟨s154, rfl, hq153⟩
      replace h := onRes_fin h
      obtain ⟨⟩ := s154
      replace hq153 : St w wd152 [] := hq153
      have hS155 := hq153
      refine W.seq (W.region ?_)
      refine WL.val (Value.bool true) _ (op_assign rfl) rfl ?_
      refine WL.nil ?_
      refine W.ret ?_
      obtain rfl := Option.some.inj h
      show FinP _ _ _ _ _ _ _
      exact FinP.ret _ (res1 rfl rfl) ⟨rfl, hS155.ext⟩

theorem c_laws_eqRing {w : World} {a_Table : (List (List (List Int)))} {v_a_Table : Value} {b_Table : (List (List (List Int)))} {v_b_Table : Value} (r_a_Table : (Ty.sl (Ty.sl (Ty.sl (Ty.i .i64)))).rep w v_a_Table a_Table) (r_b_Table : (Ty.sl (Ty.sl (Ty.sl (Ty.i .i64)))).rep w v_b_Table b_Table) {res : Bool} (h : p_laws_eqRing a_Table b_Table  = some res) :
    Ret Try.prog 12 #[(Value.agg #[v_a_Table]), (Value.agg #[v_b_Table])] w (fun v w' => v = Value.bool res ∧ Ext w w') := by
  unfold p_laws_eqRing at h
  have hS0 : St w w [] := St.start w
  refine Ret.start (fn := Try.f12) Try.func12 rfl 11 rfl rfl ?_
  refine W.seq (W.region ?_)
  refine WL.box hS0 rfl (cs := [v_a_Table]) rfl rfl ?_
  intro b1 wd2 hS3 he4 hx5
  replace hS3 : St w wd2 [bx b1 [v_a_Table]] := hS3
  have hx6 := St.boxAt hS3 0 rfl
  have hE7 : Ext w wd2 := hS3.ext
  have hS8 : St wd2 wd2 [] := St.start wd2
  refine WL.box hS8 rfl (cs := [v_b_Table]) rfl rfl ?_
  intro b9 wd10 hS11 he12 hx13
  replace hS11 : St wd2 wd10 [bx b9 [v_b_Table]] := hS11
  have hx14 := St.boxAt hS11 0 rfl
  have hE15 : Ext w wd10 := (Ext.trans hE7 hS11.ext)
  have hE16 : Ext wd2 wd10 := hS11.ext
  have hS17 : St wd10 wd10 [] := St.start wd10
  refine WL.val (Value.bool false) _ (op_assign rfl) rfl ?_
  refine WL.nil ?_
  refine W.seq (W.seq (W.region ?_))
  refine WL.val (Value.pointer (some ⟨b1, 0, none⟩)) _ (op_fieldAddr fd_29_0 rfl) rfl ?_
  refine WL.val v_a_Table _ (op_load one_22 rfl (BoxAt.cell (BoxAt.lift (Ext.trans hE16 hS17.ext) hx6) rfl)) rfl ?_
  refine WL.val (Value.pointer (some ⟨b9, 0, none⟩)) _ (op_fieldAddr fd_29_0 rfl) rfl ?_
  refine WL.val v_b_Table _ (op_load one_22 rfl (BoxAt.cell (BoxAt.lift hS17.ext hx14) rfl)) rfl ?_
  obtain ⟨x18, hx19, h⟩ := bs h
  refine WL.call _ (op_call fn_29 (args2 rfl rfl)) (c_laws_eqInt64SSS (Ty.lift _ (Ext.trans hE15 hS17.ext) r_a_Table) (Ty.lift _ (Ext.trans hE15 hS17.ext) r_b_Table) hx19) rfl ?_
  rintro _ wd20 ⟨rfl, he21⟩
  have hS23 := St.extend hS17 he21
  replace hS23 : St wd10 wd20 [] := hS23
  refine WL.val (Value.bool (!x18)) _ (op_not rfl) rfl ?_
  refine WL.nil ?_
  refine W.cond (!x18) rfl (fun hc24 => ?_) (fun hc24 => ?_)
  · replace h := ip h hc24
    refine W.seq (W.region ?_)
    refine WL.val (Value.bool false) _ (op_assign rfl) rfl ?_
    refine WL.nil ?_
    refine W.ret ?_
    obtain rfl := Option.some.inj h
    show FinP _ _ _ _ _ _ _
    exact FinP.ret _ (res1 rfl rfl) ⟨rfl, (Ext.trans hE15 hS23.ext)⟩
  · replace h := inegb h hc24
    refine W.skip ?_
    refine W.seq (W.region ?_)
    refine WL.val (Value.bool true) _ (op_assign rfl) rfl ?_
    refine WL.nil ?_
    refine W.ret ?_
    obtain rfl := Option.some.inj h
    show FinP _ _ _ _ _ _ _
    exact FinP.ret _ (res1 rfl rfl) ⟨rfl, (Ext.trans hE15 hS23.ext)⟩

theorem c_spec_l03Duals {w : World} {r_Table : (List (List (List Int)))} {v_r_Table : Value} (r_r_Table : (Ty.sl (Ty.sl (Ty.sl (Ty.i .i64)))).rep w v_r_Table r_Table) {res : (List Int)} (h : p_spec_l03Duals r_Table  = some res) :
    Ret Try.prog 31 #[(Value.agg #[v_r_Table])] w (fun v w' => ∃ (u0 : Value), v = u0 ∧ Ext w w' ∧ Sep w.heap.size w' [(Ty.sl (Ty.i .i64)).at u0 res]) := by
  unfold p_spec_l03Duals at h
  have hS0 : St w w [] := St.start w
  refine Ret.start (fn := Try.f31) Try.func31 rfl 21 rfl rfl ?_
  refine W.seq (W.region ?_)
  refine WL.box hS0 rfl (cs := [v_r_Table]) rfl rfl ?_
  intro b1 wd2 hS3 he4 hx5
  replace hS3 : St w wd2 [bx b1 [v_r_Table]] := hS3
  have hx6 := St.boxAt hS3 0 rfl
  have hE7 : Ext w wd2 := hS3.ext
  have hS8 : St wd2 wd2 [] := St.start wd2
  refine WL.val (Value.slice none 0 0) _ (op_assign rfl) rfl ?_
  refine WL.nil ?_
  refine W.seq (W.region ?_)
  refine WL.lit0 (t := (Ty.i .i64)) hS8 sl_25 rfl rfl ?_
  intro u9 wd10 hS11 he12
  replace hS11 : St wd2 wd10 [(Ty.sl (Ty.i .i64)).at u9 ([] : (List Int))] := hS11
  refine WL.val u9 _ (op_assign rfl) rfl ?_
  refine WL.nil ?_
  refine W.seq (W.seq (W.region ?_))
  refine WL.val (Value.int .i64 (0 : Int)) _ (op_assign rfl) rfl ?_
  refine WL.nil ?_
  show W _ _ _ _ _ _
  obtain ⟨res13, hres14, h⟩ := bs h
  refine W.blockLoop (fun fq wq => ∃ s, res13 = Res.fin s ∧ ∃ (uu0 : Value), fq 3 = uu0 ∧ St wd2 wq [(Ty.sl (Ty.i .i64)).at uu0 s]) ?_ ?_
  · refine W.forN (fun k (s : (List Int)) fq wq => ∃ (uu0 : Value), fq 1 = (Value.pointer (some ⟨b1, 0, none⟩)) ∧ fq 3 = uu0 ∧ fq 4 = Value.int .i64 (k : Int) ∧ InR .i64 (k : Int) ∧ St wd2 wq [(Ty.sl (Ty.i .i64)).at uu0 s]) hres14 ⟨u9, rfl, rfl, rfl, (inL rfl), hS11⟩ ?_ ?_
    · intro k15 x16 ct17 f18 wd19 hk20 hb21 hI22 hbrk23 hret24
      replace hI22 : ∃ (uu0 : Value), f18 1 = (Value.pointer (some ⟨b1, 0, none⟩)) ∧ f18 3 = uu0 ∧ f18 4 = Value.int .i64 (k15 : Int) ∧ InR .i64 (k15 : Int) ∧ St wd2 wd19 [(Ty.sl (Ty.i .i64)).at uu0 x16] := hI22
      replace hb21 : p_spec_l03Duals_L1 r_Table k15 x16 = some ct17 := hb21
      unfold p_spec_l03Duals_L1 at hb21
      obtain ⟨u25, hf26, hf27, hf28, hr29, hS30⟩ := hI22
      refine W.seq (W.seq (W.region ?_))
      refine WL.val (Value.int .i64 (k15 : Int)) _ (op_move hf28) rfl ?_
      refine WL.val (Value.pointer (some ⟨b1, 0, none⟩)) _ (op_fieldAddr fd_29_0 hf26) rfl ?_
      refine WL.val v_r_Table _ (op_load one_22 rfl (BoxAt.cell (BoxAt.lift hS30.ext hx6) rfl)) rfl ?_
      have hr31 := inR_len (Ty.lift _ (Ext.trans hE7 hS30.ext) r_r_Table)
      refine WL.val (Value.int .i64 ((r_Table).length : Int)) _ (op_lenL sl_22 (Ty.lift _ (Ext.trans hE7 hS30.ext) r_r_Table) rfl) rfl ?_
      refine WL.val (Value.bool (decide ((k15 : Int) < ((r_Table).length : Int)))) _ (op_lss rfl rfl) rfl ?_
      have hl32 : (k15 : Int) < ((r_Table).length : Int) := by omega
      refine WL.nil ?_
      refine W.condT (decide ((k15 : Int) < ((r_Table).length : Int))) rfl (decide_eq_true hl32) ?_
      refine W.skip ?_
      refine W.seq ?_
      refine W.block ?_
      refine W.region ?_
      refine WL.val u25 _ (op_move hf27) rfl ?_
      refine WL.val (Value.pointer (some ⟨b1, 0, none⟩)) _ (op_fieldAddr fd_29_0 hf26) rfl ?_
      refine WL.val v_r_Table _ (op_load one_22 rfl (BoxAt.cell (BoxAt.lift hS30.ext hx6) rfl)) rfl ?_
      refine WL.val (Value.int .i64 (k15 : Int)) _ (op_move hf28) rfl ?_
      obtain ⟨x34, hx35, hb21⟩ := bs hb21
      refine WL.call _ (op_call fn_47 (args2 rfl rfl)) (c_spec_l03Dual (Ty.lift _ (Ext.trans hE7 hS30.ext) r_r_Table) hr29 hx35) rfl ?_
      rintro _ wd37 ⟨rfl, hr36, he38⟩
      have hS40 := St.extend hS30 he38
      replace hS40 : St wd2 wd37 [(Ty.sl (Ty.i .i64)).at u25 x16] := hS40
      refine WL.litFlat (t := (Ty.i .i64)) (flat_i .i64) [(Value.int .i64 x34)] [x34] hS40 sl_25 rfl rfl (fillL rfl ⟨rfl, rfl, rfl, trivial⟩) rfl rfl (litL ⟨⟨rfl, hr36⟩, trivial⟩) rfl ?_
      intro u41 wd42 hS43 he44
      replace hS43 : St wd2 wd42 [(Ty.sl (Ty.i .i64)).at u25 x16, (Ty.sl (Ty.i .i64)).at u41 ([x34] : (List Int))] := hS43
      obtain ⟨x45, hx46, hb21⟩ := bs hb21
      refine WL.append (flat_i .i64) hS43 (k := 0) rfl sl_25 rfl rfl rfl rfl (St.rep (t := (Ty.sl (Ty.i .i64))) hS43 1 rfl) hx46 rfl ?_
      intro u47 wd48 hS49 hz50
      replace hS49 : St wd2 wd48 [(Ty.sl (Ty.i .i64)).at u47 x45, (Ty.sl (Ty.i .i64)).at u41 ([x34] : (List Int))] := hS49
      refine WL.val u47 _ (op_assign rfl) rfl ?_
      refine WL.nil ?_
      show W _ _ _ _ _ _
      refine W.region ?_
      refine WL.val (Value.int .i64 (k15 : Int)) _ (op_move hf28) rfl ?_
      refine WL.val (Value.int .i64 (w64 ((k15 : Int) + (1 : Int)))) _ (op_add rfl rfl) rfl ?_
      refine WL.val (Value.int .i64 (w64 ((k15 : Int) + (1 : Int)))) _ (op_assign rfl) rfl ?_
      refine WL.nil ?_
      obtain rfl := Option.some.inj hb21
      show ∃ s, _ = Ctl.next s ∧ _
      exact ⟨_, rfl, u47, hf26, rfl, (ctr_next hl32 hr31), (ctr_rng hl32 hr31), (St.pick hS49 [0] rfl)⟩
    · intro x57 f52 wd53 hs54 hI55
      replace hI55 : ∃ (uu0 : Value), f52 1 = (Value.pointer (some ⟨b1, 0, none⟩)) ∧ f52 3 = uu0 ∧ f52 4 = Value.int .i64 (((r_Table).length : Nat) : Int) ∧ InR .i64 (((r_Table).length : Nat) : Int) ∧ St wd2 wd53 [(Ty.sl (Ty.i .i64)).at uu0 x57] := hI55
      obtain ⟨u58, hf59, hf60, hf61, hr62, hS63⟩ := hI55
      refine W.seq (W.seq (W.region ?_))
      refine WL.val (Value.int .i64 (((r_Table).length : Nat) : Int)) _ (op_move hf61) rfl ?_
      refine WL.val (Value.pointer (some ⟨b1, 0, none⟩)) _ (op_fieldAddr fd_29_0 hf59) rfl ?_
      refine WL.val v_r_Table _ (op_load one_22 rfl (BoxAt.cell (BoxAt.lift hS63.ext hx6) rfl)) rfl ?_
      have hr64 := inR_len (Ty.lift _ (Ext.trans hE7 hS63.ext) r_r_Table)
      refine WL.val (Value.int .i64 ((r_Table).length : Int)) _ (op_lenL sl_22 (Ty.lift _ (Ext.trans hE7 hS63.ext) r_r_Table) rfl) rfl ?_
      refine WL.val (Value.bool (decide ((((r_Table).length : Nat) : Int) < ((r_Table).length : Int)))) _ (op_lss rfl rfl) rfl ?_
      have hl65 : ¬ (((r_Table).length : Nat) : Int) < ((r_Table).length : Int) := by omega
      refine WL.nil ?_
      refine W.condF (decide ((((r_Table).length : Nat) : Int) < ((r_Table).length : Int))) rfl (decide_eq_false hl65) ?_
      refine W.exit ?_
      show _ = _ ∧ _
      exact ⟨rfl, _, hs54, u58, hf60, hS63⟩
  · rintro f66 wd67 ⟨x70, rfl, hq68⟩
    replace h := onRes_fin h
    replace hq68 : ∃ (uu0 : Value), f66 3 = uu0 ∧ St wd2 wd67 [(Ty.sl (Ty.i .i64)).at uu0 x70] := hq68
    obtain ⟨u71, hf72, hS73⟩ := hq68
    refine W.seq (W.region ?_)
    refine WL.val u71 _ (op_move hf72) rfl ?_
    refine WL.val u71 _ (op_assign rfl) rfl ?_
    refine WL.nil ?_
    refine W.ret ?_
    obtain rfl := Option.some.inj h
    show FinP _ _ _ _ _ _ _
    exact FinP.ret _ (res1 rfl rfl) ⟨u71, rfl, (Ext.trans hE7 hS73.ext), (St.out (St.pick hS73 [0] rfl) (hE7))⟩

theorem c_spec_l08Pair {w : World} {x : (List Int)} {v_x : Value} {y : (List Int)} {v_y : Value} {duals : (List Int)} {v_duals : Value} (r_x : (Ty.sl (Ty.i .i64)).rep w v_x x) (r_y : (Ty.sl (Ty.i .i64)).rep w v_y y) (r_duals : (Ty.sl (Ty.i .i64)).rep w v_duals duals) {res : Int} (h : p_spec_l08Pair x y duals  = some res) :
    Ret Try.prog 30 #[v_x, v_y, v_duals] w (fun v w' => v = Value.int .i64 res ∧ InR .i64 res ∧ Ext w w') := by
  unfold p_spec_l08Pair at h
  have hS0 : St w w [] := St.start w
  refine Ret.start (fn := Try.f30) Try.func30 rfl 31 rfl rfl ?_
  refine W.seq (W.region ?_)
  refine WL.val (Value.int .i64 (0 : Int)) _ (op_assign rfl) rfl ?_
  refine WL.nil ?_
  refine W.seq (W.region ?_)
  refine WL.val (Value.int .i64 (0 : Int)) _ (op_assign rfl) rfl ?_
  refine WL.nil ?_
  refine W.seq (W.seq (W.region ?_))
  refine WL.val (Value.int .i64 (0 : Int)) _ (op_assign rfl) rfl ?_
  refine WL.nil ?_
  show W _ _ _ _ _ _
  obtain ⟨res1, hres2, h⟩ := bs h
  refine W.blockLoop (fun fq wq => ∃ s, res1 = Res.fin s ∧ fq 7 = Value.int .i64 s ∧ InR .i64 s ∧ St w wq []) ?_ ?_
  · refine W.forN (fun k (s : Int) fq wq => fq 0 = v_x ∧ fq 1 = v_y ∧ fq 2 = v_duals ∧ fq 7 = Value.int .i64 s ∧ InR .i64 s ∧ fq 8 = Value.int .i64 (k : Int) ∧ InR .i64 (k : Int) ∧ St w wq []) hres2 ⟨rfl, rfl, rfl, rfl, (inL rfl), rfl, (inL rfl), hS0⟩ ?_ ?_
    · intro k3 x4 ct5 f6 wd7 hk8 hb9 hI10 hbrk11 hret12
      replace hI10 : f6 0 = v_x ∧ f6 1 = v_y ∧ f6 2 = v_duals ∧ f6 7 = Value.int .i64 x4 ∧ InR .i64 x4 ∧ f6 8 = Value.int .i64 (k3 : Int) ∧ InR .i64 (k3 : Int) ∧ St w wd7 [] := hI10
      replace hb9 : p_spec_l08Pair_L1 x duals y k3 x4 = some ct5 := hb9
      unfold p_spec_l08Pair_L1 at hb9
      obtain ⟨hf13, hf14, hf15, hf16, hr17, hf18, hr19, hS20⟩ := hI10
      refine W.seq (W.seq (W.region ?_))
      refine WL.val (Value.int .i64 (k3 : Int)) _ (op_move hf18) rfl ?_
      refine WL.val v_x _ (op_move hf13) rfl ?_
      have hr21 := inR_len (Ty.lift _ hS20.ext r_x)
      refine WL.val (Value.int .i64 ((x).length : Int)) _ (op_lenL sl_25 (Ty.lift _ hS20.ext r_x) rfl) rfl ?_
      refine WL.val (Value.bool (decide ((k3 : Int) < ((x).length : Int)))) _ (op_lss rfl rfl) rfl ?_
      have hl22 : (k3 : Int) < ((x).length : Int) := by omega
      refine WL.nil ?_
      refine W.condT (decide ((k3 : Int) < ((x).length : Int))) rfl (decide_eq_true hl22) ?_
      refine W.skip ?_
      refine W.seq ?_
      refine W.block ?_
      obtain ⟨x60, hx63, hb9⟩ := bs hb9
      obtain ⟨ha61, hb62, hx63⟩ := idx_some hx63
      obtain ⟨u74, hc75, hr76⟩ := repSl.el r_x hx63
      obtain ⟨rfl, hr76⟩ := hr76
      obtain ⟨x113, hx116, hb9⟩ := bs hb9
      obtain ⟨ha114, hb115, hx116⟩ := idx_some hx116
      obtain ⟨u127, hc128, hr129⟩ := repSl.el r_duals hx116
      obtain ⟨rfl, hr129⟩ := hr129
      obtain ⟨x145, hx148, hb9⟩ := bs hb9
      obtain ⟨ha146, hb147, hx148⟩ := idx_some hx148
      obtain ⟨u159, hc160, hr161⟩ := repSl.el r_y hx148
      obtain ⟨rfl, hr161⟩ := hr161
      refine W.drawR mixo 13 [] [fun _ v _ _ => v = (Value.int .i64 x4) ∧ InR .i64 x4, fun _ v _ _ => v = v_x, fun _ v _ _ => v = (Value.int .i64 (k3 : Int)) ∧ InR .i64 (k3 : Int), fun _ v _ _ => v = (Value.pointer (some (elA v_x ((k3 : Int)).toNat))), fun _ v _ _ => v = (Value.int .i64 x60) ∧ InR .i64 x60, fun _ v _ _ => v = v_y, fun _ v _ _ => v = v_duals, fun _ v _ _ => v = (Value.int .i64 (k3 : Int)) ∧ InR .i64 (k3 : Int), fun _ v _ _ => v = (Value.pointer (some (elA v_duals ((k3 : Int)).toNat))), fun _ v _ _ => v = (Value.int .i64 x113) ∧ InR .i64 x113, fun _ v _ _ => v = (Value.pointer (some (elA v_y (x113).toNat))), fun _ v _ _ => v = (Value.int .i64 x145) ∧ InR .i64 x145, fun _ v _ _ => v = (Value.int .i64 (w64 (x60 * x145))) ∧ InR .i64 (w64 (x60 * x145))] (by kernel_rfl) (by kernel_rfl) ⟨pk, pk, pk, pk, pk, pk, pk, pk, pk, pk, pk, pk, pk, trivial⟩ ⟨?_, ?_, ?_, ?_, ?_, ?_, ?_, ?_, ?_, ?_, ?_, ?_, ?_, trivial⟩ ?_
      · refine ObX.op rfl fun f24 wd25 he26 hout27 hphi28 => ?_
        have e30 : f24 7 = (Value.int .i64 x4) := (hout27 7 rfl).trans hf16
        exact OpX.val (Value.int .i64 x4) wd25 rfl (op_move e30) (Ext.refl _) ⟨rfl, hr17⟩
      · refine ObX.op rfl fun f31 wd32 he33 hout34 hphi35 => ?_
        have e37 : f31 0 = v_x := (hout34 0 rfl).trans hf13
        exact OpX.val v_x wd32 rfl (op_move e37) (Ext.refl _) rfl
      · refine ObX.op rfl fun f38 wd39 he40 hout41 hphi42 => ?_
        have e44 : f38 8 = (Value.int .i64 (k3 : Int)) := (hout41 8 rfl).trans hf18
        exact OpX.val (Value.int .i64 (k3 : Int)) wd39 rfl (op_move e44) (Ext.refl _) ⟨rfl, hr19⟩
      · refine ObX.op rfl fun f45 wd46 he47 hout48 hphi49 => ?_
        have hS50 := St.extend hS20 he47
        obtain ⟨S51, hS52, hf53⟩ := hphi49 1 16 _ rfl rfl rfl
        have e54 : f45 16 = v_x := hf53
        obtain ⟨S55, hS56, hf57⟩ := hphi49 2 17 _ rfl rfl rfl
        obtain ⟨e58, hr59⟩ := hf57
        exact OpX.val (Value.pointer (some (elA v_x ((k3 : Int)).toNat))) wd46 rfl (op_idx sl_25 (Ty.lift _ hS50.ext r_x) e54 e58 ha61 hb62) (Ext.refl _) rfl
      · refine ObX.op rfl fun f64 wd65 he66 hout67 hphi68 => ?_
        have hS69 := St.extend hS20 he66
        obtain ⟨S70, hS71, hf72⟩ := hphi68 3 18 _ rfl rfl rfl
        have e73 : f64 18 = (Value.pointer (some (elA v_x ((k3 : Int)).toNat))) := hf72
        exact OpX.val (Value.int .i64 x60) wd65 rfl (op_load one_2 e73 (Ext.cell hS69.ext hc75)) (Ext.refl _) ⟨rfl, hr76⟩
      · refine ObX.op rfl fun f77 wd78 he79 hout80 hphi81 => ?_
        have e83 : f77 1 = v_y := (hout80 1 rfl).trans hf14
        exact OpX.val v_y wd78 rfl (op_move e83) (Ext.refl _) rfl
      · refine ObX.op rfl fun f84 wd85 he86 hout87 hphi88 => ?_
        have e90 : f84 2 = v_duals := (hout87 2 rfl).trans hf15
        exact OpX.val v_duals wd85 rfl (op_move e90) (Ext.refl _) rfl
      · refine ObX.op rfl fun f91 wd92 he93 hout94 hphi95 => ?_
        have e97 : f91 8 = (Value.int .i64 (k3 : Int)) := (hout94 8 rfl).trans hf18
        exact OpX.val (Value.int .i64 (k3 : Int)) wd92 rfl (op_move e97) (Ext.refl _) ⟨rfl, hr19⟩
      · refine ObX.op rfl fun f98 wd99 he100 hout101 hphi102 => ?_
        have hS103 := St.extend hS20 he100
        obtain ⟨S104, hS105, hf106⟩ := hphi102 6 21 _ rfl rfl rfl
        have e107 : f98 21 = v_duals := hf106
        obtain ⟨S108, hS109, hf110⟩ := hphi102 7 22 _ rfl rfl rfl
        obtain ⟨e111, hr112⟩ := hf110
        exact OpX.val (Value.pointer (some (elA v_duals ((k3 : Int)).toNat))) wd99 rfl (op_idx sl_25 (Ty.lift _ hS103.ext r_duals) e107 e111 ha114 hb115) (Ext.refl _) rfl
      · refine ObX.op rfl fun f117 wd118 he119 hout120 hphi121 => ?_
        have hS122 := St.extend hS20 he119
        obtain ⟨S123, hS124, hf125⟩ := hphi121 8 23 _ rfl rfl rfl
        have e126 : f117 23 = (Value.pointer (some (elA v_duals ((k3 : Int)).toNat))) := hf125
        exact OpX.val (Value.int .i64 x113) wd118 rfl (op_load one_2 e126 (Ext.cell hS122.ext hc128)) (Ext.refl _) ⟨rfl, hr129⟩
      · refine ObX.op rfl fun f130 wd131 he132 hout133 hphi134 => ?_
        have hS135 := St.extend hS20 he132
        obtain ⟨S136, hS137, hf138⟩ := hphi134 5 20 _ rfl rfl rfl
        have e139 : f130 20 = v_y := hf138
        obtain ⟨S140, hS141, hf142⟩ := hphi134 9 24 _ rfl rfl rfl
        obtain ⟨e143, hr144⟩ := hf142
        exact OpX.val (Value.pointer (some (elA v_y (x113).toNat))) wd131 rfl (op_idx sl_25 (Ty.lift _ hS135.ext r_y) e139 e143 ha146 hb147) (Ext.refl _) rfl
      · refine ObX.op rfl fun f149 wd150 he151 hout152 hphi153 => ?_
        have hS154 := St.extend hS20 he151
        obtain ⟨S155, hS156, hf157⟩ := hphi153 10 25 _ rfl rfl rfl
        have e158 : f149 25 = (Value.pointer (some (elA v_y (x113).toNat))) := hf157
        exact OpX.val (Value.int .i64 x145) wd150 rfl (op_load one_2 e158 (Ext.cell hS154.ext hc160)) (Ext.refl _) ⟨rfl, hr161⟩
      · refine ObX.op rfl fun f162 wd163 he164 hout165 hphi166 => ?_
        obtain ⟨S168, hS169, hf170⟩ := hphi166 4 19 _ rfl rfl rfl
        obtain ⟨e171, hr172⟩ := hf170
        obtain ⟨S173, hS174, hf175⟩ := hphi166 11 26 _ rfl rfl rfl
        obtain ⟨e176, hr177⟩ := hf175
        exact OpX.val (Value.int .i64 (w64 (x60 * x145))) wd163 rfl (op_mul e171 e176) (Ext.refl _) ⟨rfl, (inR_wrap _ _)⟩
      · intro f178 wd179 Ss180 he181 hout182 hSn183 hSd184 hphi185
        show WL _ _ _ _ _ _ _
        have hS186 := St.extend hS20 he181
        obtain ⟨e187, hr188⟩ := hphi185 0 15 _ (by decide) rfl rfl
        obtain ⟨e189, hr190⟩ := hphi185 12 27 _ (by decide) rfl rfl
        have e191 : f178 0 = v_x := (hout182 0 rfl).trans hf13
        have e192 : f178 1 = v_y := (hout182 1 rfl).trans hf14
        have e193 : f178 2 = v_duals := (hout182 2 rfl).trans hf15
        have e194 : f178 8 = (Value.int .i64 (k3 : Int)) := (hout182 8 rfl).trans hf18
        refine WL.val (Value.int .i64 (w64 (x4 + (w64 (x60 * x145))))) _ (op_add e187 e189) rfl ?_
        refine WL.val (Value.int .i64 (((w64 (x4 + (w64 (x60 * x145))))).tmod (55441 : Int))) _ (op_rem (b := 55441) rfl rfl (by decide)) rfl ?_
        refine WL.val (Value.int .i64 (((w64 (x4 + (w64 (x60 * x145))))).tmod (55441 : Int))) _ (op_assign rfl) rfl ?_
        refine WL.nil ?_
        show W _ _ _ _ _ _
        refine W.region ?_
        refine WL.val (Value.int .i64 (k3 : Int)) _ (op_move e194) rfl ?_
        refine WL.val (Value.int .i64 (w64 ((k3 : Int) + (1 : Int)))) _ (op_add rfl rfl) rfl ?_
        refine WL.val (Value.int .i64 (w64 ((k3 : Int) + (1 : Int)))) _ (op_assign rfl) rfl ?_
        refine WL.nil ?_
        obtain rfl := Option.some.inj hb9
        show ∃ s, _ = Ctl.next s ∧ _
        exact ⟨_, rfl, e191, e192, e193, rfl, (inR_tmod (inR_wrap _ _)), (ctr_next hl22 hr21), (ctr_rng hl22 hr21), hS186⟩
    · intro x201 f196 wd197 hs198 hI199
      replace hI199 : f196 0 = v_x ∧ f196 1 = v_y ∧ f196 2 = v_duals ∧ f196 7 = Value.int .i64 x201 ∧ InR .i64 x201 ∧ f196 8 = Value.int .i64 (((x).length : Nat) : Int) ∧ InR .i64 (((x).length : Nat) : Int) ∧ St w wd197 [] := hI199
      obtain ⟨hf202, hf203, hf204, hf205, hr206, hf207, hr208, hS209⟩ := hI199
      refine W.seq (W.seq (W.region ?_))
      refine WL.val (Value.int .i64 (((x).length : Nat) : Int)) _ (op_move hf207) rfl ?_
      refine WL.val v_x _ (op_move hf202) rfl ?_
      have hr210 := inR_len (Ty.lift _ hS209.ext r_x)
      refine WL.val (Value.int .i64 ((x).length : Int)) _ (op_lenL sl_25 (Ty.lift _ hS209.ext r_x) rfl) rfl ?_
      refine WL.val (Value.bool (decide ((((x).length : Nat) : Int) < ((x).length : Int)))) _ (op_lss rfl rfl) rfl ?_
      have hl211 : ¬ (((x).length : Nat) : Int) < ((x).length : Int) := by omega
      refine WL.nil ?_
      refine W.condF (decide ((((x).length : Nat) : Int) < ((x).length : Int))) rfl (decide_eq_false hl211) ?_
      refine W.exit ?_
      show _ = _ ∧ _
      exact ⟨rfl, _, hs198, hf205, hr206, hS209⟩
  · rintro f212 wd213 ⟨x216, rfl, hq214⟩
    replace h := onRes_fin h
    replace hq214 : f212 7 = Value.int .i64 x216 ∧ InR .i64 x216 ∧ St w wd213 [] := hq214
    obtain ⟨hf217, hr218, hS219⟩ := hq214
    refine W.seq (W.region ?_)
    refine WL.val (Value.int .i64 x216) _ (op_move hf217) rfl ?_
    refine WL.val (Value.int .i64 x216) _ (op_assign rfl) rfl ?_
    refine WL.nil ?_
    refine W.ret ?_
    obtain rfl := Option.some.inj h
    show FinP _ _ _ _ _ _ _
    exact FinP.ret _ (res1 rfl rfl) ⟨rfl, hr218, hS219.ext⟩

theorem c_impl_turnList {w : World} {dual : (List Int)} {v_dual : Value} {x : (List Int)} {v_x : Value} (r_dual : (Ty.sl (Ty.i .i64)).rep w v_dual dual) (r_x : (Ty.sl (Ty.i .i64)).rep w v_x x) {res : (List Int)} (h : p_impl_turnList dual x  = some res) :
    Ret Try.prog 34 #[v_dual, v_x] w (fun v w' => ∃ (u0 : Value), v = u0 ∧ Ext w w' ∧ Sep w.heap.size w' [(Ty.sl (Ty.i .i64)).at u0 res]) := by
  unfold p_impl_turnList at h
  have hS0 : St w w [] := St.start w
  refine Ret.start (fn := Try.f34) Try.func34 rfl 24 rfl rfl ?_
  refine W.seq (W.region ?_)
  refine WL.val (Value.slice none 0 0) _ (op_assign rfl) rfl ?_
  refine WL.nil ?_
  refine W.seq (W.region ?_)
  refine WL.lit0 (t := (Ty.i .i64)) hS0 sl_25 rfl rfl ?_
  intro u1 wd2 hS3 he4
  replace hS3 : St w wd2 [(Ty.sl (Ty.i .i64)).at u1 ([] : (List Int))] := hS3
  refine WL.val u1 _ (op_assign rfl) rfl ?_
  refine WL.nil ?_
  refine W.seq (W.seq (W.region ?_))
  refine WL.val v_dual _ (op_move rfl) rfl ?_
  have hr5 := inR_len (Ty.lift _ hS3.ext r_dual)
  refine WL.val (Value.int .i64 ((dual).length : Int)) _ (op_lenL sl_52 (Ty.lift _ hS3.ext r_dual) rfl) rfl ?_
  refine WL.val (Value.int .i64 (0 : Int)) _ (op_move rfl) rfl ?_
  refine WL.nil ?_
  show W _ _ _ _ _ _
  obtain ⟨res6, hres7, h⟩ := bs h
  refine W.blockLoop (fun fq wq => ∃ s, res6 = Res.fin s ∧ ∃ (uu0 : Value), fq 5 = uu0 ∧ St w wq [(Ty.sl (Ty.i .i64)).at uu0 s]) ?_ ?_
  · refine W.forN (fun k (s : (List Int)) fq wq => ∃ (uu0 : Value), fq 1 = v_x ∧ fq 5 = uu0 ∧ fq 9 = v_dual ∧ fq 10 = (Value.int .i64 ((dual).length : Int)) ∧ fq 11 = Value.int .i64 (k : Int) ∧ InR .i64 (k : Int) ∧ St w wq [(Ty.sl (Ty.i .i64)).at uu0 s]) hres7 ⟨u1, rfl, rfl, rfl, rfl, rfl, (inL rfl), hS3⟩ ?_ ?_
    · intro k8 x9 ct10 f11 wd12 hk13 hb14 hI15 hbrk16 hret17
      replace hI15 : ∃ (uu0 : Value), f11 1 = v_x ∧ f11 5 = uu0 ∧ f11 9 = v_dual ∧ f11 10 = (Value.int .i64 ((dual).length : Int)) ∧ f11 11 = Value.int .i64 (k8 : Int) ∧ InR .i64 (k8 : Int) ∧ St w wd12 [(Ty.sl (Ty.i .i64)).at uu0 x9] := hI15
      replace hb14 : p_impl_turnList_L1 dual x k8 x9 = some ct10 := hb14
      unfold p_impl_turnList_L1 at hb14
      obtain ⟨u18, hf19, hf20, hf21, hf22, hf23, hr24, hS25⟩ := hI15
      refine W.seq (W.region ?_)
      refine WL.val (Value.bool (decide ((k8 : Int) < ((dual).length : Int)))) _ (op_lss hf23 hf22) rfl ?_
      have hl26 : (k8 : Int) < ((dual).length : Int) := by omega
      refine WL.nil ?_
      refine W.seq ?_
      refine W.condT (decide ((k8 : Int) < ((dual).length : Int))) rfl (decide_eq_true hl26) ?_
      refine W.skip ?_
      refine W.seq ?_
      refine W.block ?_
      refine W.seq (W.region ?_)
      obtain ⟨x28, hx31, hb14⟩ := bs hb14
      obtain ⟨ha29, hb30, hx31⟩ := idx_some hx31
      refine WL.val (Value.pointer (some (elA v_dual ((k8 : Int)).toNat))) _ (op_idx sl_52 (Ty.lift _ hS25.ext r_dual) hf21 hf23 ha29 hb30) rfl ?_
      obtain ⟨u32, hc33, hr34⟩ := repSl.el r_dual hx31
      obtain ⟨rfl, hr34⟩ := hr34
      refine WL.val (Value.int .i64 x28) _ (op_load one_3 rfl (Ext.cell hS25.ext hc33)) rfl ?_
      refine WL.val (Value.int .i64 x28) _ (op_assign rfl) rfl ?_
      refine WL.nil ?_
      show W _ _ _ _ _ _
      refine W.region ?_
      refine WL.val u18 _ (op_move hf20) rfl ?_
      refine WL.val v_x _ (op_move hf19) rfl ?_
      refine WL.val (Value.int .i64 x28) _ (op_move rfl) rfl ?_
      obtain ⟨x35, hx38, hb14⟩ := bs hb14
      obtain ⟨ha36, hb37, hx38⟩ := idx_some hx38
      refine WL.val (Value.pointer (some (elA v_x (x28).toNat))) _ (op_idx sl_25 (Ty.lift _ hS25.ext r_x) rfl rfl ha36 hb37) rfl ?_
      obtain ⟨u39, hc40, hr41⟩ := repSl.el r_x hx38
      obtain ⟨rfl, hr41⟩ := hr41
      refine WL.val (Value.int .i64 x35) _ (op_load one_2 rfl (Ext.cell hS25.ext hc40)) rfl ?_
      refine WL.litFlat (t := (Ty.i .i64)) (flat_i .i64) [(Value.int .i64 x35)] [x35] hS25 sl_25 rfl rfl (fillL rfl ⟨rfl, rfl, rfl, trivial⟩) rfl rfl (litL ⟨⟨rfl, hr41⟩, trivial⟩) rfl ?_
      intro u42 wd43 hS44 he45
      replace hS44 : St w wd43 [(Ty.sl (Ty.i .i64)).at u18 x9, (Ty.sl (Ty.i .i64)).at u42 ([x35] : (List Int))] := hS44
      obtain ⟨x46, hx47, hb14⟩ := bs hb14
      refine WL.append (flat_i .i64) hS44 (k := 0) rfl sl_25 rfl rfl rfl rfl (St.rep (t := (Ty.sl (Ty.i .i64))) hS44 1 rfl) hx47 rfl ?_
      intro u48 wd49 hS50 hz51
      replace hS50 : St w wd49 [(Ty.sl (Ty.i .i64)).at u48 x46, (Ty.sl (Ty.i .i64)).at u42 ([x35] : (List Int))] := hS50
      refine WL.val u48 _ (op_assign rfl) rfl ?_
      refine WL.nil ?_
      show W _ _ _ _ _ _
      refine W.region ?_
      refine WL.val (Value.int .i64 (w64 ((k8 : Int) + (1 : Int)))) _ (op_add hf23 rfl) rfl ?_
      refine WL.val (Value.int .i64 (w64 ((k8 : Int) + (1 : Int)))) _ (op_move rfl) rfl ?_
      refine WL.nil ?_
      obtain rfl := Option.some.inj hb14
      show ∃ s, _ = Ctl.next s ∧ _
      exact ⟨_, rfl, u48, hf19, rfl, hf21, hf22, (ctr_next hl26 hr5), (ctr_rng hl26 hr5), (St.pick hS50 [0] rfl)⟩
    · intro x58 f53 wd54 hs55 hI56
      replace hI56 : ∃ (uu0 : Value), f53 1 = v_x ∧ f53 5 = uu0 ∧ f53 9 = v_dual ∧ f53 10 = (Value.int .i64 ((dual).length : Int)) ∧ f53 11 = Value.int .i64 (((dual).length : Nat) : Int) ∧ InR .i64 (((dual).length : Nat) : Int) ∧ St w wd54 [(Ty.sl (Ty.i .i64)).at uu0 x58] := hI56
      obtain ⟨u59, hf60, hf61, hf62, hf63, hf64, hr65, hS66⟩ := hI56
      refine W.seq (W.region ?_)
      refine WL.val (Value.bool (decide ((((dual).length : Nat) : Int) < ((dual).length : Int)))) _ (op_lss hf64 hf63) rfl ?_
      have hl67 : ¬ (((dual).length : Nat) : Int) < ((dual).length : Int) := by omega
      refine WL.nil ?_
      refine W.seq ?_
      refine W.condF (decide ((((dual).length : Nat) : Int) < ((dual).length : Int))) rfl (decide_eq_false hl67) ?_
      refine W.exit ?_
      show _ = _ ∧ _
      exact ⟨rfl, _, hs55, u59, hf61, hS66⟩
  · rintro f68 wd69 ⟨x72, rfl, hq70⟩
    replace h := onRes_fin h
    replace hq70 : ∃ (uu0 : Value), f68 5 = uu0 ∧ St w wd69 [(Ty.sl (Ty.i .i64)).at uu0 x72] := hq70
    obtain ⟨u73, hf74, hS75⟩ := hq70
    refine W.seq (W.region ?_)
    refine WL.val u73 _ (op_move hf74) rfl ?_
    refine WL.val u73 _ (op_assign rfl) rfl ?_
    refine WL.nil ?_
    refine W.ret ?_
    obtain rfl := Option.some.inj h
    show FinP _ _ _ _ _ _ _
    exact FinP.ret _ (res1 rfl rfl) ⟨u73, rfl, hS75.ext, (St.out (St.pick hS75 [0] rfl) (Ext.refl _))⟩

theorem c_impl_Ring_pairing {w : World} {r_Table : (List (List (List Int)))} {v_r_Table : Value} {x : (List Int)} {v_x : Value} {y : (List Int)} {v_y : Value} (r_r_Table : (Ty.sl (Ty.sl (Ty.sl (Ty.i .i64)))).rep w v_r_Table r_Table) (r_x : (Ty.sl (Ty.i .i64)).rep w v_x x) (r_y : (Ty.sl (Ty.i .i64)).rep w v_y y) {res : Int} (h : p_impl_Ring_pairing r_Table x y  = some res) :
    Ret Try.prog 32 #[(Value.agg #[v_r_Table]), v_x, v_y] w (fun v w' => v = Value.int .i64 res ∧ InR .i64 res ∧ Ext w w') := by
  unfold p_impl_Ring_pairing at h
  have hS0 : St w w [] := St.start w
  refine Ret.start (fn := Try.f32) Try.func32 rfl 13 rfl rfl ?_
  refine W.seq (W.region ?_)
  refine WL.box hS0 rfl (cs := [v_r_Table]) rfl rfl ?_
  intro b1 wd2 hS3 he4 hx5
  replace hS3 : St w wd2 [bx b1 [v_r_Table]] := hS3
  have hx6 := St.boxAt hS3 0 rfl
  have hE7 : Ext w wd2 := hS3.ext
  have hS8 : St wd2 wd2 [] := St.start wd2
  refine WL.val (Value.int .i64 (0 : Int)) _ (op_assign rfl) rfl ?_
  refine WL.nil ?_
  refine W.seq (W.region ?_)
  refine WL.val v_x _ (op_move rfl) rfl ?_
  refine WL.val (Value.agg #[v_r_Table]) _ (op_loadBox st_29 rfl (BoxAt.lift hS8.ext hx6) rfl rfl) rfl ?_
  obtain ⟨x9, hx10, h⟩ := bs h
  refine WL.call _ (op_call fn_35 (args1 rfl)) (c_impl_Ring_duals (Ty.lift _ (Ext.trans hE7 hS8.ext) r_r_Table) hx10) rfl ?_
  rintro u11 wd12 ⟨_, rfl, he13, hs14⟩
  have hS15 := St.join hS8 he13 hs14
  replace hS15 : St wd2 wd12 [(Ty.sl (Ty.i .i64)).at u11 x9] := hS15
  have hb16 := St.rep (t := (Ty.sl (Ty.i .i64))) hS15 0 rfl
  have hE17 : Ext w wd12 := (Ext.trans hE7 hS15.ext)
  have hE18 : Ext wd2 wd12 := hS15.ext
  have hS19 : St wd12 wd12 [] := St.start wd12
  refine WL.val v_y _ (op_move rfl) rfl ?_
  obtain ⟨x20, hx21, h⟩ := bs h
  refine WL.call _ (op_call fn_34 (args2 rfl rfl)) (c_impl_turnList (Ty.lift _ hS19.ext hb16) (Ty.lift _ (Ext.trans hE17 hS19.ext) r_y) hx21) rfl ?_
  rintro u22 wd23 ⟨_, rfl, he24, hs25⟩
  have hS26 := St.join hS19 he24 hs25
  replace hS26 : St wd12 wd23 [(Ty.sl (Ty.i .i64)).at u22 x20] := hS26
  have hb27 := St.rep (t := (Ty.sl (Ty.i .i64))) hS26 0 rfl
  have hE28 : Ext w wd23 := (Ext.trans hE17 hS26.ext)
  have hE29 : Ext wd2 wd23 := (Ext.trans hE18 hS26.ext)
  have hE30 : Ext wd12 wd23 := hS26.ext
  have hS31 : St wd23 wd23 [] := St.start wd23
  obtain ⟨x32, hx33, h⟩ := bs h
  refine WL.call _ (op_call fn_28 (args2 rfl rfl)) (c_impl_dot (Ty.lift _ (Ext.trans hE28 hS31.ext) r_x) (Ty.lift _ hS31.ext hb27) hx33) rfl ?_
  rintro _ wd35 ⟨rfl, hr34, he36⟩
  have hS38 := St.extend hS31 he36
  replace hS38 : St wd23 wd35 [] := hS38
  refine WL.val (Value.int .i64 x32) _ (op_assign rfl) rfl ?_
  refine WL.nil ?_
  refine W.ret ?_
  obtain rfl := Option.some.inj h
  show FinP _ _ _ _ _ _ _
  exact FinP.ret _ (res1 rfl rfl) ⟨rfl, hr34, (Ext.trans hE28 hS38.ext)⟩

theorem c_impl_PairingOf {w : World} {r_Table : (List (List (List Int)))} {v_r_Table : Value} {x : (List Int)} {v_x : Value} {y : (List Int)} {v_y : Value} (r_r_Table : (Ty.sl (Ty.sl (Ty.sl (Ty.i .i64)))).rep w v_r_Table r_Table) (r_x : (Ty.sl (Ty.i .i64)).rep w v_x x) (r_y : (Ty.sl (Ty.i .i64)).rep w v_y y) {res : Int × Int} (h : p_impl_PairingOf r_Table x y  = some res) :
    Ret Try.prog 15 #[(Value.agg #[v_r_Table]), v_x, v_y] w (fun v w' => v = (Value.tuple #[Value.int .i64 res.1, Value.int .i64 res.2]) ∧ InR .i64 res.1 ∧ InR .i64 res.2 ∧ Ext w w') := by
  unfold p_impl_PairingOf at h
  have hS0 : St w w [] := St.start w
  refine Ret.start (fn := Try.f15) Try.func15 rfl 21 rfl rfl ?_
  refine W.seq (W.region ?_)
  refine WL.box hS0 rfl (cs := [v_r_Table]) rfl rfl ?_
  intro b1 wd2 hS3 he4 hx5
  replace hS3 : St w wd2 [bx b1 [v_r_Table]] := hS3
  have hx6 := St.boxAt hS3 0 rfl
  have hE7 : Ext w wd2 := hS3.ext
  have hS8 : St wd2 wd2 [] := St.start wd2
  refine WL.val (Value.int .i64 (0 : Int)) _ (op_assign rfl) rfl ?_
  refine WL.val (Value.int .i64 (0 : Int)) _ (op_assign rfl) rfl ?_
  refine WL.nil ?_
  refine W.seq (W.seq (W.region ?_))
  refine WL.val (Value.agg #[v_r_Table]) _ (op_loadBox st_29 rfl (BoxAt.lift hS8.ext hx6) rfl rfl) rfl ?_
  refine WL.val v_x _ (op_move rfl) rfl ?_
  refine WL.val v_y _ (op_move rfl) rfl ?_
  refine WL.lit [v_x, v_y] hS8 sl_46 rfl rfl (fillL rfl ⟨rfl, rfl, (cells_rep (Ty.lift _ (Ext.trans hE7 hS8.ext) r_x)), rfl, rfl, (cells_rep (Ty.lift _ (Ext.trans hE7 hS8.ext) r_y)), trivial⟩) rfl rfl ?_
  intro b13 wd10 hS11 he12 hx14
  replace hS11 : St wd2 wd10 [bx b13 [v_x, v_y]] := hS11
  obtain ⟨x15, hx16, h⟩ := bs h
  refine WL.call _ (op_call fn_27 (args3 rfl rfl rfl)) (c_impl_characterCode (Ty.lift _ (Ext.trans hE7 hS11.ext) r_r_Table) (rep_lit (t := (Ty.sl (Ty.i .i64))) (us := [v_x, v_y]) (xs := ([x, y] : (List (List Int)))) (St.boxAt hS11 0 rfl) ⟨(Ty.lift _ (Ext.trans hE7 hS11.ext) r_x), (Ty.lift _ (Ext.trans hE7 hS11.ext) r_y), trivial⟩ rfl) (nilRep _ _) hx16) rfl ?_
  rintro _ wd18 ⟨rfl, hr17, he19⟩
  have hS21 := St.extend hS11 he19
  replace hS21 : St wd2 wd18 [bx b13 [v_x, v_y]] := hS21
  refine WL.val (Value.int .i64 x15) _ (op_assign rfl) rfl ?_
  refine WL.nil ?_
  refine W.seq (W.region ?_)
  refine WL.val (Value.int .i64 x15) _ (op_move rfl) rfl ?_
  refine WL.val (Value.bool (x15 != (0 : Int))) _ (op_neq rfl rfl) rfl ?_
  refine WL.nil ?_
  refine W.cond (x15 != (0 : Int)) rfl (fun hc22 => ?_) (fun hc22 => ?_)
  · replace h := ip h hc22
    refine W.seq (W.region ?_)
    refine WL.val (Value.int .i64 x15) _ (op_move rfl) rfl ?_
    refine WL.val (Value.int .i64 (0 : Int)) _ (op_assign rfl) rfl ?_
    refine WL.val (Value.int .i64 x15) _ (op_assign rfl) rfl ?_
    refine WL.nil ?_
    refine W.ret ?_
    obtain rfl := Option.some.inj h
    show FinP _ _ _ _ _ _ _
    exact FinP.ret _ (res2 rfl rfl rfl) ⟨rfl, (inL rfl), hr17, (Ext.trans hE7 hS21.ext)⟩
  · replace h := inegb h hc22
    refine W.skip ?_
    refine W.seq (W.region ?_)
    refine WL.val (Value.agg #[v_r_Table]) _ (op_loadBox st_29 rfl (BoxAt.lift hS21.ext hx6) rfl rfl) rfl ?_
    refine WL.val v_x _ (op_move rfl) rfl ?_
    refine WL.val v_y _ (op_move rfl) rfl ?_
    obtain ⟨x24, hx25, h⟩ := bs h
    refine WL.call _ (op_call fn_32 (args3 rfl rfl rfl)) (c_impl_Ring_pairing (Ty.lift _ (Ext.trans hE7 hS21.ext) r_r_Table) (Ty.lift _ (Ext.trans hE7 hS21.ext) r_x) (Ty.lift _ (Ext.trans hE7 hS21.ext) r_y) hx25) rfl ?_
    rintro _ wd27 ⟨rfl, hr26, he28⟩
    have hS30 := St.extend hS21 he28
    replace hS30 : St wd2 wd27 [bx b13 [v_x, v_y]] := hS30
    refine WL.val (Value.int .i64 x24) _ (op_assign rfl) rfl ?_
    refine WL.val (Value.int .i64 (0 : Int)) _ (op_assign rfl) rfl ?_
    refine WL.nil ?_
    refine W.ret ?_
    obtain rfl := Option.some.inj h
    show FinP _ _ _ _ _ _ _
    exact FinP.ret _ (res2 rfl rfl rfl) ⟨rfl, hr26, (inL rfl), (Ext.trans hE7 hS30.ext)⟩

theorem c_spec_CodegreeOf {w : World} {r_Table : (List (List (List Int)))} {v_r_Table : Value} {x : (List Int)} {v_x : Value} (r_r_Table : (Ty.sl (Ty.sl (Ty.sl (Ty.i .i64)))).rep w v_r_Table r_Table) (r_x : (Ty.sl (Ty.i .i64)).rep w v_x x) {res : Int × Int} (h : p_spec_CodegreeOf r_Table x  = some res) :
    Ret Try.prog 16 #[(Value.agg #[v_r_Table]), v_x] w (fun v w' => v = (Value.tuple #[Value.int .i64 res.1, Value.int .i64 res.2]) ∧ InR .i64 res.1 ∧ InR .i64 res.2 ∧ Ext w w') := by
  unfold p_spec_CodegreeOf at h
  have hS0 : St w w [] := St.start w
  refine Ret.start (fn := Try.f16) Try.func16 rfl 19 rfl rfl ?_
  refine W.seq (W.region ?_)
  refine WL.box hS0 rfl (cs := [v_r_Table]) rfl rfl ?_
  intro b1 wd2 hS3 he4 hx5
  replace hS3 : St w wd2 [bx b1 [v_r_Table]] := hS3
  have hx6 := St.boxAt hS3 0 rfl
  have hE7 : Ext w wd2 := hS3.ext
  have hS8 : St wd2 wd2 [] := St.start wd2
  refine WL.val (Value.int .i64 (0 : Int)) _ (op_assign rfl) rfl ?_
  refine WL.val (Value.int .i64 (0 : Int)) _ (op_assign rfl) rfl ?_
  refine WL.nil ?_
  refine W.seq (W.region ?_)
  refine WL.val (Value.agg #[v_r_Table]) _ (op_loadBox st_29 rfl (BoxAt.lift hS8.ext hx6) rfl rfl) rfl ?_
  refine WL.val v_x _ (op_move rfl) rfl ?_
  refine WL.lit [v_x] hS8 sl_46 rfl rfl (fillL rfl ⟨rfl, rfl, (cells_rep (Ty.lift _ (Ext.trans hE7 hS8.ext) r_x)), trivial⟩) rfl rfl ?_
  intro b13 wd10 hS11 he12 hx14
  replace hS11 : St wd2 wd10 [bx b13 [v_x]] := hS11
  obtain ⟨x15, hx16, h⟩ := bs h
  refine WL.call _ (op_call fn_24 (args3 rfl rfl rfl)) (c_spec_l08List (Ty.lift _ (Ext.trans hE7 hS11.ext) r_r_Table) (rep_lit (t := (Ty.sl (Ty.i .i64))) (us := [v_x]) (xs := ([x] : (List (List Int)))) (St.boxAt hS11 0 rfl) ⟨(Ty.lift _ (Ext.trans hE7 hS11.ext) r_x), trivial⟩ rfl) hx16) rfl ?_
  rintro _ wd18 ⟨rfl, hr17, he19⟩
  have hS21 := St.extend hS11 he19
  replace hS21 : St wd2 wd18 [bx b13 [v_x]] := hS21
  refine WL.val (Value.int .i64 x15) _ (op_assign rfl) rfl ?_
  refine WL.nil ?_
  refine W.seq (W.seq (W.region ?_))
  refine WL.val (Value.int .i64 x15) _ (op_move rfl) rfl ?_
  refine WL.val (Value.bool (x15 != (0 : Int))) _ (op_neq rfl rfl) rfl ?_
  refine WL.nil ?_
  refine W.cond (x15 != (0 : Int)) rfl (fun hc22 => ?_) (fun hc22 => ?_)
  · replace h := ip h hc22
    refine W.seq (W.region ?_)
    refine WL.val (Value.int .i64 x15) _ (op_move rfl) rfl ?_
    refine WL.val (Value.int .i64 (0 : Int)) _ (op_assign rfl) rfl ?_
    refine WL.val (Value.int .i64 x15) _ (op_assign rfl) rfl ?_
    refine WL.nil ?_
    refine W.ret ?_
    obtain rfl := Option.some.inj h
    show FinP _ _ _ _ _ _ _
    exact FinP.ret _ (res2 rfl rfl rfl) ⟨rfl, (inL rfl), hr17, (Ext.trans hE7 hS21.ext)⟩
  · replace h := inegb h hc22
    refine W.skip ?_
    refine W.seq (W.region ?_)
    refine WL.val v_x _ (op_move rfl) rfl ?_
    refine WL.val v_x _ (op_move rfl) rfl ?_
    refine WL.val (Value.agg #[v_r_Table]) _ (op_loadBox st_29 rfl (BoxAt.lift hS21.ext hx6) rfl rfl) rfl ?_
    obtain ⟨x24, hx25, h⟩ := bs h
    refine WL.call _ (op_call fn_31 (args1 rfl)) (c_spec_l03Duals (Ty.lift _ (Ext.trans hE7 hS21.ext) r_r_Table) hx25) rfl ?_
    rintro u26 wd27 ⟨_, rfl, he28, hs29⟩
    have hS30 := St.join hS21 he28 hs29
    replace hS30 : St wd2 wd27 [bx b13 [v_x], (Ty.sl (Ty.i .i64)).at u26 x24] := hS30
    obtain ⟨x31, hx32, h⟩ := bs h
    refine WL.call _ (op_call fn_30 (args3 rfl rfl rfl)) (c_spec_l08Pair (Ty.lift _ (Ext.trans hE7 hS30.ext) r_x) (Ty.lift _ (Ext.trans hE7 hS30.ext) r_x) (St.rep (t := (Ty.sl (Ty.i .i64))) hS30 1 rfl) hx32) rfl ?_
    rintro _ wd34 ⟨rfl, hr33, he35⟩
    have hS37 := St.extend hS30 he35
    replace hS37 : St wd2 wd34 [bx b13 [v_x], (Ty.sl (Ty.i .i64)).at u26 x24] := hS37
    refine WL.val (Value.int .i64 x31) _ (op_assign rfl) rfl ?_
    refine WL.val (Value.int .i64 (0 : Int)) _ (op_assign rfl) rfl ?_
    refine WL.nil ?_
    refine W.ret ?_
    obtain rfl := Option.some.inj h
    show FinP _ _ _ _ _ _ _
    exact FinP.ret _ (res2 rfl rfl rfl) ⟨rfl, hr33, (inL rfl), (Ext.trans hE7 hS37.ext)⟩

theorem c_impl_CodegreeOf {w : World} {r_Table : (List (List (List Int)))} {v_r_Table : Value} {x : (List Int)} {v_x : Value} (r_r_Table : (Ty.sl (Ty.sl (Ty.sl (Ty.i .i64)))).rep w v_r_Table r_Table) (r_x : (Ty.sl (Ty.i .i64)).rep w v_x x) {res : Int × Int} (h : p_impl_CodegreeOf r_Table x  = some res) :
    Ret Try.prog 17 #[(Value.agg #[v_r_Table]), v_x] w (fun v w' => v = (Value.tuple #[Value.int .i64 res.1, Value.int .i64 res.2]) ∧ InR .i64 res.1 ∧ InR .i64 res.2 ∧ Ext w w') := by
  unfold p_impl_CodegreeOf at h
  have hS0 : St w w [] := St.start w
  refine Ret.start (fn := Try.f17) Try.func17 rfl 12 rfl rfl ?_
  refine W.seq (W.region ?_)
  refine WL.box hS0 rfl (cs := [v_r_Table]) rfl rfl ?_
  intro b1 wd2 hS3 he4 hx5
  replace hS3 : St w wd2 [bx b1 [v_r_Table]] := hS3
  have hx6 := St.boxAt hS3 0 rfl
  have hE7 : Ext w wd2 := hS3.ext
  have hS8 : St wd2 wd2 [] := St.start wd2
  refine WL.val (Value.int .i64 (0 : Int)) _ (op_assign rfl) rfl ?_
  refine WL.val (Value.int .i64 (0 : Int)) _ (op_assign rfl) rfl ?_
  refine WL.nil ?_
  refine W.seq (W.region ?_)
  refine WL.val (Value.agg #[v_r_Table]) _ (op_loadBox st_29 rfl (BoxAt.lift hS8.ext hx6) rfl rfl) rfl ?_
  refine WL.val v_x _ (op_move rfl) rfl ?_
  refine WL.val v_x _ (op_move rfl) rfl ?_
  obtain ⟨x9, hx10, h⟩ := bs h
  refine WL.call _ (op_call fn_15 (args3 rfl rfl rfl)) (c_impl_PairingOf (Ty.lift _ (Ext.trans hE7 hS8.ext) r_r_Table) (Ty.lift _ (Ext.trans hE7 hS8.ext) r_x) (Ty.lift _ (Ext.trans hE7 hS8.ext) r_x) hx10) rfl ?_
  rintro _ wd13 ⟨rfl, hr11, hr12, he14⟩
  have hS16 := St.extend hS8 he14
  replace hS16 : St wd2 wd13 [] := hS16
  refine WL.val (Value.int .i64 x9.1) _ (op_extract rfl rfl) rfl ?_
  refine WL.val (Value.int .i64 x9.2) _ (op_extract rfl rfl) rfl ?_
  refine WL.val (Value.int .i64 x9.1) _ (op_assign rfl) rfl ?_
  refine WL.val (Value.int .i64 x9.2) _ (op_assign rfl) rfl ?_
  refine WL.nil ?_
  refine W.ret ?_
  obtain rfl := Option.some.inj h
  show FinP _ _ _ _ _ _ _
  exact FinP.ret _ (res2 rfl rfl rfl) ⟨rfl, hr11, hr12, (Ext.trans hE7 hS16.ext)⟩

theorem c_laws_FnExactCodegreeOf {w : World} {aR_Table : (List (List (List Int)))} {v_aR_Table : Value} {aX : (List Int)} {v_aX : Value} (r_aR_Table : (Ty.sl (Ty.sl (Ty.sl (Ty.i .i64)))).rep w v_aR_Table aR_Table) (r_aX : (Ty.sl (Ty.i .i64)).rep w v_aX aX) {res : Bool} (h : p_laws_FnExactCodegreeOf aR_Table aX  = some res) :
    Ret Try.prog 5 #[(Value.agg #[v_aR_Table]), v_aX] w (fun v w' => v = Value.bool res ∧ Ext w w') := by
  unfold p_laws_FnExactCodegreeOf at h
  have hS0 : St w w [] := St.start w
  refine Ret.start (fn := Try.f5) Try.func5 rfl 56 rfl rfl ?_
  refine W.seq (W.region ?_)
  refine WL.box hS0 rfl (cs := [v_aR_Table]) rfl rfl ?_
  intro b1 wd2 hS3 he4 hx5
  replace hS3 : St w wd2 [bx b1 [v_aR_Table]] := hS3
  have hx6 := St.boxAt hS3 0 rfl
  have hE7 : Ext w wd2 := hS3.ext
  have hS8 : St wd2 wd2 [] := St.start wd2
  refine WL.val (Value.bool false) _ (op_assign rfl) rfl ?_
  refine WL.nil ?_
  refine W.seq (W.seq (W.region ?_))
  refine WL.val v_aX _ (op_move rfl) rfl ?_
  have hr9 := inR_len (Ty.lift _ (Ext.trans hE7 hS8.ext) r_aX)
  refine WL.val (Value.int .i64 ((aX).length : Int)) _ (op_lenL sl_25 (Ty.lift _ (Ext.trans hE7 hS8.ext) r_aX) rfl) rfl ?_
  refine WL.val (Value.bool (decide (((aX).length : Int) > (1048576 : Int)))) _ (op_gtr rfl rfl) rfl ?_
  refine WL.nil ?_
  refine W.cond (decide (((aX).length : Int) > (1048576 : Int))) rfl (fun hc10 => ?_) (fun hc10 => ?_)
  · replace h := ip h hc10
    refine W.seq (W.region ?_)
    refine WL.val (Value.bool true) _ (op_assign rfl) rfl ?_
    refine WL.nil ?_
    refine W.ret ?_
    obtain rfl := Option.some.inj h
    show FinP _ _ _ _ _ _ _
    exact FinP.ret _ (res1 rfl rfl) ⟨rfl, (Ext.trans hE7 hS8.ext)⟩
  · replace h := inegb h hc10
    refine W.skip ?_
    refine W.seq (W.region ?_)
    refine WL.val (Value.int .i64 (1048576 : Int)) _ (op_assign rfl) rfl ?_
    refine WL.nil ?_
    refine W.seq (W.region ?_)
    refine WL.val (Value.agg #[v_aR_Table]) _ (op_loadBox st_24 rfl (BoxAt.lift hS8.ext hx6) rfl rfl) rfl ?_
    refine WL.val (Value.int .i64 (1048576 : Int)) _ (op_move rfl) rfl ?_
    obtain ⟨x12, hx13, h⟩ := bs h
    refine WL.call _ (op_call fn_7 (args2 rfl rfl)) (c_laws_szRing (Ty.lift _ (Ext.trans hE7 hS8.ext) r_aR_Table) (inL rfl) hx13) rfl ?_
    rintro _ wd15 ⟨rfl, hr14, he16⟩
    have hS18 := St.extend hS8 he16
    replace hS18 : St wd2 wd15 [] := hS18
    refine WL.val (Value.int .i64 x12) _ (op_assign rfl) rfl ?_
    refine WL.nil ?_
    refine W.seq (W.seq (W.region ?_))
    refine WL.val (Value.int .i64 x12) _ (op_move rfl) rfl ?_
    refine WL.val (Value.bool (decide (x12 < (0 : Int)))) _ (op_lss rfl rfl) rfl ?_
    refine WL.nil ?_
    refine W.cond (decide (x12 < (0 : Int))) rfl (fun hc19 => ?_) (fun hc19 => ?_)
    · replace h := ip h hc19
      refine W.seq (W.region ?_)
      refine WL.val (Value.bool true) _ (op_assign rfl) rfl ?_
      refine WL.nil ?_
      refine W.ret ?_
      obtain rfl := Option.some.inj h
      show FinP _ _ _ _ _ _ _
      exact FinP.ret _ (res1 rfl rfl) ⟨rfl, (Ext.trans hE7 hS18.ext)⟩
    · replace h := inegb h hc19
      refine W.skip ?_
      refine W.seq (W.region ?_)
      refine WL.val (Value.agg #[v_aR_Table]) _ (op_loadBox st_24 rfl (BoxAt.lift hS18.ext hx6) rfl rfl) rfl ?_
      obtain ⟨x21, hx22, h⟩ := bs h
      refine WL.call _ (op_call fn_9 (args1 rfl)) (c_laws_toRing (Ty.lift _ (Ext.trans hE7 hS18.ext) r_aR_Table) hx22) rfl ?_
      rintro _ wd24 ⟨u23, rfl, he25, hs26⟩
      have hS27 := St.join hS18 he25 hs26
      replace hS27 : St wd2 wd24 [(Ty.sl (Ty.sl (Ty.sl (Ty.i .i64)))).at u23 x21] := hS27
      have hb28 := St.rep (t := (Ty.sl (Ty.sl (Ty.sl (Ty.i .i64))))) hS27 0 rfl
      have hE29 : Ext w wd24 := (Ext.trans hE7 hS27.ext)
      have hE30 : Ext wd2 wd24 := hS27.ext
      have hS31 : St wd24 wd24 [] := St.start wd24
      refine WL.val v_aX _ (op_move rfl) rfl ?_
      obtain ⟨x32, hx33, h⟩ := bs h
      refine WL.call _ (op_call fn_10 (args1 rfl)) (c_laws_toInt64S (Ty.lift _ (Ext.trans hE29 hS31.ext) r_aX) hx33) rfl ?_
      rintro u34 wd35 ⟨_, rfl, he36, hs37⟩
      have hS38 := St.join hS31 he36 hs37
      replace hS38 : St wd24 wd35 [(Ty.sl (Ty.i .i64)).at u34 x32] := hS38
      have hb39 := St.rep (t := (Ty.sl (Ty.i .i64))) hS38 0 rfl
      have hE40 : Ext w wd35 := (Ext.trans hE29 hS38.ext)
      have hE41 : Ext wd2 wd35 := (Ext.trans hE30 hS38.ext)
      have hE42 : Ext wd24 wd35 := hS38.ext
      have hS43 : St wd35 wd35 [] := St.start wd35
      obtain ⟨x44, hx45, h⟩ := bs h
      refine WL.call _ (op_call fn_16 (args2 rfl rfl)) (c_spec_CodegreeOf (Ty.lift _ (Ext.trans hE42 hS43.ext) hb28) (Ty.lift _ hS43.ext hb39) hx45) rfl ?_
      rintro _ wd48 ⟨rfl, hr46, hr47, he49⟩
      have hS51 := St.extend hS43 he49
      replace hS51 : St wd35 wd48 [] := hS51
      refine WL.val (Value.tuple #[(Value.int .i64 x44.1), (Value.int .i64 x44.2)]) _ (op_move rfl) rfl ?_
      refine WL.val (Value.int .i64 x44.1) _ (op_extract rfl rfl) rfl ?_
      refine WL.val (Value.int .i64 x44.2) _ (op_extract rfl rfl) rfl ?_
      refine WL.val (Value.int .i64 x44.1) _ (op_assign rfl) rfl ?_
      refine WL.val (Value.int .i64 x44.2) _ (op_assign rfl) rfl ?_
      refine WL.nil ?_
      refine W.seq (W.region ?_)
      refine WL.val (Value.agg #[v_aR_Table]) _ (op_loadBox st_24 rfl (BoxAt.lift (Ext.trans hE41 hS51.ext) hx6) rfl rfl) rfl ?_
      obtain ⟨x52, hx53, h⟩ := bs h
      refine WL.call _ (op_call fn_9 (args1 rfl)) (c_laws_toRing (Ty.lift _ (Ext.trans hE40 hS51.ext) r_aR_Table) hx53) rfl ?_
      rintro _ wd55 ⟨u54, rfl, he56, hs57⟩
      have hS58 := St.join hS51 he56 hs57
      replace hS58 : St wd35 wd55 [(Ty.sl (Ty.sl (Ty.sl (Ty.i .i64)))).at u54 x52] := hS58
      refine WL.alloc hS58 ze_29 (cs := [(Value.slice none 0 0)]) rfl rfl ?_
      intro b59 wd60 hS61 he62
      replace hS61 : St wd35 wd60 [(Ty.sl (Ty.sl (Ty.sl (Ty.i .i64)))).at u54 x52, bx b59 [(Value.slice none 0 0)]] := hS61
      refine WL.storeBox [u54] hS61 (k := 1) rfl rfl rfl (us := [u54]) rfl sz_29 rfl rfl (all_rep (St.rep (t := (Ty.sl (Ty.sl (Ty.sl (Ty.i .i64))))) hS61 0 rfl) all_nil) rfl ?_
      intro wd63 hS64
      replace hS64 : St wd35 wd63 [(Ty.sl (Ty.sl (Ty.sl (Ty.i .i64)))).at u54 x52, bx b59 [u54]] := hS64
      refine WL.nil ?_
      refine W.seq (W.region ?_)
      refine WL.val v_aX _ (op_move rfl) rfl ?_
      obtain ⟨x65, hx66, h⟩ := bs h
      refine WL.call _ (op_call fn_10 (args1 rfl)) (c_laws_toInt64S (Ty.lift _ (Ext.trans hE40 hS64.ext) r_aX) hx66) rfl ?_
      rintro u67 wd68 ⟨_, rfl, he69, hs70⟩
      have hS71 := St.join hS64 he69 hs70
      replace hS71 : St wd35 wd68 [(Ty.sl (Ty.sl (Ty.sl (Ty.i .i64)))).at u54 x52, bx b59 [u54], (Ty.sl (Ty.i .i64)).at u67 x65] := hS71
      refine WL.val u67 _ (op_assign rfl) rfl ?_
      refine WL.nil ?_
      refine W.seq (W.region ?_)
      refine WL.val (Value.agg #[u54]) _ (op_loadBox st_29 rfl (St.boxAt hS71 1 rfl) rfl rfl) rfl ?_
      refine WL.val u67 _ (op_move rfl) rfl ?_
      obtain ⟨x72, hx73, h⟩ := bs h
      refine WL.call _ (op_call fn_17 (args2 rfl rfl)) (c_impl_CodegreeOf (St.rep (t := (Ty.sl (Ty.sl (Ty.sl (Ty.i .i64))))) hS71 0 rfl) (St.rep (t := (Ty.sl (Ty.i .i64))) hS71 2 rfl) hx73) rfl ?_
      rintro _ wd76 ⟨rfl, hr74, hr75, he77⟩
      have hS79 := St.extend hS71 he77
      replace hS79 : St wd35 wd76 [(Ty.sl (Ty.sl (Ty.sl (Ty.i .i64)))).at u54 x52, bx b59 [u54], (Ty.sl (Ty.i .i64)).at u67 x65] := hS79
      refine WL.val (Value.tuple #[(Value.int .i64 x72.1), (Value.int .i64 x72.2)]) _ (op_move rfl) rfl ?_
      refine WL.val (Value.int .i64 x72.1) _ (op_extract rfl rfl) rfl ?_
      refine WL.val (Value.int .i64 x72.2) _ (op_extract rfl rfl) rfl ?_
      refine WL.val (Value.int .i64 x72.1) _ (op_assign rfl) rfl ?_
      refine WL.val (Value.int .i64 x72.2) _ (op_assign rfl) rfl ?_
      refine WL.nil ?_
      refine W.seq (W.seq (W.region ?_))
      refine WL.val (Value.int .i64 x72.1) _ (op_move rfl) rfl ?_
      refine WL.val (Value.int .i64 x44.1) _ (op_move rfl) rfl ?_
      refine WL.val (Value.bool (x72.1 != x44.1)) _ (op_neq rfl rfl) rfl ?_
      refine WL.val (Value.bool (x72.1 != x44.1)) _ (op_move rfl) rfl ?_
      refine WL.cut 4 (fun fq wq => fq 1 = v_aX ∧ fq 2 = (Value.pointer (some ⟨b1, 0, none⟩)) ∧ fq 8 = (Value.pointer (some ⟨b59, 0, none⟩)) ∧ fq 9 = u67 ∧ fq 45 = (Value.bool ((x72.1 != x44.1) || (x72.2 != x44.2))) ∧ St wd35 wq [(Ty.sl (Ty.sl (Ty.sl (Ty.i .i64)))).at u54 x52, bx b59 [u54], (Ty.sl (Ty.i .i64)).at u67 x65]) ?_ ?_
      · rcases Bool.eq_false_or_eq_true (x72.1 != x44.1) with hc80 | hc80
        · refine WL.gskip rfl (bool_of rfl hc80) rfl ?_
          refine WL.gskip rfl (bool_of rfl hc80) rfl ?_
          refine WL.gskip rfl (bool_of rfl hc80) rfl ?_
          refine WL.val (Value.bool true) _ (op_pick_t (evb_of rfl hc80) rfl) rfl ?_
          refine WL.nil ?_
          exact ⟨rfl, rfl, rfl, rfl, rfl, (orT hc80), hS79⟩
        · refine WL.grun rfl (bool_of rfl hc80) ?_
          refine WL.val (Value.int .i64 x72.2) _ (op_move rfl) rfl ?_
          refine WL.grun rfl (bool_of rfl hc80) ?_
          refine WL.val (Value.int .i64 x44.2) _ (op_move rfl) rfl ?_
          refine WL.grun rfl (bool_of rfl hc80) ?_
          refine WL.val (Value.bool (x72.2 != x44.2)) _ (op_neq rfl rfl) rfl ?_
          refine WL.val (Value.bool (x72.2 != x44.2)) _ (op_pick_f (evb_of rfl hc80) rfl) rfl ?_
          refine WL.nil ?_
          exact ⟨rfl, rfl, rfl, rfl, rfl, (orF hc80), hS79⟩
      · intro f81 wd82 hq83
        obtain ⟨hf84, hf85, hf86, hf87, hf88, hS89⟩ := hq83
        refine WL.nil ?_
        refine W.cond ((x72.1 != x44.1) || (x72.2 != x44.2)) hf88 (fun hc90 => ?_) (fun hc90 => ?_)
        · replace h := ip h hc90
          refine W.seq (W.region ?_)
          refine WL.val (Value.bool false) _ (op_assign rfl) rfl ?_
          refine WL.nil ?_
          refine W.ret ?_
          obtain rfl := Option.some.inj h
          show FinP _ _ _ _ _ _ _
          exact FinP.ret _ (res1 rfl rfl) ⟨rfl, (Ext.trans hE40 hS89.ext)⟩
        · replace h := inegb h hc90
          refine W.skip ?_
          refine W.seq (W.seq ?_)
          obtain ⟨x116, hx117, h⟩ := bs h
          refine W.drawR mixo 3 [] [fun _ v S w' => v = (Value.agg #[u54]), fun _ v S w' => v = (Value.agg #[v_aR_Table]), fun _ v S w' => ∃ (uu0 : Value), v = (Value.agg #[uu0]) ∧ SepS S w' [(Ty.sl (Ty.sl (Ty.sl (Ty.i .i64)))).at uu0 x116]] (by kernel_rfl) (by kernel_rfl) ⟨pk, pk, ⟨fun _ _ _ _ _ he ⟨uu0, h0, r0⟩ => ⟨uu0, h0, SepS.extend he r0⟩, fun _ _ _ _ _ _ h => h⟩, trivial⟩ ⟨?_, ?_, ?_, trivial⟩ ?_
          · refine ObX.op rfl fun f92 wd93 he94 hout95 hphi96 => ?_
            have hS97 := St.extend hS89 he94
            have e98 : f92 8 = (Value.pointer (some ⟨b59, 0, none⟩)) := (hout95 8 rfl).trans hf86
            exact OpX.val (Value.agg #[u54]) wd93 rfl (op_loadBox st_29 e98 (St.boxAt hS97 1 rfl) rfl rfl) (Ext.refl _) rfl
          · refine ObX.op rfl fun f99 wd100 he101 hout102 hphi103 => ?_
            have hS104 := St.extend hS89 he101
            have e105 : f99 2 = (Value.pointer (some ⟨b1, 0, none⟩)) := (hout102 2 rfl).trans hf85
            exact OpX.val (Value.agg #[v_aR_Table]) wd100 rfl (op_loadBox st_24 e105 (BoxAt.lift (Ext.trans hE41 hS104.ext) hx6) rfl rfl) (Ext.refl _) rfl
          · refine ObX.op rfl fun f106 wd107 he108 hout109 hphi110 => ?_
            have hS111 := St.extend hS89 he108
            obtain ⟨S112, hS113, hf114⟩ := hphi110 1 47 _ rfl rfl rfl
            have e115 : f106 47 = (Value.agg #[v_aR_Table]) := hf114
            refine OpX.call rfl (op_call fn_9 (args1 e115)) (Ret.mono (c_laws_toRing (Ty.lift _ (Ext.trans hE40 hS111.ext) r_aR_Table) hx117) ?_)
            rintro _ wd119 ⟨u118, rfl, he120, hs121⟩
            exact ⟨he120, _, newS _ _, ⟨u118, rfl, (Sep.new hs121)⟩⟩
          · intro f122 wd123 Ss124 he125 hout126 hSn127 hSd128 hphi129
            show WL _ _ _ _ _ _ _
            have e131 : f122 46 = (Value.agg #[u54]) := hphi129 0 46 _ (by decide) rfl rfl
            obtain ⟨u133, e132, e132s⟩ := hphi129 2 48 _ (by decide) rfl rfl
            have e134 : f122 1 = v_aX := (hout126 1 rfl).trans hf84
            have e135 : f122 9 = u67 := (hout126 9 rfl).trans hf87
            have hS136 := St.joinS hS89 he125 hSn127 (SepS.consS hSd128 rfl e132s SepS.nilS)
            replace hS136 : St wd35 wd123 [(Ty.sl (Ty.sl (Ty.sl (Ty.i .i64)))).at u54 x52, bx b59 [u54], (Ty.sl (Ty.i .i64)).at u67 x65, (Ty.sl (Ty.sl (Ty.sl (Ty.i .i64)))).at u133 x116] := hS136
            obtain ⟨x137, hx138, h⟩ := bs h
            refine WL.call _ (op_call fn_12 (args2 e131 e132)) (c_laws_eqRing (St.rep (t := (Ty.sl (Ty.sl (Ty.sl (Ty.i .i64))))) hS136 0 rfl) (St.rep (t := (Ty.sl (Ty.sl (Ty.sl (Ty.i .i64))))) hS136 3 rfl) hx138) rfl ?_
            rintro _ wd139 ⟨rfl, he140⟩
            have hS142 := St.extend hS136 he140
            replace hS142 : St wd35 wd139 [(Ty.sl (Ty.sl (Ty.sl (Ty.i .i64)))).at u54 x52, bx b59 [u54], (Ty.sl (Ty.i .i64)).at u67 x65, (Ty.sl (Ty.sl (Ty.sl (Ty.i .i64)))).at u133 x116] := hS142
            refine WL.val (Value.bool (!x137)) _ (op_not rfl) rfl ?_
            refine WL.nil ?_
            refine W.cond (!x137) rfl (fun hc143 => ?_) (fun hc143 => ?_)
            · replace h := ip h hc143
              refine W.seq (W.region ?_)
              refine WL.val (Value.bool false) _ (op_assign rfl) rfl ?_
              refine WL.nil ?_
              refine W.ret ?_
              obtain rfl := Option.some.inj h
              show FinP _ _ _ _ _ _ _
              exact FinP.ret _ (res1 rfl rfl) ⟨rfl, (Ext.trans hE40 hS142.ext)⟩
            · replace h := inegb h hc143
              refine W.skip ?_
              refine W.seq (W.seq (W.region ?_))
              refine WL.val u67 _ (op_move e135) rfl ?_
              refine WL.val v_aX _ (op_move e134) rfl ?_
              obtain ⟨x145, hx146, h⟩ := bs h
              refine WL.call _ (op_call fn_10 (args1 rfl)) (c_laws_toInt64S (Ty.lift _ (Ext.trans hE40 hS142.ext) r_aX) hx146) rfl ?_
              rintro u147 wd148 ⟨_, rfl, he149, hs150⟩
              have hS151 := St.join hS142 he149 hs150
              replace hS151 : St wd35 wd148 [(Ty.sl (Ty.sl (Ty.sl (Ty.i .i64)))).at u54 x52, bx b59 [u54], (Ty.sl (Ty.i .i64)).at u67 x65, (Ty.sl (Ty.sl (Ty.sl (Ty.i .i64)))).at u133 x116, (Ty.sl (Ty.i .i64)).at u147 x145] := hS151
              obtain ⟨x152, hx153, h⟩ := bs h
              refine WL.call _ (op_call fn_13 (args2 rfl rfl)) (c_laws_eqInt64S (St.rep (t := (Ty.sl (Ty.i .i64))) hS151 2 rfl) (St.rep (t := (Ty.sl (Ty.i .i64))) hS151 4 rfl) hx153) rfl ?_
              rintro _ wd154 ⟨rfl, he155⟩
              have hS157 := St.extend hS151 he155
              replace hS157 : St wd35 wd154 [(Ty.sl (Ty.sl (Ty.sl (Ty.i .i64)))).at u54 x52, bx b59 [u54], (Ty.sl (Ty.i .i64)).at u67 x65, (Ty.sl (Ty.sl (Ty.sl (Ty.i .i64)))).at u133 x116, (Ty.sl (Ty.i .i64)).at u147 x145] := hS157
              refine WL.val (Value.bool (!x152)) _ (op_not rfl) rfl ?_
              refine WL.nil ?_
              refine W.cond (!x152) rfl (fun hc158 => ?_) (fun hc158 => ?_)
              · replace h := ip h hc158
                refine W.seq (W.region ?_)
                refine WL.val (Value.bool false) _ (op_assign rfl) rfl ?_
                refine WL.nil ?_
                refine W.ret ?_
                obtain rfl := Option.some.inj h
                show FinP _ _ _ _ _ _ _
                exact FinP.ret _ (res1 rfl rfl) ⟨rfl, (Ext.trans hE40 hS157.ext)⟩
              · replace h := inegb h hc158
                refine W.skip ?_
                refine W.seq (W.region ?_)
                refine WL.val (Value.bool true) _ (op_assign rfl) rfl ?_
                refine WL.nil ?_
                refine W.ret ?_
                obtain rfl := Option.some.inj h
                show FinP _ _ _ _ _ _ _
                exact FinP.ret _ (res1 rfl rfl) ⟨rfl, (Ext.trans hE40 hS157.ext)⟩

end Go.VG
