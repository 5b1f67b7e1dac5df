/- The walks, part 4: each Go function returns what its plain twin returns. No condition beyond what each names. -/
import Derived.Test.YtoobahemnnhkbaaGWalk3
set_option linter.all false
namespace Go.VG
open Go.Proofs
attribute [local irreducible] W WL Sep FinP

theorem c_laws_eqInt64SSS {w : World} {a : (List (List (List Int)))} {v_a : Value} {b : (List (List (List Int)))} {v_b : Value} (r_a : (Ty.sl (Ty.sl (Ty.sl (Ty.i .i64)))).rep w v_a a) (r_b : (Ty.sl (Ty.sl (Ty.sl (Ty.i .i64)))).rep w v_b b) {res : Bool} (h : p_laws_eqInt64SSS a b  = some res) :
    Ret Try.prog 29 #[v_a, v_b] w (fun v w' => v = Value.bool res ∧ Ext w w') := by
  unfold p_laws_eqInt64SSS at h
  have hS0 : St w w [] := St.start w
  refine Ret.start (fn := Try.f29) Try.func29 rfl 27 rfl rfl ?_
  refine W.seq (W.region ?_)
  refine WL.val (Value.bool false) _ (op_assign rfl) rfl ?_
  refine WL.nil ?_
  refine W.seq (W.seq (W.region ?_))
  refine WL.val v_a _ (op_move rfl) rfl ?_
  have hr1 := inR_len (Ty.lift _ hS0.ext r_a)
  refine WL.val (Value.int .i64 ((a).length : Int)) _ (op_lenL sl_22 (Ty.lift _ hS0.ext r_a) rfl) rfl ?_
  refine WL.val v_b _ (op_move rfl) rfl ?_
  have hr2 := inR_len (Ty.lift _ hS0.ext r_b)
  refine WL.val (Value.int .i64 ((b).length : Int)) _ (op_lenL sl_22 (Ty.lift _ hS0.ext r_b) rfl) rfl ?_
  refine WL.val (Value.bool (((a).length : Int) != ((b).length : Int))) _ (op_neq rfl rfl) rfl ?_
  refine WL.nil ?_
  refine W.cond (((a).length : Int) != ((b).length : Int)) rfl (fun hc3 => ?_) (fun hc3 => ?_)
  · replace h := ip h hc3
    refine W.seq (W.region ?_)
    refine WL.val (Value.bool false) _ (op_assign rfl) rfl ?_
    refine WL.nil ?_
    refine W.ret ?_
    obtain rfl := Option.some.inj h
    show FinP _ _ _ _ _ _ _
    exact FinP.ret _ (res1 rfl rfl) ⟨rfl, hS0.ext⟩
  · replace h := inegb h hc3
    refine W.skip ?_
    refine W.seq (W.seq (W.region ?_))
    refine WL.val (Value.int .i64 (0 : Int)) _ (op_assign rfl) rfl ?_
    refine WL.nil ?_
    show W _ _ _ _ _ _
    obtain ⟨res5, hres6, h⟩ := bs h
    refine W.blockLoop (fun fq wq => ∃ s, res5 = Res.fin s ∧ St w wq []) ?_ ?_
    · refine W.forN (fun k (s : Unit) fq wq => fq 0 = v_a ∧ fq 1 = v_b ∧ fq 5 = Value.int .i64 (k : Int) ∧ InR .i64 (k : Int) ∧ St w wq []) hres6 ⟨rfl, rfl, rfl, (inL rfl), hS0⟩ ?_ ?_
      · intro k7 s138 ct8 f9 wd10 hk11 hb12 hI13 hbrk14 hret15
        obtain ⟨⟩ := s138
        replace hI13 : f9 0 = v_a ∧ f9 1 = v_b ∧ f9 5 = Value.int .i64 (k7 : Int) ∧ InR .i64 (k7 : Int) ∧ St w wd10 [] := hI13
        replace hb12 : p_laws_eqInt64SSS_L1 a b k7  = some ct8 := hb12
        unfold p_laws_eqInt64SSS_L1 at hb12
        obtain ⟨hf16, hf17, hf18, hr19, hS20⟩ := hI13
        refine W.seq (W.seq (W.region ?_))
        refine WL.val (Value.int .i64 (k7 : Int)) _ (op_move hf18) rfl ?_
        refine WL.val v_a _ (op_move hf16) rfl ?_
        have hr21 := inR_len (Ty.lift _ hS20.ext r_a)
        refine WL.val (Value.int .i64 ((a).length : Int)) _ (op_lenL sl_22 (Ty.lift _ hS20.ext r_a) rfl) rfl ?_
        refine WL.val (Value.bool (decide ((k7 : Int) < ((a).length : Int)))) _ (op_lss rfl rfl) rfl ?_
        have hl22 : (k7 : Int) < ((a).length : Int) := by omega
        refine WL.nil ?_
        refine W.condT (decide ((k7 : Int) < ((a).length : Int))) rfl (decide_eq_true hl22) ?_
        refine W.skip ?_
        refine W.seq ?_
        refine W.block ?_
        refine W.seq ?_
        obtain ⟨x53, hx56, hb12⟩ := bs hb12
        obtain ⟨ha54, hb55, hx56⟩ := idx_some hx56
        obtain ⟨u67, hc68, hr69⟩ := repSl.el r_a hx56
        obtain ⟨x99, hx102, hb12⟩ := bs hb12
        obtain ⟨ha100, hb101, hx102⟩ := idx_some hx102
        obtain ⟨u113, hc114, hr115⟩ := repSl.el r_b hx102
        refine W.drawR mixo 8 [] [fun _ v _ _ => v = v_a, fun _ v _ _ => v = (Value.int .i64 (k7 : Int)) ∧ InR .i64 (k7 : Int), fun _ v _ _ => v = (Value.pointer (some (elA v_a ((k7 : Int)).toNat))), fun _ v _ _ => v = u67, fun _ v _ _ => v = v_b, fun _ v _ _ => v = (Value.int .i64 (k7 : Int)) ∧ InR .i64 (k7 : Int), fun _ v _ _ => v = (Value.pointer (some (elA v_b ((k7 : Int)).toNat))), fun _ v _ _ => v = u113] (by kernel_rfl) (by kernel_rfl) ⟨pk, pk, pk, pk, pk, pk, pk, pk, trivial⟩ ⟨?_, ?_, ?_, ?_, ?_, ?_, ?_, ?_, trivial⟩ ?_
        · refine ObX.op rfl fun f24 wd25 he26 hout27 hphi28 => ?_
          have e30 : f24 0 = v_a := (hout27 0 rfl).trans hf16
          exact OpX.val v_a wd25 rfl (op_move e30) (Ext.refl _) rfl
        · refine ObX.op rfl fun f31 wd32 he33 hout34 hphi35 => ?_
          have e37 : f31 5 = (Value.int .i64 (k7 : Int)) := (hout34 5 rfl).trans hf18
          exact OpX.val (Value.int .i64 (k7 : Int)) wd32 rfl (op_move e37) (Ext.refl _) ⟨rfl, hr19⟩
        · refine ObX.op rfl fun f38 wd39 he40 hout41 hphi42 => ?_
          have hS43 := St.extend hS20 he40
          obtain ⟨S44, hS45, hf46⟩ := hphi42 0 17 _ rfl rfl rfl
          have e47 : f38 17 = v_a := hf46
          obtain ⟨S48, hS49, hf50⟩ := hphi42 1 18 _ rfl rfl rfl
          obtain ⟨e51, hr52⟩ := hf50
          exact OpX.val (Value.pointer (some (elA v_a ((k7 : Int)).toNat))) wd39 rfl (op_idx sl_22 (Ty.lift _ hS43.ext r_a) e47 e51 ha54 hb55) (Ext.refl _) rfl
        · refine ObX.op rfl fun f57 wd58 he59 hout60 hphi61 => ?_
          have hS62 := St.extend hS20 he59
          obtain ⟨S63, hS64, hf65⟩ := hphi61 2 19 _ rfl rfl rfl
          have e66 : f57 19 = (Value.pointer (some (elA v_a ((k7 : Int)).toNat))) := hf65
          exact OpX.val u67 wd58 rfl (op_load one_46 e66 (Ext.cell hS62.ext hc68)) (Ext.refl _) rfl
        · refine ObX.op rfl fun f70 wd71 he72 hout73 hphi74 => ?_
          have e76 : f70 1 = v_b := (hout73 1 rfl).trans hf17
          exact OpX.val v_b wd71 rfl (op_move e76) (Ext.refl _) rfl
        · refine ObX.op rfl fun f77 wd78 he79 hout80 hphi81 => ?_
          have e83 : f77 5 = (Value.int .i64 (k7 : Int)) := (hout80 5 rfl).trans hf18
          exact OpX.val (Value.int .i64 (k7 : Int)) wd78 rfl (op_move e83) (Ext.refl _) ⟨rfl, hr19⟩
        · refine ObX.op rfl fun f84 wd85 he86 hout87 hphi88 => ?_
          have hS89 := St.extend hS20 he86
          obtain ⟨S90, hS91, hf92⟩ := hphi88 4 21 _ rfl rfl rfl
          have e93 : f84 21 = v_b := hf92
          obtain ⟨S94, hS95, hf96⟩ := hphi88 5 22 _ rfl rfl rfl
          obtain ⟨e97, hr98⟩ := hf96
          exact OpX.val (Value.pointer (some (elA v_b ((k7 : Int)).toNat))) wd85 rfl (op_idx sl_22 (Ty.lift _ hS89.ext r_b) e93 e97 ha100 hb101) (Ext.refl _) rfl
        · refine ObX.op rfl fun f103 wd104 he105 hout106 hphi107 => ?_
          have hS108 := St.extend hS20 he105
          obtain ⟨S109, hS110, hf111⟩ := hphi107 6 23 _ rfl rfl rfl
          have e112 : f103 23 = (Value.pointer (some (elA v_b ((k7 : Int)).toNat))) := hf111
          exact OpX.val u113 wd104 rfl (op_load one_46 e112 (Ext.cell hS108.ext hc114)) (Ext.refl _) rfl
        · intro f116 wd117 Ss118 he119 hout120 hSn121 hSd122 hphi123
          show WL _ _ _ _ _ _ _
          have hS124 := St.extend hS20 he119
          have e125 : f116 20 = u67 := hphi123 3 20 _ (by decide) rfl rfl
          have e126 : f116 24 = u113 := hphi123 7 24 _ (by decide) rfl rfl
          have e127 : f116 0 = v_a := (hout120 0 rfl).trans hf16
          have e128 : f116 1 = v_b := (hout120 1 rfl).trans hf17
          have e129 : f116 5 = (Value.int .i64 (k7 : Int)) := (hout120 5 rfl).trans hf18
          obtain ⟨x130, hx131, hb12⟩ := bs hb12
          refine WL.call _ (op_call fn_46 (args2 e125 e126)) (c_laws_eqInt64SS (Ty.lift _ hS124.ext hr69) (Ty.lift _ hS124.ext hr115) hx131) rfl ?_
          rintro _ wd132 ⟨rfl, he133⟩
          have hS135 := St.extend hS124 he133
          replace hS135 : St w wd132 [] := hS135
          refine WL.val (Value.bool (!x130)) _ (op_not rfl) rfl ?_
          refine WL.nil ?_
          refine W.cond (!x130) rfl (fun hc136 => ?_) (fun hc136 => ?_)
          · replace hb12 := ip hb12 hc136
            refine W.seq (W.region ?_)
            refine WL.val (Value.bool false) _ (op_assign rfl) rfl ?_
            refine WL.nil ?_
            refine W.ret ?_
            obtain rfl := Option.some.inj hb12
            obtain rfl := hret15 _ rfl
            replace h := onRes_ret h
            obtain rfl := Option.some.inj h
            show FinP _ _ _ _ _ _ _
            exact FinP.ret _ (res1 rfl rfl) ⟨rfl, hS135.ext⟩
          · replace hb12 := inegb hb12 hc136
            refine W.skip ?_
            show W _ _ _ _ _ _
            refine W.region ?_
            refine WL.val (Value.int .i64 (k7 : Int)) _ (op_move e129) rfl ?_
            refine WL.val (Value.int .i64 (w64 ((k7 : Int) + (1 : Int)))) _ (op_add rfl rfl) rfl ?_
            refine WL.val (Value.int .i64 (w64 ((k7 : Int) + (1 : Int)))) _ (op_assign rfl) rfl ?_
            refine WL.nil ?_
            obtain rfl := Option.some.inj hb12
            show ∃ s, _ = Ctl.next s ∧ _
            exact ⟨_, rfl, e127, e128, (ctr_next hl22 hr21), (ctr_rng hl22 hr21), hS135⟩
      · intro s143 f139 wd140 hs141 hI142
        obtain ⟨⟩ := s143
        replace hI142 : f139 0 = v_a ∧ f139 1 = v_b ∧ f139 5 = Value.int .i64 (((a).length : Nat) : Int) ∧ InR .i64 (((a).length : Nat) : Int) ∧ St w wd140 [] := hI142
        obtain ⟨hf144, hf145, hf146, hr147, hS148⟩ := hI142
        refine W.seq (W.seq (W.region ?_))
        refine WL.val (Value.int .i64 (((a).length : Nat) : Int)) _ (op_move hf146) rfl ?_
        refine WL.val v_a _ (op_move hf144) rfl ?_
        have hr149 := inR_len (Ty.lift _ hS148.ext r_a)
        refine WL.val (Value.int .i64 ((a).length : Int)) _ (op_lenL sl_22 (Ty.lift _ hS148.ext r_a) rfl) rfl ?_
        refine WL.val (Value.bool (decide ((((a).length : Nat) : Int) < ((a).length : Int)))) _ (op_lss rfl rfl) rfl ?_
        have hl150 : ¬ (((a).length : Nat) : Int) < ((a).length : Int) := by omega
        refine WL.nil ?_
        refine W.condF (decide ((((a).length : Nat) : Int) < ((a).length : Int))) rfl (decide_eq_false hl150) ?_
        refine W.exit ?_
        show _ = _ ∧ _
        exact ⟨rfl, _, hs141, hS148⟩
    · rintro f151 wd152 ⟨s154, rfl, hq153⟩
      replace h := onRes_fin h
      obtain ⟨⟩ := s154
      replace hq153 : St w wd152 [] := hq153
      have hS155 := hq153
      refine W.seq (W.region ?_)
      refine WL.val (Value.bool true) _ (op_assign rfl) rfl ?_
      refine WL.nil ?_
      refine W.ret ?_
      obtain rfl := Option.some.inj h
      show FinP _ _ _ _ _ _ _
      exact FinP.ret _ (res1 rfl rfl) ⟨rfl, hS155.ext⟩

theorem c_laws_eqRing {w : World} {a_Table : (List (List (List Int)))} {v_a_Table : Value} {b_Table : (List (List (List Int)))} {v_b_Table : Value} (r_a_Table : (Ty.sl (Ty.sl (Ty.sl (Ty.i .i64)))).rep w v_a_Table a_Table) (r_b_Table : (Ty.sl (Ty.sl (Ty.sl (Ty.i .i64)))).rep w v_b_Table b_Table) {res : Bool} (h : p_laws_eqRing a_Table b_Table  = some res) :
    Ret Try.prog 12 #[(Value.agg #[v_a_Table]), (Value.agg #[v_b_Table])] w (fun v w' => v = Value.bool res ∧ Ext w w') := by
  unfold p_laws_eqRing at h
  have hS0 : St w w [] := St.start w
  refine Ret.start (fn := Try.f12) Try.func12 rfl 11 rfl rfl ?_
  refine W.seq (W.region ?_)
  refine WL.box hS0 rfl (cs := [v_a_Table]) rfl rfl ?_
  intro b1 wd2 hS3 he4 hx5
  replace hS3 : St w wd2 [bx b1 [v_a_Table]] := hS3
  have hx6 := St.boxAt hS3 0 rfl
  have hE7 : Ext w wd2 := hS3.ext
  have hS8 : St wd2 wd2 [] := St.start wd2
  refine WL.box hS8 rfl (cs := [v_b_Table]) rfl rfl ?_
  intro b9 wd10 hS11 he12 hx13
  replace hS11 : St wd2 wd10 [bx b9 [v_b_Table]] := hS11
  have hx14 := St.boxAt hS11 0 rfl
  have hE15 : Ext w wd10 := (Ext.trans hE7 hS11.ext)
  have hE16 : Ext wd2 wd10 := hS11.ext
  have hS17 : St wd10 wd10 [] := St.start wd10
  refine WL.val (Value.bool false) _ (op_assign rfl) rfl ?_
  refine WL.nil ?_
  refine W.seq (W.seq (W.region ?_))
  refine WL.val (Value.pointer (some ⟨b1, 0, none⟩)) _ (op_fieldAddr fd_29_0 rfl) rfl ?_
  refine WL.val v_a_Table _ (op_load one_22 rfl (BoxAt.cell (BoxAt.lift (Ext.trans hE16 hS17.ext) hx6) rfl)) rfl ?_
  refine WL.val (Value.pointer (some ⟨b9, 0, none⟩)) _ (op_fieldAddr fd_29_0 rfl) rfl ?_
  refine WL.val v_b_Table _ (op_load one_22 rfl (BoxAt.cell (BoxAt.lift hS17.ext hx14) rfl)) rfl ?_
  obtain ⟨x18, hx19, h⟩ := bs h
  refine WL.call _ (op_call fn_29 (args2 rfl rfl)) (c_laws_eqInt64SSS (Ty.lift _ (Ext.trans hE15 hS17.ext) r_a_Table) (Ty.lift _ (Ext.trans hE15 hS17.ext) r_b_Table) hx19) rfl ?_
  rintro _ wd20 ⟨rfl, he21⟩
  have hS23 := St.extend hS17 he21
  replace hS23 : St wd10 wd20 [] := hS23
  refine WL.val (Value.bool (!x18)) _ (op_not rfl) rfl ?_
  refine WL.nil ?_
  refine W.cond (!x18) rfl (fun hc24 => ?_) (fun hc24 => ?_)
  · replace h := ip h hc24
    refine W.seq (W.region ?_)
    refine WL.val (Value.bool false) _ (op_assign rfl) rfl ?_
    refine WL.nil ?_
    refine W.ret ?_
    obtain rfl := Option.some.inj h
    show FinP _ _ _ _ _ _ _
    exact FinP.ret _ (res1 rfl rfl) ⟨rfl, (Ext.trans hE15 hS23.ext)⟩
  · replace h := inegb h hc24
    refine W.skip ?_
    refine W.seq (W.region ?_)
    refine WL.val (Value.bool true) _ (op_assign rfl) rfl ?_
    refine WL.nil ?_
    refine W.ret ?_
    obtain rfl := Option.some.inj h
    show FinP _ _ _ _ _ _ _
    exact FinP.ret _ (res1 rfl rfl) ⟨rfl, (Ext.trans hE15 hS23.ext)⟩

theorem c_spec_l03Duals {w : World} {r_Table : (List (List (List Int)))} {v_r_Table : Value} (r_r_Table : (Ty.sl (Ty.sl (Ty.sl (Ty.i .i64)))).rep w v_r_Table r_Table) {res : (List Int)} (h : p_spec_l03Duals r_Table  = some res) :
    Ret Try.prog 31 #[(Value.agg #[v_r_Table])] w (fun v w' => ∃ (u0 : Value), v = u0 ∧ Ext w w' ∧ Sep w.heap.size w' [(Ty.sl (Ty.i .i64)).at u0 res]) := by
  unfold p_spec_l03Duals at h
  have hS0 : St w w [] := St.start w
  refine Ret.start (fn := Try.f31) Try.func31 rfl 21 rfl rfl ?_
  refine W.seq (W.region ?_)
  refine WL.box hS0 rfl (cs := [v_r_Table]) rfl rfl ?_
  intro b1 wd2 hS3 he4 hx5
  replace hS3 : St w wd2 [bx b1 [v_r_Table]] := hS3
  have hx6 := St.boxAt hS3 0 rfl
  have hE7 : Ext w wd2 := hS3.ext
  have hS8 : St wd2 wd2 [] := St.start wd2
  refine WL.val (Value.slice none 0 0) _ (op_assign rfl) rfl ?_
  refine WL.nil ?_
  refine W.seq (W.region ?_)
  refine WL.lit0 (t := (Ty.i .i64)) hS8 sl_25 rfl rfl ?_
  intro u9 wd10 hS11 he12
  replace hS11 : St wd2 wd10 [(Ty.sl (Ty.i .i64)).at u9 ([] : (List Int))] := hS11
  refine WL.val u9 _ (op_assign rfl) rfl ?_
  refine WL.nil ?_
  refine W.seq (W.seq (W.region ?_))
  refine WL.val (Value.int .i64 (0 : Int)) _ (op_assign rfl) rfl ?_
  refine WL.nil ?_
  show W _ _ _ _ _ _
  obtain ⟨res13, hres14, h⟩ := bs h
  refine W.blockLoop (fun fq wq => ∃ s, res13 = Res.fin s ∧ ∃ (uu0 : Value), fq 3 = uu0 ∧ St wd2 wq [(Ty.sl (Ty.i .i64)).at uu0 s]) ?_ ?_
  · refine W.forN (fun k (s : (List Int)) fq wq => ∃ (uu0 : Value), fq 1 = (Value.pointer (some ⟨b1, 0, none⟩)) ∧ fq 3 = uu0 ∧ fq 4 = Value.int .i64 (k : Int) ∧ InR .i64 (k : Int) ∧ St wd2 wq [(Ty.sl (Ty.i .i64)).at uu0 s]) hres14 ⟨u9, rfl, rfl, rfl, (inL rfl), hS11⟩ ?_ ?_
    · intro k15 x16 ct17 f18 wd19 hk20 hb21 hI22 hbrk23 hret24
      replace hI22 : ∃ (uu0 : Value), f18 1 = (Value.pointer (some ⟨b1, 0, none⟩)) ∧ f18 3 = uu0 ∧ f18 4 = Value.int .i64 (k15 : Int) ∧ InR .i64 (k15 : Int) ∧ St wd2 wd19 [(Ty.sl (Ty.i .i64)).at uu0 x16] := hI22
      replace hb21 : p_spec_l03Duals_L1 r_Table k15 x16 = some ct17 := hb21
      unfold p_spec_l03Duals_L1 at hb21
      obtain ⟨u25, hf26, hf27, hf28, hr29, hS30⟩ := hI22
      refine W.seq (W.seq (W.region ?_))
      refine WL.val (Value.int .i64 (k15 : Int)) _ (op_move hf28) rfl ?_
      refine WL.val (Value.pointer (some ⟨b1, 0, none⟩)) _ (op_fieldAddr fd_29_0 hf26) rfl ?_
      refine WL.val v_r_Table _ (op_load one_22 rfl (BoxAt.cell (BoxAt.lift hS30.ext hx6) rfl)) rfl ?_
      have hr31 := inR_len (Ty.lift _ (Ext.trans hE7 hS30.ext) r_r_Table)
      refine WL.val (Value.int .i64 ((r_Table).length : Int)) _ (op_lenL sl_22 (Ty.lift _ (Ext.trans hE7 hS30.ext) r_r_Table) rfl) rfl ?_
      refine WL.val (Value.bool (decide ((k15 : Int) < ((r_Table).length : Int)))) _ (op_lss rfl rfl) rfl ?_
      have hl32 : (k15 : Int) < ((r_Table).length : Int) := by omega
      refine WL.nil ?_
      refine W.condT (decide ((k15 : Int) < ((r_Table).length : Int))) rfl (decide_eq_true hl32) ?_
      refine W.skip ?_
      refine W.seq ?_
      refine W.block ?_
      refine W.region ?_
      refine WL.val u25 _ (op_move hf27) rfl ?_
      refine WL.val (Value.pointer (some ⟨b1, 0, none⟩)) _ (op_fieldAddr fd_29_0 hf26) rfl ?_
      refine WL.val v_r_Table _ (op_load one_22 rfl (BoxAt.cell (BoxAt.lift hS30.ext hx6) rfl)) rfl ?_
      refine WL.val (Value.int .i64 (k15 : Int)) _ (op_move hf28) rfl ?_
      obtain ⟨x34, hx35, hb21⟩ := bs hb21
      refine WL.call _ (op_call fn_47 (args2 rfl rfl)) (c_spec_l03Dual (Ty.lift _ (Ext.trans hE7 hS30.ext) r_r_Table) hr29 hx35) rfl ?_
      rintro _ wd37 ⟨rfl, hr36, he38⟩
      have hS40 := St.extend hS30 he38
      replace hS40 : St wd2 wd37 [(Ty.sl (Ty.i .i64)).at u25 x16] := hS40
      refine WL.litFlat (t := (Ty.i .i64)) (flat_i .i64) [(Value.int .i64 x34)] [x34] hS40 sl_25 rfl rfl (fillL rfl ⟨rfl, rfl, rfl, trivial⟩) rfl rfl (litL ⟨⟨rfl, hr36⟩, trivial⟩) rfl ?_
      intro u41 wd42 hS43 he44
      replace hS43 : St wd2 wd42 [(Ty.sl (Ty.i .i64)).at u25 x16, (Ty.sl (Ty.i .i64)).at u41 ([x34] : (List Int))] := hS43
      obtain ⟨x45, hx46, hb21⟩ := bs hb21
      refine WL.append (flat_i .i64) hS43 (k := 0) rfl sl_25 rfl rfl rfl rfl (St.rep (t := (Ty.sl (Ty.i .i64))) hS43 1 rfl) hx46 rfl ?_
      intro u47 wd48 hS49 hz50
      replace hS49 : St wd2 wd48 [(Ty.sl (Ty.i .i64)).at u47 x45, (Ty.sl (Ty.i .i64)).at u41 ([x34] : (List Int))] := hS49
      refine WL.val u47 _ (op_assign rfl) rfl ?_
      refine WL.nil ?_
      show W _ _ _ _ _ _
      refine W.region ?_
      refine WL.val (Value.int .i64 (k15 : Int)) _ (op_move hf28) rfl ?_
      refine WL.val (Value.int .i64 (w64 ((k15 : Int) + (1 : Int)))) _ (op_add rfl rfl) rfl ?_
      refine WL.val (Value.int .i64 (w64 ((k15 : Int) + (1 : Int)))) _ (op_assign rfl) rfl ?_
      refine WL.nil ?_
      obtain rfl := Option.some.inj hb21
      show ∃ s, _ = Ctl.next s ∧ _
      exact ⟨_, rfl, u47, hf26, rfl, (ctr_next hl32 hr31), (ctr_rng hl32 hr31), (St.pick hS49 [0] rfl)⟩
    · intro x57 f52 wd53 hs54 hI55
      replace hI55 : ∃ (uu0 : Value), f52 1 = (Value.pointer (some ⟨b1, 0, none⟩)) ∧ f52 3 = uu0 ∧ f52 4 = Value.int .i64 (((r_Table).length : Nat) : Int) ∧ InR .i64 (((r_Table).length : Nat) : Int) ∧ St wd2 wd53 [(Ty.sl (Ty.i .i64)).at uu0 x57] := hI55
      obtain ⟨u58, hf59, hf60, hf61, hr62, hS63⟩ := hI55
      refine W.seq (W.seq (W.region ?_))
      refine WL.val (Value.int .i64 (((r_Table).length : Nat) : Int)) _ (op_move hf61) rfl ?_
      refine WL.val (Value.pointer (some ⟨b1, 0, none⟩)) _ (op_fieldAddr fd_29_0 hf59) rfl ?_
      refine WL.val v_r_Table _ (op_load one_22 rfl (BoxAt.cell (BoxAt.lift hS63.ext hx6) rfl)) rfl ?_
      have hr64 := inR_len (Ty.lift _ (Ext.trans hE7 hS63.ext) r_r_Table)
      refine WL.val (Value.int .i64 ((r_Table).length : Int)) _ (op_lenL sl_22 (Ty.lift _ (Ext.trans hE7 hS63.ext) r_r_Table) rfl) rfl ?_
      refine WL.val (Value.bool (decide ((((r_Table).length : Nat) : Int) < ((r_Table).length : Int)))) _ (op_lss rfl rfl) rfl ?_
      have hl65 : ¬ (((r_Table).length : Nat) : Int) < ((r_Table).length : Int) := by omega
      refine WL.nil ?_
      refine W.condF (decide ((((r_Table).length : Nat) : Int) < ((r_Table).length : Int))) rfl (decide_eq_false hl65) ?_
      refine W.exit ?_
      show _ = _ ∧ _
      exact ⟨rfl, _, hs54, u58, hf60, hS63⟩
  · rintro f66 wd67 ⟨x70, rfl, hq68⟩
    replace h := onRes_fin h
    replace hq68 : ∃ (uu0 : Value), f66 3 = uu0 ∧ St wd2 wd67 [(Ty.sl (Ty.i .i64)).at uu0 x70] := hq68
    obtain ⟨u71, hf72, hS73⟩ := hq68
    refine W.seq (W.region ?_)
    refine WL.val u71 _ (op_move hf72) rfl ?_
    refine WL.val u71 _ (op_assign rfl) rfl ?_
    refine WL.nil ?_
    refine W.ret ?_
    obtain rfl := Option.some.inj h
    show FinP _ _ _ _ _ _ _
    exact FinP.ret _ (res1 rfl rfl) ⟨u71, rfl, (Ext.trans hE7 hS73.ext), (St.out (St.pick hS73 [0] rfl) (hE7))⟩

theorem c_impl_turnList {w : World} {dual : (List Int)} {v_dual : Value} {x : (List Int)} {v_x : Value} (r_dual : (Ty.sl (Ty.i .i64)).rep w v_dual dual) (r_x : (Ty.sl (Ty.i .i64)).rep w v_x x) {res : (List Int)} (h : p_impl_turnList dual x  = some res) :
    Ret Try.prog 34 #[v_dual, v_x] w (fun v w' => ∃ (u0 : Value), v = u0 ∧ Ext w w' ∧ Sep w.heap.size w' [(Ty.sl (Ty.i .i64)).at u0 res]) := by
  unfold p_impl_turnList at h
  have hS0 : St w w [] := St.start w
  refine Ret.start (fn := Try.f34) Try.func34 rfl 24 rfl rfl ?_
  refine W.seq (W.region ?_)
  refine WL.val (Value.slice none 0 0) _ (op_assign rfl) rfl ?_
  refine WL.nil ?_
  refine W.seq (W.region ?_)
  refine WL.lit0 (t := (Ty.i .i64)) hS0 sl_25 rfl rfl ?_
  intro u1 wd2 hS3 he4
  replace hS3 : St w wd2 [(Ty.sl (Ty.i .i64)).at u1 ([] : (List Int))] := hS3
  refine WL.val u1 _ (op_assign rfl) rfl ?_
  refine WL.nil ?_
  refine W.seq (W.seq (W.region ?_))
  refine WL.val v_dual _ (op_move rfl) rfl ?_
  have hr5 := inR_len (Ty.lift _ hS3.ext r_dual)
  refine WL.val (Value.int .i64 ((dual).length : Int)) _ (op_lenL sl_52 (Ty.lift _ hS3.ext r_dual) rfl) rfl ?_
  refine WL.val (Value.int .i64 (0 : Int)) _ (op_move rfl) rfl ?_
  refine WL.nil ?_
  show W _ _ _ _ _ _
  obtain ⟨res6, hres7, h⟩ := bs h
  refine W.blockLoop (fun fq wq => ∃ s, res6 = Res.fin s ∧ ∃ (uu0 : Value), fq 5 = uu0 ∧ St w wq [(Ty.sl (Ty.i .i64)).at uu0 s]) ?_ ?_
  · refine W.forN (fun k (s : (List Int)) fq wq => ∃ (uu0 : Value), fq 1 = v_x ∧ fq 5 = uu0 ∧ fq 9 = v_dual ∧ fq 10 = (Value.int .i64 ((dual).length : Int)) ∧ fq 11 = Value.int .i64 (k : Int) ∧ InR .i64 (k : Int) ∧ St w wq [(Ty.sl (Ty.i .i64)).at uu0 s]) hres7 ⟨u1, rfl, rfl, rfl, rfl, rfl, (inL rfl), hS3⟩ ?_ ?_
    · intro k8 x9 ct10 f11 wd12 hk13 hb14 hI15 hbrk16 hret17
      replace hI15 : ∃ (uu0 : Value), f11 1 = v_x ∧ f11 5 = uu0 ∧ f11 9 = v_dual ∧ f11 10 = (Value.int .i64 ((dual).length : Int)) ∧ f11 11 = Value.int .i64 (k8 : Int) ∧ InR .i64 (k8 : Int) ∧ St w wd12 [(Ty.sl (Ty.i .i64)).at uu0 x9] := hI15
      replace hb14 : p_impl_turnList_L1 dual x k8 x9 = some ct10 := hb14
      unfold p_impl_turnList_L1 at hb14
      obtain ⟨u18, hf19, hf20, hf21, hf22, hf23, hr24, hS25⟩ := hI15
      refine W.seq (W.region ?_)
      refine WL.val (Value.bool (decide ((k8 : Int) < ((dual).length : Int)))) _ (op_lss hf23 hf22) rfl ?_
      have hl26 : (k8 : Int) < ((dual).length : Int) := by omega
      refine WL.nil ?_
      refine W.seq ?_
      refine W.condT (decide ((k8 : Int) < ((dual).length : Int))) rfl (decide_eq_true hl26) ?_
      refine W.skip ?_
      refine W.seq ?_
      refine W.block ?_
      refine W.seq (W.region ?_)
      obtain ⟨x28, hx31, hb14⟩ := bs hb14
      obtain ⟨ha29, hb30, hx31⟩ := idx_some hx31
      refine WL.val (Value.pointer (some (elA v_dual ((k8 : Int)).toNat))) _ (op_idx sl_52 (Ty.lift _ hS25.ext r_dual) hf21 hf23 ha29 hb30) rfl ?_
      obtain ⟨u32, hc33, hr34⟩ := repSl.el r_dual hx31
      obtain ⟨rfl, hr34⟩ := hr34
      refine WL.val (Value.int .i64 x28) _ (op_load one_3 rfl (Ext.cell hS25.ext hc33)) rfl ?_
      refine WL.val (Value.int .i64 x28) _ (op_assign rfl) rfl ?_
      refine WL.nil ?_
      show W _ _ _ _ _ _
      refine W.region ?_
      refine WL.val u18 _ (op_move hf20) rfl ?_
      refine WL.val v_x _ (op_move hf19) rfl ?_
      refine WL.val (Value.int .i64 x28) _ (op_move rfl) rfl ?_
      obtain ⟨x35, hx38, hb14⟩ := bs hb14
      obtain ⟨ha36, hb37, hx38⟩ := idx_some hx38
      refine WL.val (Value.pointer (some (elA v_x (x28).toNat))) _ (op_idx sl_25 (Ty.lift _ hS25.ext r_x) rfl rfl ha36 hb37) rfl ?_
      obtain ⟨u39, hc40, hr41⟩ := repSl.el r_x hx38
      obtain ⟨rfl, hr41⟩ := hr41
      refine WL.val (Value.int .i64 x35) _ (op_load one_2 rfl (Ext.cell hS25.ext hc40)) rfl ?_
      refine WL.litFlat (t := (Ty.i .i64)) (flat_i .i64) [(Value.int .i64 x35)] [x35] hS25 sl_25 rfl rfl (fillL rfl ⟨rfl, rfl, rfl, trivial⟩) rfl rfl (litL ⟨⟨rfl, hr41⟩, trivial⟩) rfl ?_
      intro u42 wd43 hS44 he45
      replace hS44 : St w wd43 [(Ty.sl (Ty.i .i64)).at u18 x9, (Ty.sl (Ty.i .i64)).at u42 ([x35] : (List Int))] := hS44
      obtain ⟨x46, hx47, hb14⟩ := bs hb14
      refine WL.append (flat_i .i64) hS44 (k := 0) rfl sl_25 rfl rfl rfl rfl (St.rep (t := (Ty.sl (Ty.i .i64))) hS44 1 rfl) hx47 rfl ?_
      intro u48 wd49 hS50 hz51
      replace hS50 : St w wd49 [(Ty.sl (Ty.i .i64)).at u48 x46, (Ty.sl (Ty.i .i64)).at u42 ([x35] : (List Int))] := hS50
      refine WL.val u48 _ (op_assign rfl) rfl ?_
      refine WL.nil ?_
      show W _ _ _ _ _ _
      refine W.region ?_
      refine WL.val (Value.int .i64 (w64 ((k8 : Int) + (1 : Int)))) _ (op_add hf23 rfl) rfl ?_
      refine WL.val (Value.int .i64 (w64 ((k8 : Int) + (1 : Int)))) _ (op_move rfl) rfl ?_
      refine WL.nil ?_
      obtain rfl := Option.some.inj hb14
      show ∃ s, _ = Ctl.next s ∧ _
      exact ⟨_, rfl, u48, hf19, rfl, hf21, hf22, (ctr_next hl26 hr5), (ctr_rng hl26 hr5), (St.pick hS50 [0] rfl)⟩
    · intro x58 f53 wd54 hs55 hI56
      replace hI56 : ∃ (uu0 : Value), f53 1 = v_x ∧ f53 5 = uu0 ∧ f53 9 = v_dual ∧ f53 10 = (Value.int .i64 ((dual).length : Int)) ∧ f53 11 = Value.int .i64 (((dual).length : Nat) : Int) ∧ InR .i64 (((dual).length : Nat) : Int) ∧ St w wd54 [(Ty.sl (Ty.i .i64)).at uu0 x58] := hI56
      obtain ⟨u59, hf60, hf61, hf62, hf63, hf64, hr65, hS66⟩ := hI56
      refine W.seq (W.region ?_)
      refine WL.val (Value.bool (decide ((((dual).length : Nat) : Int) < ((dual).length : Int)))) _ (op_lss hf64 hf63) rfl ?_
      have hl67 : ¬ (((dual).length : Nat) : Int) < ((dual).length : Int) := by omega
      refine WL.nil ?_
      refine W.seq ?_
      refine W.condF (decide ((((dual).length : Nat) : Int) < ((dual).length : Int))) rfl (decide_eq_false hl67) ?_
      refine W.exit ?_
      show _ = _ ∧ _
      exact ⟨rfl, _, hs55, u59, hf61, hS66⟩
  · rintro f68 wd69 ⟨x72, rfl, hq70⟩
    replace h := onRes_fin h
    replace hq70 : ∃ (uu0 : Value), f68 5 = uu0 ∧ St w wd69 [(Ty.sl (Ty.i .i64)).at uu0 x72] := hq70
    obtain ⟨u73, hf74, hS75⟩ := hq70
    refine W.seq (W.region ?_)
    refine WL.val u73 _ (op_move hf74) rfl ?_
    refine WL.val u73 _ (op_assign rfl) rfl ?_
    refine WL.nil ?_
    refine W.ret ?_
    obtain rfl := Option.some.inj h
    show FinP _ _ _ _ _ _ _
    exact FinP.ret _ (res1 rfl rfl) ⟨u73, rfl, hS75.ext, (St.out (St.pick hS75 [0] rfl) (Ext.refl _))⟩

theorem c_spec_l08Turn {w : World} {x : (List Int)} {v_x : Value} {duals : (List Int)} {v_duals : Value} (r_x : (Ty.sl (Ty.i .i64)).rep w v_x x) (r_duals : (Ty.sl (Ty.i .i64)).rep w v_duals duals) {res : (List Int)} (h : p_spec_l08Turn x duals  = some res) :
    Ret Try.prog 33 #[v_x, v_duals] w (fun v w' => ∃ (u0 : Value), v = u0 ∧ Ext w w' ∧ Sep w.heap.size w' [(Ty.sl (Ty.i .i64)).at u0 res]) := by
  unfold p_spec_l08Turn at h
  have hS0 : St w w [] := St.start w
  refine Ret.start (fn := Try.f33) Try.func33 rfl 25 rfl rfl ?_
  refine W.seq (W.region ?_)
  refine WL.val (Value.slice none 0 0) _ (op_assign rfl) rfl ?_
  refine WL.nil ?_
  refine W.seq (W.region ?_)
  refine WL.lit0 (t := (Ty.i .i64)) hS0 sl_25 rfl rfl ?_
  intro u1 wd2 hS3 he4
  replace hS3 : St w wd2 [(Ty.sl (Ty.i .i64)).at u1 ([] : (List Int))] := hS3
  refine WL.val u1 _ (op_assign rfl) rfl ?_
  refine WL.nil ?_
  refine W.seq (W.seq (W.region ?_))
  refine WL.val (Value.int .i64 (0 : Int)) _ (op_assign rfl) rfl ?_
  refine WL.nil ?_
  show W _ _ _ _ _ _
  obtain ⟨res5, hres6, h⟩ := bs h
  refine W.blockLoop (fun fq wq => ∃ s, res5 = Res.fin s ∧ ∃ (uu0 : Value), fq 5 = uu0 ∧ St w wq [(Ty.sl (Ty.i .i64)).at uu0 s]) ?_ ?_
  · refine W.forN (fun k (s : (List Int)) fq wq => ∃ (uu0 : Value), fq 0 = v_x ∧ fq 1 = v_duals ∧ fq 5 = uu0 ∧ fq 6 = Value.int .i64 (k : Int) ∧ InR .i64 (k : Int) ∧ St w wq [(Ty.sl (Ty.i .i64)).at uu0 s]) hres6 ⟨u1, rfl, rfl, rfl, rfl, (inL rfl), hS3⟩ ?_ ?_
    · intro k7 x8 ct9 f10 wd11 hk12 hb13 hI14 hbrk15 hret16
      replace hI14 : ∃ (uu0 : Value), f10 0 = v_x ∧ f10 1 = v_duals ∧ f10 5 = uu0 ∧ f10 6 = Value.int .i64 (k7 : Int) ∧ InR .i64 (k7 : Int) ∧ St w wd11 [(Ty.sl (Ty.i .i64)).at uu0 x8] := hI14
      replace hb13 : p_spec_l08Turn_L1 duals x k7 x8 = some ct9 := hb13
      unfold p_spec_l08Turn_L1 at hb13
      obtain ⟨u17, hf18, hf19, hf20, hf21, hr22, hS23⟩ := hI14
      refine W.seq (W.seq (W.region ?_))
      refine WL.val (Value.int .i64 (k7 : Int)) _ (op_move hf21) rfl ?_
      refine WL.val v_x _ (op_move hf18) rfl ?_
      have hr24 := inR_len (Ty.lift _ hS23.ext r_x)
      refine WL.val (Value.int .i64 ((x).length : Int)) _ (op_lenL sl_25 (Ty.lift _ hS23.ext r_x) rfl) rfl ?_
      refine WL.val (Value.bool (decide ((k7 : Int) < ((x).length : Int)))) _ (op_lss rfl rfl) rfl ?_
      have hl25 : (k7 : Int) < ((x).length : Int) := by omega
      refine WL.nil ?_
      refine W.condT (decide ((k7 : Int) < ((x).length : Int))) rfl (decide_eq_true hl25) ?_
      refine W.skip ?_
      refine W.seq ?_
      refine W.block ?_
      refine W.region ?_
      refine WL.val u17 _ (op_move hf20) rfl ?_
      refine WL.val v_x _ (op_move hf18) rfl ?_
      refine WL.val v_duals _ (op_move hf19) rfl ?_
      refine WL.val (Value.int .i64 (k7 : Int)) _ (op_move hf21) rfl ?_
      obtain ⟨x27, hx30, hb13⟩ := bs hb13
      obtain ⟨ha28, hb29, hx30⟩ := idx_some hx30
      refine WL.val (Value.pointer (some (elA v_duals ((k7 : Int)).toNat))) _ (op_idx sl_25 (Ty.lift _ hS23.ext r_duals) rfl rfl ha28 hb29) rfl ?_
      obtain ⟨u31, hc32, hr33⟩ := repSl.el r_duals hx30
      obtain ⟨rfl, hr33⟩ := hr33
      refine WL.val (Value.int .i64 x27) _ (op_load one_2 rfl (Ext.cell hS23.ext hc32)) rfl ?_
      obtain ⟨x34, hx37, hb13⟩ := bs hb13
      obtain ⟨ha35, hb36, hx37⟩ := idx_some hx37
      refine WL.val (Value.pointer (some (elA v_x (x27).toNat))) _ (op_idx sl_25 (Ty.lift _ hS23.ext r_x) rfl rfl ha35 hb36) rfl ?_
      obtain ⟨u38, hc39, hr40⟩ := repSl.el r_x hx37
      obtain ⟨rfl, hr40⟩ := hr40
      refine WL.val (Value.int .i64 x34) _ (op_load one_2 rfl (Ext.cell hS23.ext hc39)) rfl ?_
      refine WL.litFlat (t := (Ty.i .i64)) (flat_i .i64) [(Value.int .i64 x34)] [x34] hS23 sl_25 rfl rfl (fillL rfl ⟨rfl, rfl, rfl, trivial⟩) rfl rfl (litL ⟨⟨rfl, hr40⟩, trivial⟩) rfl ?_
      intro u41 wd42 hS43 he44
      replace hS43 : St w wd42 [(Ty.sl (Ty.i .i64)).at u17 x8, (Ty.sl (Ty.i .i64)).at u41 ([x34] : (List Int))] := hS43
      obtain ⟨x45, hx46, hb13⟩ := bs hb13
      refine WL.append (flat_i .i64) hS43 (k := 0) rfl sl_25 rfl rfl rfl rfl (St.rep (t := (Ty.sl (Ty.i .i64))) hS43 1 rfl) hx46 rfl ?_
      intro u47 wd48 hS49 hz50
      replace hS49 : St w wd48 [(Ty.sl (Ty.i .i64)).at u47 x45, (Ty.sl (Ty.i .i64)).at u41 ([x34] : (List Int))] := hS49
      refine WL.val u47 _ (op_assign rfl) rfl ?_
      refine WL.nil ?_
      show W _ _ _ _ _ _
      refine W.region ?_
      refine WL.val (Value.int .i64 (k7 : Int)) _ (op_move hf21) rfl ?_
      refine WL.val (Value.int .i64 (w64 ((k7 : Int) + (1 : Int)))) _ (op_add rfl rfl) rfl ?_
      refine WL.val (Value.int .i64 (w64 ((k7 : Int) + (1 : Int)))) _ (op_assign rfl) rfl ?_
      refine WL.nil ?_
      obtain rfl := Option.some.inj hb13
      show ∃ s, _ = Ctl.next s ∧ _
      exact ⟨_, rfl, u47, hf18, hf19, rfl, (ctr_next hl25 hr24), (ctr_rng hl25 hr24), (St.pick hS49 [0] rfl)⟩
    · intro x57 f52 wd53 hs54 hI55
      replace hI55 : ∃ (uu0 : Value), f52 0 = v_x ∧ f52 1 = v_duals ∧ f52 5 = uu0 ∧ f52 6 = Value.int .i64 (((x).length : Nat) : Int) ∧ InR .i64 (((x).length : Nat) : Int) ∧ St w wd53 [(Ty.sl (Ty.i .i64)).at uu0 x57] := hI55
      obtain ⟨u58, hf59, hf60, hf61, hf62, hr63, hS64⟩ := hI55
      refine W.seq (W.seq (W.region ?_))
      refine WL.val (Value.int .i64 (((x).length : Nat) : Int)) _ (op_move hf62) rfl ?_
      refine WL.val v_x _ (op_move hf59) rfl ?_
      have hr65 := inR_len (Ty.lift _ hS64.ext r_x)
      refine WL.val (Value.int .i64 ((x).length : Int)) _ (op_lenL sl_25 (Ty.lift _ hS64.ext r_x) rfl) rfl ?_
      refine WL.val (Value.bool (decide ((((x).length : Nat) : Int) < ((x).length : Int)))) _ (op_lss rfl rfl) rfl ?_
      have hl66 : ¬ (((x).length : Nat) : Int) < ((x).length : Int) := by omega
      refine WL.nil ?_
      refine W.condF (decide ((((x).length : Nat) : Int) < ((x).length : Int))) rfl (decide_eq_false hl66) ?_
      refine W.exit ?_
      show _ = _ ∧ _
      exact ⟨rfl, _, hs54, u58, hf61, hS64⟩
  · rintro f67 wd68 ⟨x71, rfl, hq69⟩
    replace h := onRes_fin h
    replace hq69 : ∃ (uu0 : Value), f67 5 = uu0 ∧ St w wd68 [(Ty.sl (Ty.i .i64)).at uu0 x71] := hq69
    obtain ⟨u72, hf73, hS74⟩ := hq69
    refine W.seq (W.region ?_)
    refine WL.val u72 _ (op_move hf73) rfl ?_
    refine WL.val u72 _ (op_assign rfl) rfl ?_
    refine WL.nil ?_
    refine W.ret ?_
    obtain rfl := Option.some.inj h
    show FinP _ _ _ _ _ _ _
    exact FinP.ret _ (res1 rfl rfl) ⟨u72, rfl, hS74.ext, (St.out (St.pick hS74 [0] rfl) (Ext.refl _))⟩

theorem c_spec_DualCharacter {w : World} {r_Table : (List (List (List Int)))} {v_r_Table : Value} {x : (List Int)} {v_x : Value} (r_r_Table : (Ty.sl (Ty.sl (Ty.sl (Ty.i .i64)))).rep w v_r_Table r_Table) (r_x : (Ty.sl (Ty.i .i64)).rep w v_x x) {res : (List Int) × Int} (h : p_spec_DualCharacter r_Table x  = some res) :
    Ret Try.prog 18 #[(Value.agg #[v_r_Table]), v_x] w (fun v w' => ∃ (u0 : Value), v = (Value.tuple #[u0, Value.int .i64 res.2]) ∧ InR .i64 res.2 ∧ Ext w w' ∧ Sep w.heap.size w' [(Ty.sl (Ty.i .i64)).at u0 res.1]) := by
  unfold p_spec_DualCharacter at h
  have hS0 : St w w [] := St.start w
  refine Ret.start (fn := Try.f18) Try.func18 rfl 18 rfl rfl ?_
  refine W.seq (W.region ?_)
  refine WL.box hS0 rfl (cs := [v_r_Table]) rfl rfl ?_
  intro b1 wd2 hS3 he4 hx5
  replace hS3 : St w wd2 [bx b1 [v_r_Table]] := hS3
  have hx6 := St.boxAt hS3 0 rfl
  have hE7 : Ext w wd2 := hS3.ext
  have hS8 : St wd2 wd2 [] := St.start wd2
  refine WL.val (Value.slice none 0 0) _ (op_assign rfl) rfl ?_
  refine WL.val (Value.int .i64 (0 : Int)) _ (op_assign rfl) rfl ?_
  refine WL.nil ?_
  refine W.seq (W.region ?_)
  refine WL.val (Value.agg #[v_r_Table]) _ (op_loadBox st_29 rfl (BoxAt.lift hS8.ext hx6) rfl rfl) rfl ?_
  refine WL.val v_x _ (op_move rfl) rfl ?_
  refine WL.lit [v_x] hS8 sl_46 rfl rfl (fillL rfl ⟨rfl, rfl, (cells_rep (Ty.lift _ (Ext.trans hE7 hS8.ext) r_x)), trivial⟩) rfl rfl ?_
  intro b13 wd10 hS11 he12 hx14
  replace hS11 : St wd2 wd10 [bx b13 [v_x]] := hS11
  obtain ⟨x15, hx16, h⟩ := bs h
  refine WL.call _ (op_call fn_24 (args3 rfl rfl rfl)) (c_spec_l08List (Ty.lift _ (Ext.trans hE7 hS11.ext) r_r_Table) (rep_lit (t := (Ty.sl (Ty.i .i64))) (us := [v_x]) (xs := ([x] : (List (List Int)))) (St.boxAt hS11 0 rfl) ⟨(Ty.lift _ (Ext.trans hE7 hS11.ext) r_x), trivial⟩ rfl) hx16) rfl ?_
  rintro _ wd18 ⟨rfl, hr17, he19⟩
  have hS21 := St.extend hS11 he19
  replace hS21 : St wd2 wd18 [bx b13 [v_x]] := hS21
  refine WL.val (Value.int .i64 x15) _ (op_assign rfl) rfl ?_
  refine WL.nil ?_
  refine W.seq (W.seq (W.region ?_))
  refine WL.val (Value.int .i64 x15) _ (op_move rfl) rfl ?_
  refine WL.val (Value.bool (x15 != (0 : Int))) _ (op_neq rfl rfl) rfl ?_
  refine WL.nil ?_
  refine W.cond (x15 != (0 : Int)) rfl (fun hc22 => ?_) (fun hc22 => ?_)
  · replace h := ip h hc22
    refine W.seq (W.region ?_)
    refine WL.val (Value.int .i64 x15) _ (op_move rfl) rfl ?_
    refine WL.val (Value.slice none 0 0) _ (op_assign rfl) rfl ?_
    refine WL.val (Value.int .i64 x15) _ (op_assign rfl) rfl ?_
    refine WL.nil ?_
    refine W.ret ?_
    obtain rfl := Option.some.inj h
    show FinP _ _ _ _ _ _ _
    exact FinP.ret _ (res2 rfl rfl rfl) ⟨(Value.slice none 0 0), rfl, hr17, (Ext.trans hE7 hS21.ext), (St.out (St.pick (St.addNil (Ty.i .i64) hS21) [1] rfl) (hE7))⟩
  · replace h := inegb h hc22
    refine W.skip ?_
    refine W.seq (W.region ?_)
    refine WL.val v_x _ (op_move rfl) rfl ?_
    refine WL.val (Value.agg #[v_r_Table]) _ (op_loadBox st_29 rfl (BoxAt.lift hS21.ext hx6) rfl rfl) rfl ?_
    obtain ⟨x24, hx25, h⟩ := bs h
    refine WL.call _ (op_call fn_31 (args1 rfl)) (c_spec_l03Duals (Ty.lift _ (Ext.trans hE7 hS21.ext) r_r_Table) hx25) rfl ?_
    rintro u26 wd27 ⟨_, rfl, he28, hs29⟩
    have hS30 := St.join hS21 he28 hs29
    replace hS30 : St wd2 wd27 [bx b13 [v_x], (Ty.sl (Ty.i .i64)).at u26 x24] := hS30
    obtain ⟨x31, hx32, h⟩ := bs h
    refine WL.call _ (op_call fn_33 (args2 rfl rfl)) (c_spec_l08Turn (Ty.lift _ (Ext.trans hE7 hS30.ext) r_x) (St.rep (t := (Ty.sl (Ty.i .i64))) hS30 1 rfl) hx32) rfl ?_
    rintro u33 wd34 ⟨_, rfl, he35, hs36⟩
    have hS37 := St.join hS30 he35 hs36
    replace hS37 : St wd2 wd34 [bx b13 [v_x], (Ty.sl (Ty.i .i64)).at u26 x24, (Ty.sl (Ty.i .i64)).at u33 x31] := hS37
    refine WL.val u33 _ (op_assign rfl) rfl ?_
    refine WL.val (Value.int .i64 (0 : Int)) _ (op_assign rfl) rfl ?_
    refine WL.nil ?_
    refine W.ret ?_
    obtain rfl := Option.some.inj h
    show FinP _ _ _ _ _ _ _
    exact FinP.ret _ (res2 rfl rfl rfl) ⟨u33, rfl, (inL rfl), (Ext.trans hE7 hS37.ext), (St.out (St.pick hS37 [2] rfl) (hE7))⟩

theorem c_impl_DualCharacter {w : World} {r_Table : (List (List (List Int)))} {v_r_Table : Value} {x : (List Int)} {v_x : Value} (r_r_Table : (Ty.sl (Ty.sl (Ty.sl (Ty.i .i64)))).rep w v_r_Table r_Table) (r_x : (Ty.sl (Ty.i .i64)).rep w v_x x) {res : (List Int) × Int} (h : p_impl_DualCharacter r_Table x  = some res) :
    Ret Try.prog 19 #[(Value.agg #[v_r_Table]), v_x] w (fun v w' => ∃ (u0 : Value), v = (Value.tuple #[u0, Value.int .i64 res.2]) ∧ InR .i64 res.2 ∧ Ext w w' ∧ Sep w.heap.size w' [(Ty.sl (Ty.i .i64)).at u0 res.1]) := by
  unfold p_impl_DualCharacter at h
  have hS0 : St w w [] := St.start w
  refine Ret.start (fn := Try.f19) Try.func19 rfl 18 rfl rfl ?_
  refine W.seq (W.region ?_)
  refine WL.box hS0 rfl (cs := [v_r_Table]) rfl rfl ?_
  intro b1 wd2 hS3 he4 hx5
  replace hS3 : St w wd2 [bx b1 [v_r_Table]] := hS3
  have hx6 := St.boxAt hS3 0 rfl
  have hE7 : Ext w wd2 := hS3.ext
  have hS8 : St wd2 wd2 [] := St.start wd2
  refine WL.val (Value.slice none 0 0) _ (op_assign rfl) rfl ?_
  refine WL.val (Value.int .i64 (0 : Int)) _ (op_assign rfl) rfl ?_
  refine WL.nil ?_
  refine W.seq (W.seq (W.region ?_))
  refine WL.val (Value.agg #[v_r_Table]) _ (op_loadBox st_29 rfl (BoxAt.lift hS8.ext hx6) rfl rfl) rfl ?_
  refine WL.val v_x _ (op_move rfl) rfl ?_
  refine WL.lit [v_x] hS8 sl_46 rfl rfl (fillL rfl ⟨rfl, rfl, (cells_rep (Ty.lift _ (Ext.trans hE7 hS8.ext) r_x)), trivial⟩) rfl rfl ?_
  intro b13 wd10 hS11 he12 hx14
  replace hS11 : St wd2 wd10 [bx b13 [v_x]] := hS11
  obtain ⟨x15, hx16, h⟩ := bs h
  refine WL.call _ (op_call fn_27 (args3 rfl rfl rfl)) (c_impl_characterCode (Ty.lift _ (Ext.trans hE7 hS11.ext) r_r_Table) (rep_lit (t := (Ty.sl (Ty.i .i64))) (us := [v_x]) (xs := ([x] : (List (List Int)))) (St.boxAt hS11 0 rfl) ⟨(Ty.lift _ (Ext.trans hE7 hS11.ext) r_x), trivial⟩ rfl) (nilRep _ _) hx16) rfl ?_
  rintro _ wd18 ⟨rfl, hr17, he19⟩
  have hS21 := St.extend hS11 he19
  replace hS21 : St wd2 wd18 [bx b13 [v_x]] := hS21
  refine WL.val (Value.int .i64 x15) _ (op_assign rfl) rfl ?_
  refine WL.nil ?_
  refine W.seq (W.region ?_)
  refine WL.val (Value.int .i64 x15) _ (op_move rfl) rfl ?_
  refine WL.val (Value.bool (x15 != (0 : Int))) _ (op_neq rfl rfl) rfl ?_
  refine WL.nil ?_
  refine W.cond (x15 != (0 : Int)) rfl (fun hc22 => ?_) (fun hc22 => ?_)
  · replace h := ip h hc22
    refine W.seq (W.region ?_)
    refine WL.val (Value.int .i64 x15) _ (op_move rfl) rfl ?_
    refine WL.val (Value.slice none 0 0) _ (op_assign rfl) rfl ?_
    refine WL.val (Value.int .i64 x15) _ (op_assign rfl) rfl ?_
    refine WL.nil ?_
    refine W.ret ?_
    obtain rfl := Option.some.inj h
    show FinP _ _ _ _ _ _ _
    exact FinP.ret _ (res2 rfl rfl rfl) ⟨(Value.slice none 0 0), rfl, hr17, (Ext.trans hE7 hS21.ext), (St.out (St.pick (St.addNil (Ty.i .i64) hS21) [1] rfl) (hE7))⟩
  · replace h := inegb h hc22
    refine W.skip ?_
    refine W.seq (W.region ?_)
    refine WL.val (Value.agg #[v_r_Table]) _ (op_loadBox st_29 rfl (BoxAt.lift hS21.ext hx6) rfl rfl) rfl ?_
    obtain ⟨x24, hx25, h⟩ := bs h
    refine WL.call _ (op_call fn_35 (args1 rfl)) (c_impl_Ring_duals (Ty.lift _ (Ext.trans hE7 hS21.ext) r_r_Table) hx25) rfl ?_
    rintro u26 wd27 ⟨_, rfl, he28, hs29⟩
    have hS30 := St.join hS21 he28 hs29
    replace hS30 : St wd2 wd27 [bx b13 [v_x], (Ty.sl (Ty.i .i64)).at u26 x24] := hS30
    refine WL.val v_x _ (op_move rfl) rfl ?_
    obtain ⟨x31, hx32, h⟩ := bs h
    refine WL.call _ (op_call fn_34 (args2 rfl rfl)) (c_impl_turnList (St.rep (t := (Ty.sl (Ty.i .i64))) hS30 1 rfl) (Ty.lift _ (Ext.trans hE7 hS30.ext) r_x) hx32) rfl ?_
    rintro u33 wd34 ⟨_, rfl, he35, hs36⟩
    have hS37 := St.join hS30 he35 hs36
    replace hS37 : St wd2 wd34 [bx b13 [v_x], (Ty.sl (Ty.i .i64)).at u26 x24, (Ty.sl (Ty.i .i64)).at u33 x31] := hS37
    refine WL.val u33 _ (op_assign rfl) rfl ?_
    refine WL.val (Value.int .i64 (0 : Int)) _ (op_assign rfl) rfl ?_
    refine WL.nil ?_
    refine W.ret ?_
    obtain rfl := Option.some.inj h
    show FinP _ _ _ _ _ _ _
    exact FinP.ret _ (res2 rfl rfl rfl) ⟨u33, rfl, (inL rfl), (Ext.trans hE7 hS37.ext), (St.out (St.pick hS37 [2] rfl) (hE7))⟩

theorem c_laws_markInt64S {w : World} {a : (List Int)} {v_a : Value} {k1 : Int} {w0 : World} {R : Ent} (hS0 : St w0 w [(Ty.sl (Ty.i .i64)).at v_a a, R]) (r_k1 : InR .i64 k1) {res : Int × (List Int)} (h : p_laws_markInt64S a k1  = some res) :
    Ret Try.prog 21 #[v_a, (Value.int .i64 k1)] w (fun v w' => v = Value.int .i64 res.1 ∧ InR .i64 res.1 ∧ St w0 w' [(Ty.sl (Ty.i .i64)).at v_a res.2, R]) := by
  unfold p_laws_markInt64S at h
  refine Ret.start (fn := Try.f21) Try.func21 rfl 19 rfl rfl ?_
  refine W.seq (W.region ?_)
  refine WL.val (Value.int .i64 (0 : Int)) _ (op_assign rfl) rfl ?_
  refine WL.nil ?_
  refine W.seq (W.seq (W.region ?_))
  refine WL.val (Value.int .i64 (0 : Int)) _ (op_assign rfl) rfl ?_
  refine WL.nil ?_
  show W _ _ _ _ _ _
  obtain ⟨res1, hres2, h⟩ := bs h
  refine W.blockLoop (fun fq wq => ∃ s, res1 = Res.fin s ∧ fq 1 = Value.int .i64 s.2 ∧ InR .i64 s.2 ∧ (s.1).length = (a).length ∧ St w0 wq [(Ty.sl (Ty.i .i64)).at v_a s.1, R]) ?_ ?_
  · refine W.forN (fun k (s : (List Int) × Int) fq wq => fq 0 = v_a ∧ fq 1 = Value.int .i64 s.2 ∧ InR .i64 s.2 ∧ fq 5 = Value.int .i64 (k : Int) ∧ InR .i64 (k : Int) ∧ (s.1).length = (a).length ∧ St w0 wq [(Ty.sl (Ty.i .i64)).at v_a s.1, R]) hres2 ⟨rfl, rfl, r_k1, rfl, (inL rfl), rfl, hS0⟩ ?_ ?_
    · intro k3 s30 ct6 f7 wd8 hk9 hb10 hI11 hbrk12 hret13
      obtain ⟨x4, x5⟩ := s30
      replace hI11 : f7 0 = v_a ∧ f7 1 = Value.int .i64 x5 ∧ InR .i64 x5 ∧ f7 5 = Value.int .i64 (k3 : Int) ∧ InR .i64 (k3 : Int) ∧ (x4).length = (a).length ∧ St w0 wd8 [(Ty.sl (Ty.i .i64)).at v_a x4, R] := hI11
      replace hb10 : p_laws_markInt64S_L1  k3 x4 x5 = some ct6 := hb10
      unfold p_laws_markInt64S_L1 at hb10
      obtain ⟨hf14, hf15, hr16, hf17, hr18, hL19, hS20⟩ := hI11
      refine W.seq (W.seq (W.region ?_))
      refine WL.val (Value.int .i64 (k3 : Int)) _ (op_move hf17) rfl ?_
      refine WL.val v_a _ (op_move hf14) rfl ?_
      have hr21 := inR_len (St.rep (t := (Ty.sl (Ty.i .i64))) hS20 0 rfl)
      refine WL.val (Value.int .i64 ((x4).length : Int)) _ (op_lenL sl_25 (St.rep (t := (Ty.sl (Ty.i .i64))) hS20 0 rfl) rfl) rfl ?_
      refine WL.val (Value.bool (decide ((k3 : Int) < ((x4).length : Int)))) _ (op_lss rfl rfl) rfl ?_
      have hl22 : (k3 : Int) < ((x4).length : Int) := by omega
      refine WL.nil ?_
      refine W.condT (decide ((k3 : Int) < ((x4).length : Int))) rfl (decide_eq_true hl22) ?_
      refine W.skip ?_
      refine W.seq ?_
      refine W.block ?_
      refine W.seq (W.region ?_)
      refine WL.val v_a _ (op_move hf14) rfl ?_
      refine WL.val (Value.int .i64 (k3 : Int)) _ (op_move hf17) rfl ?_
      refine WL.val (Value.int .i64 x5) _ (op_move hf15) rfl ?_
      obtain ⟨x24, hx27, hb10⟩ := bs hb10
      obtain ⟨ha25, hb26, hx27⟩ := idx_some hx27
      refine WL.val (Value.pointer (some (elA v_a ((k3 : Int)).toNat))) _ (op_idx sl_25 (St.rep (t := (Ty.sl (Ty.i .i64))) hS20 0 rfl) rfl rfl ha25 hb26) rfl ?_
      refine WL.storeEl (flat_i .i64) hS20 (k := 0) rfl sz_2 rfl rfl (lt_of_idx ha25 hb26) ⟨rfl, hr16⟩ ?_
      intro wd28 hS29
      replace hS29 : St w0 wd28 [(Ty.sl (Ty.i .i64)).at v_a ((x4).set ((k3 : Int)).toNat x5), R] := hS29
      refine WL.nil ?_
      show W _ _ _ _ _ _
      refine W.region ?_
      refine WL.val (Value.int .i64 x5) _ (op_move hf15) rfl ?_
      refine WL.val (Value.int .i64 (w64 (x5 + (1 : Int)))) _ (op_add rfl rfl) rfl ?_
      refine WL.val (Value.int .i64 (w64 (x5 + (1 : Int)))) _ (op_assign rfl) rfl ?_
      refine WL.nil ?_
      show W _ _ _ _ _ _
      refine W.region ?_
      refine WL.val (Value.int .i64 (k3 : Int)) _ (op_move hf17) rfl ?_
      refine WL.val (Value.int .i64 (w64 ((k3 : Int) + (1 : Int)))) _ (op_add rfl rfl) rfl ?_
      refine WL.val (Value.int .i64 (w64 ((k3 : Int) + (1 : Int)))) _ (op_assign rfl) rfl ?_
      refine WL.nil ?_
      obtain rfl := Option.some.inj hb10
      show ∃ s, _ = Ctl.next s ∧ _
      exact ⟨_, rfl, hf14, rfl, (inR_wrap _ _), (ctr_next hl22 hr21), (ctr_rng hl22 hr21), (by first | exact hL19 | (simp only [List.length_set]; exact hL19)), hS29⟩
    · intro s35 f31 wd32 hs33 hI34
      obtain ⟨x36, x37⟩ := s35
      replace hI34 : f31 0 = v_a ∧ f31 1 = Value.int .i64 x37 ∧ InR .i64 x37 ∧ f31 5 = Value.int .i64 (((a).length : Nat) : Int) ∧ InR .i64 (((a).length : Nat) : Int) ∧ (x36).length = (a).length ∧ St w0 wd32 [(Ty.sl (Ty.i .i64)).at v_a x36, R] := hI34
      obtain ⟨hf38, hf39, hr40, hf41, hr42, hL43, hS44⟩ := hI34
      refine W.seq (W.seq (W.region ?_))
      refine WL.val (Value.int .i64 (((a).length : Nat) : Int)) _ (op_move hf41) rfl ?_
      refine WL.val v_a _ (op_move hf38) rfl ?_
      have hr45 := inR_len (St.rep (t := (Ty.sl (Ty.i .i64))) hS44 0 rfl)
      refine WL.val (Value.int .i64 ((x36).length : Int)) _ (op_lenL sl_25 (St.rep (t := (Ty.sl (Ty.i .i64))) hS44 0 rfl) rfl) rfl ?_
      refine WL.val (Value.bool (decide ((((a).length : Nat) : Int) < ((x36).length : Int)))) _ (op_lss rfl rfl) rfl ?_
      have hl46 : ¬ (((a).length : Nat) : Int) < ((x36).length : Int) := by omega
      refine WL.nil ?_
      refine W.condF (decide ((((a).length : Nat) : Int) < ((x36).length : Int))) rfl (decide_eq_false hl46) ?_
      refine W.exit ?_
      show _ = _ ∧ _
      exact ⟨rfl, _, hs33, hf39, hr40, (by first | exact hL43 | (simp only [List.length_set]; exact hL43)), hS44⟩
  · rintro f47 wd48 ⟨s50, rfl, hq49⟩
    replace h := onRes_fin h
    obtain ⟨x51, x52⟩ := s50
    replace hq49 : f47 1 = Value.int .i64 x52 ∧ InR .i64 x52 ∧ (x51).length = (a).length ∧ St w0 wd48 [(Ty.sl (Ty.i .i64)).at v_a x51, R] := hq49
    replace h : (_ : Option _) = _ := h
    dsimp only at h
    obtain ⟨hf53, hr54, hL55, hS56⟩ := hq49
    refine W.seq (W.region ?_)
    refine WL.val (Value.int .i64 x52) _ (op_move hf53) rfl ?_
    refine WL.val (Value.int .i64 x52) _ (op_assign rfl) rfl ?_
    refine WL.nil ?_
    refine W.ret ?_
    obtain rfl := Option.some.inj h
    show FinP _ _ _ _ _ _ _
    exact FinP.ret _ (res1 rfl rfl) ⟨rfl, hr54, (St.pick hS56 [0, 1] rfl)⟩

theorem c_laws_markInt64SS {w : World} {a : (List (List Int))} {v_a : Value} {k1 : Int} {w0 : World} {R : Ent} (hS0 : St w0 w [(Ty.sl (Ty.sl (Ty.i .i64))).at v_a a, R]) (r_k1 : InR .i64 k1) {res : Int × (List (List Int))} (h : p_laws_markInt64SS a k1  = some res) :
    Ret Try.prog 49 #[v_a, (Value.int .i64 k1)] w (fun v w' => v = Value.int .i64 res.1 ∧ InR .i64 res.1 ∧ St w0 w' [(Ty.sl (Ty.sl (Ty.i .i64))).at v_a res.2, R]) := by
  unfold p_laws_markInt64SS at h
  refine Ret.start (fn := Try.f49) Try.func49 rfl 19 rfl rfl ?_
  refine W.seq (W.region ?_)
  refine WL.val (Value.int .i64 (0 : Int)) _ (op_assign rfl) rfl ?_
  refine WL.nil ?_
  refine W.seq (W.seq (W.region ?_))
  refine WL.val (Value.int .i64 (0 : Int)) _ (op_assign rfl) rfl ?_
  refine WL.nil ?_
  show W _ _ _ _ _ _
  obtain ⟨res1, hres2, h⟩ := bs h
  refine W.blockLoop (fun fq wq => ∃ s, res1 = Res.fin s ∧ fq 1 = Value.int .i64 s.2 ∧ InR .i64 s.2 ∧ (s.1).length = (a).length ∧ St w0 wq [(Ty.sl (Ty.sl (Ty.i .i64))).at v_a s.1, R]) ?_ ?_
  · refine W.forN (fun k (s : (List (List Int)) × Int) fq wq => fq 0 = v_a ∧ fq 1 = Value.int .i64 s.2 ∧ InR .i64 s.2 ∧ fq 5 = Value.int .i64 (k : Int) ∧ InR .i64 (k : Int) ∧ (s.1).length = (a).length ∧ St w0 wq [(Ty.sl (Ty.sl (Ty.i .i64))).at v_a s.1, R]) hres2 ⟨rfl, rfl, r_k1, rfl, (inL rfl), rfl, hS0⟩ ?_ ?_
    · intro k3 s40 ct6 f7 wd8 hk9 hb10 hI11 hbrk12 hret13
      obtain ⟨x4, x5⟩ := s40
      replace hI11 : f7 0 = v_a ∧ f7 1 = Value.int .i64 x5 ∧ InR .i64 x5 ∧ f7 5 = Value.int .i64 (k3 : Int) ∧ InR .i64 (k3 : Int) ∧ (x4).length = (a).length ∧ St w0 wd8 [(Ty.sl (Ty.sl (Ty.i .i64))).at v_a x4, R] := hI11
      replace hb10 : p_laws_markInt64SS_L1  k3 x4 x5 = some ct6 := hb10
      unfold p_laws_markInt64SS_L1 at hb10
      obtain ⟨hf14, hf15, hr16, hf17, hr18, hL19, hS20⟩ := hI11
      refine W.seq (W.seq (W.region ?_))
      refine WL.val (Value.int .i64 (k3 : Int)) _ (op_move hf17) rfl ?_
      refine WL.val v_a _ (op_move hf14) rfl ?_
      have hr21 := inR_len (St.rep (t := (Ty.sl (Ty.sl (Ty.i .i64)))) hS20 0 rfl)
      refine WL.val (Value.int .i64 ((x4).length : Int)) _ (op_lenL sl_46 (St.rep (t := (Ty.sl (Ty.sl (Ty.i .i64)))) hS20 0 rfl) rfl) rfl ?_
      refine WL.val (Value.bool (decide ((k3 : Int) < ((x4).length : Int)))) _ (op_lss rfl rfl) rfl ?_
      have hl22 : (k3 : Int) < ((x4).length : Int) := by omega
      refine WL.nil ?_
      refine W.condT (decide ((k3 : Int) < ((x4).length : Int))) rfl (decide_eq_true hl22) ?_
      refine W.skip ?_
      refine W.seq ?_
      refine W.block ?_
      refine W.region ?_
      refine WL.val v_a _ (op_move hf14) rfl ?_
      refine WL.val (Value.int .i64 (k3 : Int)) _ (op_move hf17) rfl ?_
      obtain ⟨x24, hx27, hb10⟩ := bs hb10
      obtain ⟨ha25, hb26, hx27⟩ := idx_some hx27
      refine WL.val (Value.pointer (some (elA v_a ((k3 : Int)).toNat))) _ (op_idx sl_46 (St.rep (t := (Ty.sl (Ty.sl (Ty.i .i64)))) hS20 0 rfl) rfl rfl ha25 hb26) rfl ?_
      obtain ⟨u28, hc29, hr30⟩ := repSl.el (St.rep (t := (Ty.sl (Ty.sl (Ty.i .i64)))) hS20 0 rfl) hx27
      refine WL.val u28 _ (op_load one_25 rfl hc29) rfl ?_
      refine WL.val (Value.int .i64 x5) _ (op_move hf15) rfl ?_
      have hS31 := St.unrow (k := 0) hS20 rfl hx27 hc29
      replace hS31 : St w0 wd8 [holeAt (Ty.sl (Ty.i .i64)) v_a x4 ((k3 : Int)).toNat u28, R, (Ty.sl (Ty.i .i64)).at u28 x24] := hS31
      obtain ⟨x32, hx33, hb10⟩ := bs hb10
      have hS34 := St.fold [(Ty.sl (Ty.i .i64)).at u28 x24] [holeAt (Ty.sl (Ty.i .i64)) v_a x4 ((k3 : Int)).toNat u28, R] (St.pick hS31 [2, 0, 1] rfl)
      refine WL.call _ (op_call fn_21 (args2 rfl rfl)) (c_laws_markInt64S hS34 hr16 hx33) rfl ?_
      rintro _ wd37 ⟨rfl, hr38, hS35⟩
      have hS36 := St.pick (St.unfold [(Ty.sl (Ty.i .i64)).at u28 x32.2] [holeAt (Ty.sl (Ty.i .i64)) v_a x4 ((k3 : Int)).toNat u28, R] hS35) [1, 2, 0] rfl
      replace hS36 : St w0 wd37 [holeAt (Ty.sl (Ty.i .i64)) v_a x4 ((k3 : Int)).toNat u28, R, (Ty.sl (Ty.i .i64)).at u28 x32.2] := hS36
      have hS39 := St.rerow (k := 0) (k2 := 2) hS36 rfl rfl rfl
      replace hS39 : St w0 wd37 [(Ty.sl (Ty.sl (Ty.i .i64))).at v_a ((x4).set ((k3 : Int)).toNat x32.2), R, emp] := hS39
      refine WL.val (Value.int .i64 x32.1) _ (op_assign rfl) rfl ?_
      refine WL.nil ?_
      show W _ _ _ _ _ _
      refine W.region ?_
      refine WL.val (Value.int .i64 (k3 : Int)) _ (op_move hf17) rfl ?_
      refine WL.val (Value.int .i64 (w64 ((k3 : Int) + (1 : Int)))) _ (op_add rfl rfl) rfl ?_
      refine WL.val (Value.int .i64 (w64 ((k3 : Int) + (1 : Int)))) _ (op_assign rfl) rfl ?_
      refine WL.nil ?_
      obtain rfl := Option.some.inj hb10
      show ∃ s, _ = Ctl.next s ∧ _
      exact ⟨_, rfl, hf14, rfl, hr38, (ctr_next hl22 hr21), (ctr_rng hl22 hr21), (by first | exact hL19 | (simp only [List.length_set]; exact hL19)), (St.pick hS39 [0, 1] rfl)⟩
    · intro s45 f41 wd42 hs43 hI44
      obtain ⟨x46, x47⟩ := s45
      replace hI44 : f41 0 = v_a ∧ f41 1 = Value.int .i64 x47 ∧ InR .i64 x47 ∧ f41 5 = Value.int .i64 (((a).length : Nat) : Int) ∧ InR .i64 (((a).length : Nat) : Int) ∧ (x46).length = (a).length ∧ St w0 wd42 [(Ty.sl (Ty.sl (Ty.i .i64))).at v_a x46, R] := hI44
      obtain ⟨hf48, hf49, hr50, hf51, hr52, hL53, hS54⟩ := hI44
      refine W.seq (W.seq (W.region ?_))
      refine WL.val (Value.int .i64 (((a).length : Nat) : Int)) _ (op_move hf51) rfl ?_
      refine WL.val v_a _ (op_move hf48) rfl ?_
      have hr55 := inR_len (St.rep (t := (Ty.sl (Ty.sl (Ty.i .i64)))) hS54 0 rfl)
      refine WL.val (Value.int .i64 ((x46).length : Int)) _ (op_lenL sl_46 (St.rep (t := (Ty.sl (Ty.sl (Ty.i .i64)))) hS54 0 rfl) rfl) rfl ?_
      refine WL.val (Value.bool (decide ((((a).length : Nat) : Int) < ((x46).length : Int)))) _ (op_lss rfl rfl) rfl ?_
      have hl56 : ¬ (((a).length : Nat) : Int) < ((x46).length : Int) := by omega
      refine WL.nil ?_
      refine W.condF (decide ((((a).length : Nat) : Int) < ((x46).length : Int))) rfl (decide_eq_false hl56) ?_
      refine W.exit ?_
      show _ = _ ∧ _
      exact ⟨rfl, _, hs43, hf49, hr50, (by first | exact hL53 | (simp only [List.length_set]; exact hL53)), hS54⟩
  · rintro f57 wd58 ⟨s60, rfl, hq59⟩
    replace h := onRes_fin h
    obtain ⟨x61, x62⟩ := s60
    replace hq59 : f57 1 = Value.int .i64 x62 ∧ InR .i64 x62 ∧ (x61).length = (a).length ∧ St w0 wd58 [(Ty.sl (Ty.sl (Ty.i .i64))).at v_a x61, R] := hq59
    replace h : (_ : Option _) = _ := h
    dsimp only at h
    obtain ⟨hf63, hr64, hL65, hS66⟩ := hq59
    refine W.seq (W.region ?_)
    refine WL.val (Value.int .i64 x62) _ (op_move hf63) rfl ?_
    refine WL.val (Value.int .i64 x62) _ (op_assign rfl) rfl ?_
    refine WL.nil ?_
    refine W.ret ?_
    obtain rfl := Option.some.inj h
    show FinP _ _ _ _ _ _ _
    exact FinP.ret _ (res1 rfl rfl) ⟨rfl, hr64, (St.pick hS66 [0, 1] rfl)⟩

theorem c_laws_markInt64SSS {w : World} {a : (List (List (List Int)))} {v_a : Value} {k1 : Int} {w0 : World} {R : Ent} (hS0 : St w0 w [(Ty.sl (Ty.sl (Ty.sl (Ty.i .i64)))).at v_a a, R]) (r_k1 : InR .i64 k1) {res : Int × (List (List (List Int)))} (h : p_laws_markInt64SSS a k1  = some res) :
    Ret Try.prog 36 #[v_a, (Value.int .i64 k1)] w (fun v w' => v = Value.int .i64 res.1 ∧ InR .i64 res.1 ∧ St w0 w' [(Ty.sl (Ty.sl (Ty.sl (Ty.i .i64)))).at v_a res.2, R]) := by
  unfold p_laws_markInt64SSS at h
  refine Ret.start (fn := Try.f36) Try.func36 rfl 19 rfl rfl ?_
  refine W.seq (W.region ?_)
  refine WL.val (Value.int .i64 (0 : Int)) _ (op_assign rfl) rfl ?_
  refine WL.nil ?_
  refine W.seq (W.seq (W.region ?_))
  refine WL.val (Value.int .i64 (0 : Int)) _ (op_assign rfl) rfl ?_
  refine WL.nil ?_
  show W _ _ _ _ _ _
  obtain ⟨res1, hres2, h⟩ := bs h
  refine W.blockLoop (fun fq wq => ∃ s, res1 = Res.fin s ∧ fq 1 = Value.int .i64 s.2 ∧ InR .i64 s.2 ∧ (s.1).length = (a).length ∧ St w0 wq [(Ty.sl (Ty.sl (Ty.sl (Ty.i .i64)))).at v_a s.1, R]) ?_ ?_
  · refine W.forN (fun k (s : (List (List (List Int))) × Int) fq wq => fq 0 = v_a ∧ fq 1 = Value.int .i64 s.2 ∧ InR .i64 s.2 ∧ fq 5 = Value.int .i64 (k : Int) ∧ InR .i64 (k : Int) ∧ (s.1).length = (a).length ∧ St w0 wq [(Ty.sl (Ty.sl (Ty.sl (Ty.i .i64)))).at v_a s.1, R]) hres2 ⟨rfl, rfl, r_k1, rfl, (inL rfl), rfl, hS0⟩ ?_ ?_
    · intro k3 s40 ct6 f7 wd8 hk9 hb10 hI11 hbrk12 hret13
      obtain ⟨x4, x5⟩ := s40
      replace hI11 : f7 0 = v_a ∧ f7 1 = Value.int .i64 x5 ∧ InR .i64 x5 ∧ f7 5 = Value.int .i64 (k3 : Int) ∧ InR .i64 (k3 : Int) ∧ (x4).length = (a).length ∧ St w0 wd8 [(Ty.sl (Ty.sl (Ty.sl (Ty.i .i64)))).at v_a x4, R] := hI11
      replace hb10 : p_laws_markInt64SSS_L1  k3 x4 x5 = some ct6 := hb10
      unfold p_laws_markInt64SSS_L1 at hb10
      obtain ⟨hf14, hf15, hr16, hf17, hr18, hL19, hS20⟩ := hI11
      refine W.seq (W.seq (W.region ?_))
      refine WL.val (Value.int .i64 (k3 : Int)) _ (op_move hf17) rfl ?_
      refine WL.val v_a _ (op_move hf14) rfl ?_
      have hr21 := inR_len (St.rep (t := (Ty.sl (Ty.sl (Ty.sl (Ty.i .i64))))) hS20 0 rfl)
      refine WL.val (Value.int .i64 ((x4).length : Int)) _ (op_lenL sl_22 (St.rep (t := (Ty.sl (Ty.sl (Ty.sl (Ty.i .i64))))) hS20 0 rfl) rfl) rfl ?_
      refine WL.val (Value.bool (decide ((k3 : Int) < ((x4).length : Int)))) _ (op_lss rfl rfl) rfl ?_
      have hl22 : (k3 : Int) < ((x4).length : Int) := by omega
      refine WL.nil ?_
      refine W.condT (decide ((k3 : Int) < ((x4).length : Int))) rfl (decide_eq_true hl22) ?_
      refine W.skip ?_
      refine W.seq ?_
      refine W.block ?_
      refine W.region ?_
      refine WL.val v_a _ (op_move hf14) rfl ?_
      refine WL.val (Value.int .i64 (k3 : Int)) _ (op_move hf17) rfl ?_
      obtain ⟨x24, hx27, hb10⟩ := bs hb10
      obtain ⟨ha25, hb26, hx27⟩ := idx_some hx27
      refine WL.val (Value.pointer (some (elA v_a ((k3 : Int)).toNat))) _ (op_idx sl_22 (St.rep (t := (Ty.sl (Ty.sl (Ty.sl (Ty.i .i64))))) hS20 0 rfl) rfl rfl ha25 hb26) rfl ?_
      obtain ⟨u28, hc29, hr30⟩ := repSl.el (St.rep (t := (Ty.sl (Ty.sl (Ty.sl (Ty.i .i64))))) hS20 0 rfl) hx27
      refine WL.val u28 _ (op_load one_46 rfl hc29) rfl ?_
      refine WL.val (Value.int .i64 x5) _ (op_move hf15) rfl ?_
      have hS31 := St.unrow (k := 0) hS20 rfl hx27 hc29
      replace hS31 : St w0 wd8 [holeAt (Ty.sl (Ty.sl (Ty.i .i64))) v_a x4 ((k3 : Int)).toNat u28, R, (Ty.sl (Ty.sl (Ty.i .i64))).at u28 x24] := hS31
      obtain ⟨x32, hx33, hb10⟩ := bs hb10
      have hS34 := St.fold [(Ty.sl (Ty.sl (Ty.i .i64))).at u28 x24] [holeAt (Ty.sl (Ty.sl (Ty.i .i64))) v_a x4 ((k3 : Int)).toNat u28, R] (St.pick hS31 [2, 0, 1] rfl)
      refine WL.call _ (op_call fn_49 (args2 rfl rfl)) (c_laws_markInt64SS hS34 hr16 hx33) rfl ?_
      rintro _ wd37 ⟨rfl, hr38, hS35⟩
      have hS36 := St.pick (St.unfold [(Ty.sl (Ty.sl (Ty.i .i64))).at u28 x32.2] [holeAt (Ty.sl (Ty.sl (Ty.i .i64))) v_a x4 ((k3 : Int)).toNat u28, R] hS35) [1, 2, 0] rfl
      replace hS36 : St w0 wd37 [holeAt (Ty.sl (Ty.sl (Ty.i .i64))) v_a x4 ((k3 : Int)).toNat u28, R, (Ty.sl (Ty.sl (Ty.i .i64))).at u28 x32.2] := hS36
      have hS39 := St.rerow (k := 0) (k2 := 2) hS36 rfl rfl rfl
      replace hS39 : St w0 wd37 [(Ty.sl (Ty.sl (Ty.sl (Ty.i .i64)))).at v_a ((x4).set ((k3 : Int)).toNat x32.2), R, emp] := hS39
      refine WL.val (Value.int .i64 x32.1) _ (op_assign rfl) rfl ?_
      refine WL.nil ?_
      show W _ _ _ _ _ _
      refine W.region ?_
      refine WL.val (Value.int .i64 (k3 : Int)) _ (op_move hf17) rfl ?_
      refine WL.val (Value.int .i64 (w64 ((k3 : Int) + (1 : Int)))) _ (op_add rfl rfl) rfl ?_
      refine WL.val (Value.int .i64 (w64 ((k3 : Int) + (1 : Int)))) _ (op_assign rfl) rfl ?_
      refine WL.nil ?_
      obtain rfl := Option.some.inj hb10
      show ∃ s, _ = Ctl.next s ∧ _
      exact ⟨_, rfl, hf14, rfl, hr38, (ctr_next hl22 hr21), (ctr_rng hl22 hr21), (by first | exact hL19 | (simp only [List.length_set]; exact hL19)), (St.pick hS39 [0, 1] rfl)⟩
    · intro s45 f41 wd42 hs43 hI44
      obtain ⟨x46, x47⟩ := s45
      replace hI44 : f41 0 = v_a ∧ f41 1 = Value.int .i64 x47 ∧ InR .i64 x47 ∧ f41 5 = Value.int .i64 (((a).length : Nat) : Int) ∧ InR .i64 (((a).length : Nat) : Int) ∧ (x46).length = (a).length ∧ St w0 wd42 [(Ty.sl (Ty.sl (Ty.sl (Ty.i .i64)))).at v_a x46, R] := hI44
      obtain ⟨hf48, hf49, hr50, hf51, hr52, hL53, hS54⟩ := hI44
      refine W.seq (W.seq (W.region ?_))
      refine WL.val (Value.int .i64 (((a).length : Nat) : Int)) _ (op_move hf51) rfl ?_
      refine WL.val v_a _ (op_move hf48) rfl ?_
      have hr55 := inR_len (St.rep (t := (Ty.sl (Ty.sl (Ty.sl (Ty.i .i64))))) hS54 0 rfl)
      refine WL.val (Value.int .i64 ((x46).length : Int)) _ (op_lenL sl_22 (St.rep (t := (Ty.sl (Ty.sl (Ty.sl (Ty.i .i64))))) hS54 0 rfl) rfl) rfl ?_
      refine WL.val (Value.bool (decide ((((a).length : Nat) : Int) < ((x46).length : Int)))) _ (op_lss rfl rfl) rfl ?_
      have hl56 : ¬ (((a).length : Nat) : Int) < ((x46).length : Int) := by omega
      refine WL.nil ?_
      refine W.condF (decide ((((a).length : Nat) : Int) < ((x46).length : Int))) rfl (decide_eq_false hl56) ?_
      refine W.exit ?_
      show _ = _ ∧ _
      exact ⟨rfl, _, hs43, hf49, hr50, (by first | exact hL53 | (simp only [List.length_set]; exact hL53)), hS54⟩
  · rintro f57 wd58 ⟨s60, rfl, hq59⟩
    replace h := onRes_fin h
    obtain ⟨x61, x62⟩ := s60
    replace hq59 : f57 1 = Value.int .i64 x62 ∧ InR .i64 x62 ∧ (x61).length = (a).length ∧ St w0 wd58 [(Ty.sl (Ty.sl (Ty.sl (Ty.i .i64)))).at v_a x61, R] := hq59
    replace h : (_ : Option _) = _ := h
    dsimp only at h
    obtain ⟨hf63, hr64, hL65, hS66⟩ := hq59
    refine W.seq (W.region ?_)
    refine WL.val (Value.int .i64 x62) _ (op_move hf63) rfl ?_
    refine WL.val (Value.int .i64 x62) _ (op_assign rfl) rfl ?_
    refine WL.nil ?_
    refine W.ret ?_
    obtain rfl := Option.some.inj h
    show FinP _ _ _ _ _ _ _
    exact FinP.ret _ (res1 rfl rfl) ⟨rfl, hr64, (St.pick hS66 [0, 1] rfl)⟩

theorem c_laws_markRing {w : World} {a_Table : (List (List (List Int)))} {v_a_Table : Value} {k1 : Int} {w0 : World} {R : Ent} (hS0 : St w0 w [(Ty.sl (Ty.sl (Ty.sl (Ty.i .i64)))).at v_a_Table a_Table, R]) (r_k1 : InR .i64 k1) {res : Int × (List (List (List Int)))} (h : p_laws_markRing a_Table k1  = some res) :
    Ret Try.prog 20 #[(Value.agg #[v_a_Table]), (Value.int .i64 k1)] w (fun v w' => v = Value.int .i64 res.1 ∧ InR .i64 res.1 ∧ St w0 w' [(Ty.sl (Ty.sl (Ty.sl (Ty.i .i64)))).at v_a_Table res.2, R]) := by
  unfold p_laws_markRing at h
  refine Ret.start (fn := Try.f20) Try.func20 rfl 10 rfl rfl ?_
  refine W.seq (W.region ?_)
  refine WL.box hS0 rfl (cs := [v_a_Table]) rfl rfl ?_
  intro b1 wd2 hS3 he4 hx5
  replace hS3 : St w0 wd2 [(Ty.sl (Ty.sl (Ty.sl (Ty.i .i64)))).at v_a_Table a_Table, R, bx b1 [v_a_Table]] := hS3
  refine WL.val (Value.int .i64 (0 : Int)) _ (op_assign rfl) rfl ?_
  refine WL.nil ?_
  refine W.seq (W.region ?_)
  refine WL.val (Value.pointer (some ⟨b1, 0, none⟩)) _ (op_fieldAddr fd_29_0 rfl) rfl ?_
  refine WL.val v_a_Table _ (op_load one_22 rfl (BoxAt.cell (St.boxAt hS3 2 rfl) rfl)) rfl ?_
  refine WL.val (Value.int .i64 k1) _ (op_move rfl) rfl ?_
  obtain ⟨x6, hx7, h⟩ := bs h
  have hS8 := St.fold [(Ty.sl (Ty.sl (Ty.sl (Ty.i .i64)))).at v_a_Table a_Table] [R, bx b1 [v_a_Table]] (St.pick hS3 [0, 1, 2] rfl)
  refine WL.call _ (op_call fn_36 (args2 rfl rfl)) (c_laws_markInt64SSS hS8 r_k1 hx7) rfl ?_
  rintro _ wd11 ⟨rfl, hr12, hS9⟩
  have hS10 := St.pick (St.unfold [(Ty.sl (Ty.sl (Ty.sl (Ty.i .i64)))).at v_a_Table x6.2] [R, bx b1 [v_a_Table]] hS9) [0, 1, 2] rfl
  replace hS10 : St w0 wd11 [(Ty.sl (Ty.sl (Ty.sl (Ty.i .i64)))).at v_a_Table x6.2, R, bx b1 [v_a_Table]] := hS10
  refine WL.val (Value.int .i64 x6.1) _ (op_assign rfl) rfl ?_
  refine WL.nil ?_
  refine W.seq (W.region ?_)
  refine WL.val (Value.int .i64 x6.1) _ (op_move rfl) rfl ?_
  refine WL.val (Value.int .i64 x6.1) _ (op_assign rfl) rfl ?_
  refine WL.nil ?_
  refine W.ret ?_
  obtain rfl := Option.some.inj h
  show FinP _ _ _ _ _ _ _
  exact FinP.ret _ (res1 rfl rfl) ⟨rfl, hr12, (St.pick hS10 [0, 1] rfl)⟩

theorem c_laws_heldInt64S {w : World} {a : (List Int)} {v_a : Value} {k1 : Int} (r_a : (Ty.sl (Ty.i .i64)).rep w v_a a) (r_k1 : InR .i64 k1) {res : Int} (h : p_laws_heldInt64S a k1  = some res) :
    Ret Try.prog 22 #[v_a, (Value.int .i64 k1)] w (fun v w' => v = Value.int .i64 res ∧ InR .i64 res ∧ Ext w w') := by
  unfold p_laws_heldInt64S at h
  have hS0 : St w w [] := St.start w
  refine Ret.start (fn := Try.f22) Try.func22 rfl 21 rfl rfl ?_
  refine W.seq (W.region ?_)
  refine WL.val (Value.int .i64 (0 : Int)) _ (op_assign rfl) rfl ?_
  refine WL.nil ?_
  refine W.seq (W.seq (W.region ?_))
  refine WL.val (Value.int .i64 (0 : Int)) _ (op_assign rfl) rfl ?_
  refine WL.nil ?_
  show W _ _ _ _ _ _
  obtain ⟨res1, hres2, h⟩ := bs h
  refine W.blockLoop (fun fq wq => ∃ s, res1 = Res.fin s ∧ fq 1 = Value.int .i64 s ∧ InR .i64 s ∧ St w wq []) ?_ ?_
  · refine W.forN (fun k (s : Int) fq wq => fq 0 = v_a ∧ fq 1 = Value.int .i64 s ∧ InR .i64 s ∧ fq 5 = Value.int .i64 (k : Int) ∧ InR .i64 (k : Int) ∧ St w wq []) hres2 ⟨rfl, rfl, r_k1, rfl, (inL rfl), hS0⟩ ?_ ?_
    · intro k3 x4 ct5 f6 wd7 hk8 hb9 hI10 hbrk11 hret12
      replace hI10 : f6 0 = v_a ∧ f6 1 = Value.int .i64 x4 ∧ InR .i64 x4 ∧ f6 5 = Value.int .i64 (k3 : Int) ∧ InR .i64 (k3 : Int) ∧ St w wd7 [] := hI10
      replace hb9 : p_laws_heldInt64S_L1 a k3 x4 = some ct5 := hb9
      unfold p_laws_heldInt64S_L1 at hb9
      obtain ⟨hf13, hf14, hr15, hf16, hr17, hS18⟩ := hI10
      refine W.seq (W.seq (W.region ?_))
      refine WL.val (Value.int .i64 (k3 : Int)) _ (op_move hf16) rfl ?_
      refine WL.val v_a _ (op_move hf13) rfl ?_
      have hr19 := inR_len (Ty.lift _ hS18.ext r_a)
      refine WL.val (Value.int .i64 ((a).length : Int)) _ (op_lenL sl_25 (Ty.lift _ hS18.ext r_a) rfl) rfl ?_
      refine WL.val (Value.bool (decide ((k3 : Int) < ((a).length : Int)))) _ (op_lss rfl rfl) rfl ?_
      have hl20 : (k3 : Int) < ((a).length : Int) := by omega
      refine WL.nil ?_
      refine W.condT (decide ((k3 : Int) < ((a).length : Int))) rfl (decide_eq_true hl20) ?_
      refine W.skip ?_
      refine W.seq ?_
      refine W.block ?_
      refine W.seq (W.seq (W.region ?_))
      refine WL.val v_a _ (op_move hf13) rfl ?_
      refine WL.val (Value.int .i64 (k3 : Int)) _ (op_move hf16) rfl ?_
      obtain ⟨x22, hx25, hb9⟩ := bs hb9
      obtain ⟨ha23, hb24, hx25⟩ := idx_some hx25
      refine WL.val (Value.pointer (some (elA v_a ((k3 : Int)).toNat))) _ (op_idx sl_25 (Ty.lift _ hS18.ext r_a) rfl rfl ha23 hb24) rfl ?_
      obtain ⟨u26, hc27, hr28⟩ := repSl.el r_a hx25
      obtain ⟨rfl, hr28⟩ := hr28
      refine WL.val (Value.int .i64 x22) _ (op_load one_2 rfl (Ext.cell hS18.ext hc27)) rfl ?_
      refine WL.val (Value.int .i64 x4) _ (op_move hf14) rfl ?_
      refine WL.val (Value.bool (x22 != x4)) _ (op_neq rfl rfl) rfl ?_
      refine WL.nil ?_
      refine W.cond (x22 != x4) rfl (fun hc29 => ?_) (fun hc29 => ?_)
      · replace hb9 := ip hb9 hc29
        refine W.seq (W.region ?_)
        refine WL.val (Value.int .i64 (-1 : Int)) _ (op_assign rfl) rfl ?_
        refine WL.nil ?_
        refine W.ret ?_
        obtain rfl := Option.some.inj hb9
        obtain rfl := hret12 _ rfl
        replace h := onRes_ret h
        obtain rfl := Option.some.inj h
        show FinP _ _ _ _ _ _ _
        exact FinP.ret _ (res1 rfl rfl) ⟨rfl, (inR_i64.2 (show (-9223372036854775808 : Int) ≤ -1 ∧ (-1 : Int) ≤ 9223372036854775807 from by decide)), hS18.ext⟩
      · replace hb9 := inegb hb9 hc29
        refine W.skip ?_
        show W _ _ _ _ _ _
        refine W.region ?_
        refine WL.val (Value.int .i64 x4) _ (op_move hf14) rfl ?_
        refine WL.val (Value.int .i64 (w64 (x4 + (1 : Int)))) _ (op_add rfl rfl) rfl ?_
        refine WL.val (Value.int .i64 (w64 (x4 + (1 : Int)))) _ (op_assign rfl) rfl ?_
        refine WL.nil ?_
        show W _ _ _ _ _ _
        refine W.region ?_
        refine WL.val (Value.int .i64 (k3 : Int)) _ (op_move hf16) rfl ?_
        refine WL.val (Value.int .i64 (w64 ((k3 : Int) + (1 : Int)))) _ (op_add rfl rfl) rfl ?_
        refine WL.val (Value.int .i64 (w64 ((k3 : Int) + (1 : Int)))) _ (op_assign rfl) rfl ?_
        refine WL.nil ?_
        obtain rfl := Option.some.inj hb9
        show ∃ s, _ = Ctl.next s ∧ _
        exact ⟨_, rfl, hf13, rfl, (inR_wrap _ _), (ctr_next hl20 hr19), (ctr_rng hl20 hr19), hS18⟩
    · intro x37 f32 wd33 hs34 hI35
      replace hI35 : f32 0 = v_a ∧ f32 1 = Value.int .i64 x37 ∧ InR .i64 x37 ∧ f32 5 = Value.int .i64 (((a).length : Nat) : Int) ∧ InR .i64 (((a).length : Nat) : Int) ∧ St w wd33 [] := hI35
      obtain ⟨hf38, hf39, hr40, hf41, hr42, hS43⟩ := hI35
      refine W.seq (W.seq (W.region ?_))
      refine WL.val (Value.int .i64 (((a).length : Nat) : Int)) _ (op_move hf41) rfl ?_
      refine WL.val v_a _ (op_move hf38) rfl ?_
      have hr44 := inR_len (Ty.lift _ hS43.ext r_a)
      refine WL.val (Value.int .i64 ((a).length : Int)) _ (op_lenL sl_25 (Ty.lift _ hS43.ext r_a) rfl) rfl ?_
      refine WL.val (Value.bool (decide ((((a).length : Nat) : Int) < ((a).length : Int)))) _ (op_lss rfl rfl) rfl ?_
      have hl45 : ¬ (((a).length : Nat) : Int) < ((a).length : Int) := by omega
      refine WL.nil ?_
      refine W.condF (decide ((((a).length : Nat) : Int) < ((a).length : Int))) rfl (decide_eq_false hl45) ?_
      refine W.exit ?_
      show _ = _ ∧ _
      exact ⟨rfl, _, hs34, hf39, hr40, hS43⟩
  · rintro f46 wd47 ⟨x50, rfl, hq48⟩
    replace h := onRes_fin h
    replace hq48 : f46 1 = Value.int .i64 x50 ∧ InR .i64 x50 ∧ St w wd47 [] := hq48
    obtain ⟨hf51, hr52, hS53⟩ := hq48
    refine W.seq (W.region ?_)
    refine WL.val (Value.int .i64 x50) _ (op_move hf51) rfl ?_
    refine WL.val (Value.int .i64 x50) _ (op_assign rfl) rfl ?_
    refine WL.nil ?_
    refine W.ret ?_
    obtain rfl := Option.some.inj h
    show FinP _ _ _ _ _ _ _
    exact FinP.ret _ (res1 rfl rfl) ⟨rfl, hr52, hS53.ext⟩

theorem c_laws_FnExactDualCharacter {w : World} {aR_Table : (List (List (List Int)))} {v_aR_Table : Value} {aX : (List Int)} {v_aX : Value} (r_aR_Table : (Ty.sl (Ty.sl (Ty.sl (Ty.i .i64)))).rep w v_aR_Table aR_Table) (r_aX : (Ty.sl (Ty.i .i64)).rep w v_aX aX) {res : Bool} (h : p_laws_FnExactDualCharacter aR_Table aX  = some res) :
    Ret Try.prog 6 #[(Value.agg #[v_aR_Table]), v_aX] w (fun v w' => v = Value.bool res ∧ Ext w w') := by
  unfold p_laws_FnExactDualCharacter at h
  have hS0 : St w w [] := St.start w
  refine Ret.start (fn := Try.f6) Try.func6 rfl 117 rfl rfl ?_
  refine W.seq (W.region ?_)
  refine WL.box hS0 rfl (cs := [v_aR_Table]) rfl rfl ?_
  intro b1 wd2 hS3 he4 hx5
  replace hS3 : St w wd2 [bx b1 [v_aR_Table]] := hS3
  have hx6 := St.boxAt hS3 0 rfl
  have hE7 : Ext w wd2 := hS3.ext
  have hS8 : St wd2 wd2 [] := St.start wd2
  refine WL.val (Value.bool false) _ (op_assign rfl) rfl ?_
  refine WL.nil ?_
  refine W.seq (W.seq (W.region ?_))
  refine WL.val v_aX _ (op_move rfl) rfl ?_
  have hr9 := inR_len (Ty.lift _ (Ext.trans hE7 hS8.ext) r_aX)
  refine WL.val (Value.int .i64 ((aX).length : Int)) _ (op_lenL sl_25 (Ty.lift _ (Ext.trans hE7 hS8.ext) r_aX) rfl) rfl ?_
  refine WL.val (Value.bool (decide (((aX).length : Int) > (1048576 : Int)))) _ (op_gtr rfl rfl) rfl ?_
  refine WL.nil ?_
  refine W.cond (decide (((aX).length : Int) > (1048576 : Int))) rfl (fun hc10 => ?_) (fun hc10 => ?_)
  · replace h := ip h hc10
    refine W.seq (W.region ?_)
    refine WL.val (Value.bool true) _ (op_assign rfl) rfl ?_
    refine WL.nil ?_
    refine W.ret ?_
    obtain rfl := Option.some.inj h
    show FinP _ _ _ _ _ _ _
    exact FinP.ret _ (res1 rfl rfl) ⟨rfl, (Ext.trans hE7 hS8.ext)⟩
  · replace h := inegb h hc10
    refine W.skip ?_
    refine W.seq (W.region ?_)
    refine WL.val (Value.int .i64 (1048576 : Int)) _ (op_assign rfl) rfl ?_
    refine WL.nil ?_
    refine W.seq (W.region ?_)
    refine WL.val (Value.agg #[v_aR_Table]) _ (op_loadBox st_24 rfl (BoxAt.lift hS8.ext hx6) rfl rfl) rfl ?_
    refine WL.val (Value.int .i64 (1048576 : Int)) _ (op_move rfl) rfl ?_
    obtain ⟨x12, hx13, h⟩ := bs h
    refine WL.call _ (op_call fn_7 (args2 rfl rfl)) (c_laws_szRing (Ty.lift _ (Ext.trans hE7 hS8.ext) r_aR_Table) (inL rfl) hx13) rfl ?_
    rintro _ wd15 ⟨rfl, hr14, he16⟩
    have hS18 := St.extend hS8 he16
    replace hS18 : St wd2 wd15 [] := hS18
    refine WL.val (Value.int .i64 x12) _ (op_assign rfl) rfl ?_
    refine WL.nil ?_
    refine W.seq (W.seq (W.region ?_))
    refine WL.val (Value.int .i64 x12) _ (op_move rfl) rfl ?_
    refine WL.val (Value.bool (decide (x12 < (0 : Int)))) _ (op_lss rfl rfl) rfl ?_
    refine WL.nil ?_
    refine W.cond (decide (x12 < (0 : Int))) rfl (fun hc19 => ?_) (fun hc19 => ?_)
    · replace h := ip h hc19
      refine W.seq (W.region ?_)
      refine WL.val (Value.bool true) _ (op_assign rfl) rfl ?_
      refine WL.nil ?_
      refine W.ret ?_
      obtain rfl := Option.some.inj h
      show FinP _ _ _ _ _ _ _
      exact FinP.ret _ (res1 rfl rfl) ⟨rfl, (Ext.trans hE7 hS18.ext)⟩
    · replace h := inegb h hc19
      refine W.skip ?_
      refine W.seq (W.region ?_)
      refine WL.val (Value.agg #[v_aR_Table]) _ (op_loadBox st_24 rfl (BoxAt.lift hS18.ext hx6) rfl rfl) rfl ?_
      obtain ⟨x21, hx22, h⟩ := bs h
      refine WL.call _ (op_call fn_9 (args1 rfl)) (c_laws_toRing (Ty.lift _ (Ext.trans hE7 hS18.ext) r_aR_Table) hx22) rfl ?_
      rintro _ wd24 ⟨u23, rfl, he25, hs26⟩
      have hS27 := St.join hS18 he25 hs26
      replace hS27 : St wd2 wd24 [(Ty.sl (Ty.sl (Ty.sl (Ty.i .i64)))).at u23 x21] := hS27
      have hb28 := St.rep (t := (Ty.sl (Ty.sl (Ty.sl (Ty.i .i64))))) hS27 0 rfl
      have hE29 : Ext w wd24 := (Ext.trans hE7 hS27.ext)
      have hE30 : Ext wd2 wd24 := hS27.ext
      have hS31 : St wd24 wd24 [] := St.start wd24
      refine WL.val v_aX _ (op_move rfl) rfl ?_
      obtain ⟨x32, hx33, h⟩ := bs h
      refine WL.call _ (op_call fn_10 (args1 rfl)) (c_laws_toInt64S (Ty.lift _ (Ext.trans hE29 hS31.ext) r_aX) hx33) rfl ?_
      rintro u34 wd35 ⟨_, rfl, he36, hs37⟩
      have hS38 := St.join hS31 he36 hs37
      replace hS38 : St wd24 wd35 [(Ty.sl (Ty.i .i64)).at u34 x32] := hS38
      have hb39 := St.rep (t := (Ty.sl (Ty.i .i64))) hS38 0 rfl
      have hE40 : Ext w wd35 := (Ext.trans hE29 hS38.ext)
      have hE41 : Ext wd2 wd35 := (Ext.trans hE30 hS38.ext)
      have hE42 : Ext wd24 wd35 := hS38.ext
      have hS43 : St wd35 wd35 [] := St.start wd35
      obtain ⟨x44, hx45, h⟩ := bs h
      refine WL.call _ (op_call fn_18 (args2 rfl rfl)) (c_spec_DualCharacter (Ty.lift _ (Ext.trans hE42 hS43.ext) hb28) (Ty.lift _ hS43.ext hb39) hx45) rfl ?_
      rintro _ wd48 ⟨u46, rfl, hr47, he49, hs50⟩
      have hS51 := St.join hS43 he49 hs50
      replace hS51 : St wd35 wd48 [(Ty.sl (Ty.i .i64)).at u46 x44.1] := hS51
      have hb52 := St.rep (t := (Ty.sl (Ty.i .i64))) hS51 0 rfl
      have hE53 : Ext w wd48 := (Ext.trans hE40 hS51.ext)
      have hE54 : Ext wd2 wd48 := (Ext.trans hE41 hS51.ext)
      have hE55 : Ext wd24 wd48 := (Ext.trans hE42 hS51.ext)
      have hE56 : Ext wd35 wd48 := hS51.ext
      have hS57 : St wd48 wd48 [] := St.start wd48
      refine WL.val (Value.tuple #[u46, (Value.int .i64 x44.2)]) _ (op_move rfl) rfl ?_
      refine WL.val u46 _ (op_extract rfl rfl) rfl ?_
      refine WL.val (Value.int .i64 x44.2) _ (op_extract rfl rfl) rfl ?_
      refine WL.val u46 _ (op_assign rfl) rfl ?_
      refine WL.val (Value.int .i64 x44.2) _ (op_assign rfl) rfl ?_
      refine WL.nil ?_
      refine W.seq (W.region ?_)
      refine WL.val (Value.agg #[v_aR_Table]) _ (op_loadBox st_24 rfl (BoxAt.lift (Ext.trans hE54 hS57.ext) hx6) rfl rfl) rfl ?_
      obtain ⟨x58, hx59, h⟩ := bs h
      refine WL.call _ (op_call fn_9 (args1 rfl)) (c_laws_toRing (Ty.lift _ (Ext.trans hE53 hS57.ext) r_aR_Table) hx59) rfl ?_
      rintro _ wd61 ⟨u60, rfl, he62, hs63⟩
      have hS64 := St.join hS57 he62 hs63
      replace hS64 : St wd48 wd61 [(Ty.sl (Ty.sl (Ty.sl (Ty.i .i64)))).at u60 x58] := hS64
      refine WL.alloc hS64 ze_29 (cs := [(Value.slice none 0 0)]) rfl rfl ?_
      intro b65 wd66 hS67 he68
      replace hS67 : St wd48 wd66 [(Ty.sl (Ty.sl (Ty.sl (Ty.i .i64)))).at u60 x58, bx b65 [(Value.slice none 0 0)]] := hS67
      refine WL.storeBox [u60] hS67 (k := 1) rfl rfl rfl (us := [u60]) rfl sz_29 rfl rfl (all_rep (St.rep (t := (Ty.sl (Ty.sl (Ty.sl (Ty.i .i64))))) hS67 0 rfl) all_nil) rfl ?_
      intro wd69 hS70
      replace hS70 : St wd48 wd69 [(Ty.sl (Ty.sl (Ty.sl (Ty.i .i64)))).at u60 x58, bx b65 [u60]] := hS70
      refine WL.nil ?_
      refine W.seq (W.region ?_)
      refine WL.val v_aX _ (op_move rfl) rfl ?_
      obtain ⟨x71, hx72, h⟩ := bs h
      refine WL.call _ (op_call fn_10 (args1 rfl)) (c_laws_toInt64S (Ty.lift _ (Ext.trans hE53 hS70.ext) r_aX) hx72) rfl ?_
      rintro u73 wd74 ⟨_, rfl, he75, hs76⟩
      have hS77 := St.join hS70 he75 hs76
      replace hS77 : St wd48 wd74 [(Ty.sl (Ty.sl (Ty.sl (Ty.i .i64)))).at u60 x58, bx b65 [u60], (Ty.sl (Ty.i .i64)).at u73 x71] := hS77
      refine WL.val u73 _ (op_assign rfl) rfl ?_
      refine WL.nil ?_
      refine W.seq (W.region ?_)
      refine WL.val (Value.agg #[u60]) _ (op_loadBox st_29 rfl (St.boxAt hS77 1 rfl) rfl rfl) rfl ?_
      refine WL.val u73 _ (op_move rfl) rfl ?_
      obtain ⟨x78, hx79, h⟩ := bs h
      refine WL.call _ (op_call fn_19 (args2 rfl rfl)) (c_impl_DualCharacter (St.rep (t := (Ty.sl (Ty.sl (Ty.sl (Ty.i .i64))))) hS77 0 rfl) (St.rep (t := (Ty.sl (Ty.i .i64))) hS77 2 rfl) hx79) rfl ?_
      rintro _ wd82 ⟨u80, rfl, hr81, he83, hs84⟩
      have hS85 := St.join hS77 he83 hs84
      replace hS85 : St wd48 wd82 [(Ty.sl (Ty.sl (Ty.sl (Ty.i .i64)))).at u60 x58, bx b65 [u60], (Ty.sl (Ty.i .i64)).at u73 x71, (Ty.sl (Ty.i .i64)).at u80 x78.1] := hS85
      refine WL.val (Value.tuple #[u80, (Value.int .i64 x78.2)]) _ (op_move rfl) rfl ?_
      refine WL.val u80 _ (op_extract rfl rfl) rfl ?_
      refine WL.val (Value.int .i64 x78.2) _ (op_extract rfl rfl) rfl ?_
      refine WL.val u80 _ (op_assign rfl) rfl ?_
      refine WL.val (Value.int .i64 x78.2) _ (op_assign rfl) rfl ?_
      refine WL.nil ?_
      refine W.seq (W.seq (W.region ?_))
      refine WL.val u80 _ (op_move rfl) rfl ?_
      refine WL.val u46 _ (op_move rfl) rfl ?_
      obtain ⟨x86, hx87, h⟩ := bs h
      refine WL.call _ (op_call fn_13 (args2 rfl rfl)) (c_laws_eqInt64S (St.rep (t := (Ty.sl (Ty.i .i64))) hS85 3 rfl) (Ty.lift _ hS85.ext hb52) hx87) rfl ?_
      rintro _ wd88 ⟨rfl, he89⟩
      have hS91 := St.extend hS85 he89
      replace hS91 : St wd48 wd88 [(Ty.sl (Ty.sl (Ty.sl (Ty.i .i64)))).at u60 x58, bx b65 [u60], (Ty.sl (Ty.i .i64)).at u73 x71, (Ty.sl (Ty.i .i64)).at u80 x78.1] := hS91
      refine WL.val (Value.bool (!x86)) _ (op_not rfl) rfl ?_
      refine WL.val (Value.bool (!x86)) _ (op_move rfl) rfl ?_
      refine WL.cut 4 (fun fq wq => fq 1 = v_aX ∧ fq 2 = (Value.pointer (some ⟨b1, 0, none⟩)) ∧ fq 6 = u46 ∧ fq 7 = (Value.int .i64 x44.2) ∧ fq 8 = (Value.pointer (some ⟨b65, 0, none⟩)) ∧ fq 9 = u73 ∧ fq 10 = u80 ∧ fq 11 = (Value.int .i64 x78.2) ∧ fq 51 = (Value.bool ((!x86) || (x78.2 != x44.2))) ∧ St wd48 wq [(Ty.sl (Ty.sl (Ty.sl (Ty.i .i64)))).at u60 x58, bx b65 [u60], (Ty.sl (Ty.i .i64)).at u73 x71, (Ty.sl (Ty.i .i64)).at u80 x78.1]) ?_ ?_
      · rcases Bool.eq_false_or_eq_true (!x86) with hc92 | hc92
        · refine WL.gskip rfl (bool_of rfl hc92) rfl ?_
          refine WL.gskip rfl (bool_of rfl hc92) rfl ?_
          refine WL.gskip rfl (bool_of rfl hc92) rfl ?_
          refine WL.val (Value.bool true) _ (op_pick_t (evb_of rfl hc92) rfl) rfl ?_
          refine WL.nil ?_
          exact ⟨rfl, rfl, rfl, rfl, rfl, rfl, rfl, rfl, rfl, (orT hc92), hS91⟩
        · refine WL.grun rfl (bool_of rfl hc92) ?_
          refine WL.val (Value.int .i64 x78.2) _ (op_move rfl) rfl ?_
          refine WL.grun rfl (bool_of rfl hc92) ?_
          refine WL.val (Value.int .i64 x44.2) _ (op_move rfl) rfl ?_
          refine WL.grun rfl (bool_of rfl hc92) ?_
          refine WL.val (Value.bool (x78.2 != x44.2)) _ (op_neq rfl rfl) rfl ?_
          refine WL.val (Value.bool (x78.2 != x44.2)) _ (op_pick_f (evb_of rfl hc92) rfl) rfl ?_
          refine WL.nil ?_
          exact ⟨rfl, rfl, rfl, rfl, rfl, rfl, rfl, rfl, rfl, (orF hc92), hS91⟩
      · intro f93 wd94 hq95
        obtain ⟨hf96, hf97, hf98, hf99, hf100, hf101, hf102, hf103, hf104, hS105⟩ := hq95
        refine WL.nil ?_
        refine W.cond ((!x86) || (x78.2 != x44.2)) hf104 (fun hc106 => ?_) (fun hc106 => ?_)
        · replace h := ip h hc106
          refine W.seq (W.region ?_)
          refine WL.val (Value.bool false) _ (op_assign rfl) rfl ?_
          refine WL.nil ?_
          refine W.ret ?_
          obtain rfl := Option.some.inj h
          show FinP _ _ _ _ _ _ _
          exact FinP.ret _ (res1 rfl rfl) ⟨rfl, (Ext.trans hE53 hS105.ext)⟩
        · replace h := inegb h hc106
          refine W.skip ?_
          refine W.seq (W.seq ?_)
          obtain ⟨x132, hx133, h⟩ := bs h
          refine W.drawR mixo 3 [] [fun _ v S w' => v = (Value.agg #[u60]), fun _ v S w' => v = (Value.agg #[v_aR_Table]), fun _ v S w' => ∃ (uu0 : Value), v = (Value.agg #[uu0]) ∧ SepS S w' [(Ty.sl (Ty.sl (Ty.sl (Ty.i .i64)))).at uu0 x132]] (by kernel_rfl) (by kernel_rfl) ⟨pk, pk, ⟨fun _ _ _ _ _ he ⟨uu0, h0, r0⟩ => ⟨uu0, h0, SepS.extend he r0⟩, fun _ _ _ _ _ _ h => h⟩, trivial⟩ ⟨?_, ?_, ?_, trivial⟩ ?_
          · refine ObX.op rfl fun f108 wd109 he110 hout111 hphi112 => ?_
            have hS113 := St.extend hS105 he110
            have e114 : f108 8 = (Value.pointer (some ⟨b65, 0, none⟩)) := (hout111 8 rfl).trans hf100
            exact OpX.val (Value.agg #[u60]) wd109 rfl (op_loadBox st_29 e114 (St.boxAt hS113 1 rfl) rfl rfl) (Ext.refl _) rfl
          · refine ObX.op rfl fun f115 wd116 he117 hout118 hphi119 => ?_
            have hS120 := St.extend hS105 he117
            have e121 : f115 2 = (Value.pointer (some ⟨b1, 0, none⟩)) := (hout118 2 rfl).trans hf97
            exact OpX.val (Value.agg #[v_aR_Table]) wd116 rfl (op_loadBox st_24 e121 (BoxAt.lift (Ext.trans hE54 hS120.ext) hx6) rfl rfl) (Ext.refl _) rfl
          · refine ObX.op rfl fun f122 wd123 he124 hout125 hphi126 => ?_
            have hS127 := St.extend hS105 he124
            obtain ⟨S128, hS129, hf130⟩ := hphi126 1 53 _ rfl rfl rfl
            have e131 : f122 53 = (Value.agg #[v_aR_Table]) := hf130
            refine OpX.call rfl (op_call fn_9 (args1 e131)) (Ret.mono (c_laws_toRing (Ty.lift _ (Ext.trans hE53 hS127.ext) r_aR_Table) hx133) ?_)
            rintro _ wd135 ⟨u134, rfl, he136, hs137⟩
            exact ⟨he136, _, newS _ _, ⟨u134, rfl, (Sep.new hs137)⟩⟩
          · intro f138 wd139 Ss140 he141 hout142 hSn143 hSd144 hphi145
            show WL _ _ _ _ _ _ _
            have e147 : f138 52 = (Value.agg #[u60]) := hphi145 0 52 _ (by decide) rfl rfl
            obtain ⟨u149, e148, e148s⟩ := hphi145 2 54 _ (by decide) rfl rfl
            have e150 : f138 1 = v_aX := (hout142 1 rfl).trans hf96
            have e151 : f138 2 = (Value.pointer (some ⟨b1, 0, none⟩)) := (hout142 2 rfl).trans hf97
            have e152 : f138 6 = u46 := (hout142 6 rfl).trans hf98
            have e153 : f138 7 = (Value.int .i64 x44.2) := (hout142 7 rfl).trans hf99
            have e154 : f138 8 = (Value.pointer (some ⟨b65, 0, none⟩)) := (hout142 8 rfl).trans hf100
            have e155 : f138 9 = u73 := (hout142 9 rfl).trans hf101
            have e156 : f138 10 = u80 := (hout142 10 rfl).trans hf102
            have e157 : f138 11 = (Value.int .i64 x78.2) := (hout142 11 rfl).trans hf103
            have hS158 := St.joinS hS105 he141 hSn143 (SepS.consS hSd144 rfl e148s SepS.nilS)
            replace hS158 : St wd48 wd139 [(Ty.sl (Ty.sl (Ty.sl (Ty.i .i64)))).at u60 x58, bx b65 [u60], (Ty.sl (Ty.i .i64)).at u73 x71, (Ty.sl (Ty.i .i64)).at u80 x78.1, (Ty.sl (Ty.sl (Ty.sl (Ty.i .i64)))).at u149 x132] := hS158
            obtain ⟨x159, hx160, h⟩ := bs h
            refine WL.call _ (op_call fn_12 (args2 e147 e148)) (c_laws_eqRing (St.rep (t := (Ty.sl (Ty.sl (Ty.sl (Ty.i .i64))))) hS158 0 rfl) (St.rep (t := (Ty.sl (Ty.sl (Ty.sl (Ty.i .i64))))) hS158 4 rfl) hx160) rfl ?_
            rintro _ wd161 ⟨rfl, he162⟩
            have hS164 := St.extend hS158 he162
            replace hS164 : St wd48 wd161 [(Ty.sl (Ty.sl (Ty.sl (Ty.i .i64)))).at u60 x58, bx b65 [u60], (Ty.sl (Ty.i .i64)).at u73 x71, (Ty.sl (Ty.i .i64)).at u80 x78.1, (Ty.sl (Ty.sl (Ty.sl (Ty.i .i64)))).at u149 x132] := hS164
            refine WL.val (Value.bool (!x159)) _ (op_not rfl) rfl ?_
            refine WL.nil ?_
            refine W.cond (!x159) rfl (fun hc165 => ?_) (fun hc165 => ?_)
            · replace h := ip h hc165
              refine W.seq (W.region ?_)
              refine WL.val (Value.bool false) _ (op_assign rfl) rfl ?_
              refine WL.nil ?_
              refine W.ret ?_
              obtain rfl := Option.some.inj h
              show FinP _ _ _ _ _ _ _
              exact FinP.ret _ (res1 rfl rfl) ⟨rfl, (Ext.trans hE53 hS164.ext)⟩
            · replace h := inegb h hc165
              refine W.skip ?_
              refine W.seq (W.seq (W.region ?_))
              refine WL.val u73 _ (op_move e155) rfl ?_
              refine WL.val v_aX _ (op_move e150) rfl ?_
              obtain ⟨x167, hx168, h⟩ := bs h
              refine WL.call _ (op_call fn_10 (args1 rfl)) (c_laws_toInt64S (Ty.lift _ (Ext.trans hE53 hS164.ext) r_aX) hx168) rfl ?_
              rintro u169 wd170 ⟨_, rfl, he171, hs172⟩
              have hS173 := St.join hS164 he171 hs172
              replace hS173 : St wd48 wd170 [(Ty.sl (Ty.sl (Ty.sl (Ty.i .i64)))).at u60 x58, bx b65 [u60], (Ty.sl (Ty.i .i64)).at u73 x71, (Ty.sl (Ty.i .i64)).at u80 x78.1, (Ty.sl (Ty.sl (Ty.sl (Ty.i .i64)))).at u149 x132, (Ty.sl (Ty.i .i64)).at u169 x167] := hS173
              obtain ⟨x174, hx175, h⟩ := bs h
              refine WL.call _ (op_call fn_13 (args2 rfl rfl)) (c_laws_eqInt64S (St.rep (t := (Ty.sl (Ty.i .i64))) hS173 2 rfl) (St.rep (t := (Ty.sl (Ty.i .i64))) hS173 5 rfl) hx175) rfl ?_
              rintro _ wd176 ⟨rfl, he177⟩
              have hS179 := St.extend hS173 he177
              replace hS179 : St wd48 wd176 [(Ty.sl (Ty.sl (Ty.sl (Ty.i .i64)))).at u60 x58, bx b65 [u60], (Ty.sl (Ty.i .i64)).at u73 x71, (Ty.sl (Ty.i .i64)).at u80 x78.1, (Ty.sl (Ty.sl (Ty.sl (Ty.i .i64)))).at u149 x132, (Ty.sl (Ty.i .i64)).at u169 x167] := hS179
              refine WL.val (Value.bool (!x174)) _ (op_not rfl) rfl ?_
              refine WL.nil ?_
              refine W.cond (!x174) rfl (fun hc180 => ?_) (fun hc180 => ?_)
              · replace h := ip h hc180
                refine W.seq (W.region ?_)
                refine WL.val (Value.bool false) _ (op_assign rfl) rfl ?_
                refine WL.nil ?_
                refine W.ret ?_
                obtain rfl := Option.some.inj h
                show FinP _ _ _ _ _ _ _
                exact FinP.ret _ (res1 rfl rfl) ⟨rfl, (Ext.trans hE53 hS179.ext)⟩
              · replace h := inegb h hc180
                refine W.skip ?_
                refine W.seq (W.region ?_)
                refine WL.val (Value.int .i64 (1 : Int)) _ (op_assign rfl) rfl ?_
                refine WL.nil ?_
                refine W.seq (W.region ?_)
                refine WL.val (Value.agg #[u60]) _ (op_loadBox st_29 e154 (St.boxAt hS179 1 rfl) rfl rfl) rfl ?_
                refine WL.val (Value.int .i64 (1 : Int)) _ (op_move rfl) rfl ?_
                obtain ⟨x182, hx183, h⟩ := bs h
                have hS184 := St.fold [(Ty.sl (Ty.sl (Ty.sl (Ty.i .i64)))).at u60 x58] [bx b65 [u60], (Ty.sl (Ty.i .i64)).at u73 x71, (Ty.sl (Ty.i .i64)).at u80 x78.1, (Ty.sl (Ty.sl (Ty.sl (Ty.i .i64)))).at u149 x132, (Ty.sl (Ty.i .i64)).at u169 x167] (St.pick hS179 [0, 1, 2, 3, 4, 5] rfl)
                refine WL.call _ (op_call fn_20 (args2 rfl rfl)) (c_laws_markRing hS184 (inL rfl) hx183) rfl ?_
                rintro _ wd187 ⟨rfl, hr188, hS185⟩
                have hS186 := St.pick (St.unfold [(Ty.sl (Ty.sl (Ty.sl (Ty.i .i64)))).at u60 x182.2] [bx b65 [u60], (Ty.sl (Ty.i .i64)).at u73 x71, (Ty.sl (Ty.i .i64)).at u80 x78.1, (Ty.sl (Ty.sl (Ty.sl (Ty.i .i64)))).at u149 x132, (Ty.sl (Ty.i .i64)).at u169 x167] hS185) [0, 1, 2, 3, 4, 5] rfl
                replace hS186 : St wd48 wd187 [(Ty.sl (Ty.sl (Ty.sl (Ty.i .i64)))).at u60 x182.2, bx b65 [u60], (Ty.sl (Ty.i .i64)).at u73 x71, (Ty.sl (Ty.i .i64)).at u80 x78.1, (Ty.sl (Ty.sl (Ty.sl (Ty.i .i64)))).at u149 x132, (Ty.sl (Ty.i .i64)).at u169 x167] := hS186
                refine WL.val (Value.int .i64 x182.1) _ (op_assign rfl) rfl ?_
                refine WL.nil ?_
                refine W.seq (W.region ?_)
                refine WL.val u73 _ (op_move e155) rfl ?_
                refine WL.val (Value.int .i64 x182.1) _ (op_move rfl) rfl ?_
                obtain ⟨x189, hx190, h⟩ := bs h
                have hS191 := St.fold [(Ty.sl (Ty.i .i64)).at u73 x71] [(Ty.sl (Ty.sl (Ty.sl (Ty.i .i64)))).at u60 x182.2, bx b65 [u60], (Ty.sl (Ty.i .i64)).at u80 x78.1, (Ty.sl (Ty.sl (Ty.sl (Ty.i .i64)))).at u149 x132, (Ty.sl (Ty.i .i64)).at u169 x167] (St.pick hS186 [2, 0, 1, 3, 4, 5] rfl)
                refine WL.call _ (op_call fn_21 (args2 rfl rfl)) (c_laws_markInt64S hS191 hr188 hx190) rfl ?_
                rintro _ wd194 ⟨rfl, hr195, hS192⟩
                have hS193 := St.pick (St.unfold [(Ty.sl (Ty.i .i64)).at u73 x189.2] [(Ty.sl (Ty.sl (Ty.sl (Ty.i .i64)))).at u60 x182.2, bx b65 [u60], (Ty.sl (Ty.i .i64)).at u80 x78.1, (Ty.sl (Ty.sl (Ty.sl (Ty.i .i64)))).at u149 x132, (Ty.sl (Ty.i .i64)).at u169 x167] hS192) [1, 2, 0, 3, 4, 5] rfl
                replace hS193 : St wd48 wd194 [(Ty.sl (Ty.sl (Ty.sl (Ty.i .i64)))).at u60 x182.2, bx b65 [u60], (Ty.sl (Ty.i .i64)).at u73 x189.2, (Ty.sl (Ty.i .i64)).at u80 x78.1, (Ty.sl (Ty.sl (Ty.sl (Ty.i .i64)))).at u149 x132, (Ty.sl (Ty.i .i64)).at u169 x167] := hS193
                refine WL.val (Value.int .i64 x189.1) _ (op_assign rfl) rfl ?_
                refine WL.nil ?_
                refine W.seq (W.seq (W.region ?_))
                refine WL.val (Value.int .i64 x189.1) _ (op_move rfl) rfl ?_
                refine WL.val (Value.bool (decide (x189.1 < (0 : Int)))) _ (op_lss rfl rfl) rfl ?_
                refine WL.val (Value.bool (decide (x189.1 < (0 : Int)))) _ (op_move rfl) rfl ?_
                obtain ⟨x197, hj198, h⟩ := bs h
                refine WL.cut 5 (fun fq wq => fq 1 = v_aX ∧ fq 2 = (Value.pointer (some ⟨b1, 0, none⟩)) ∧ fq 6 = u46 ∧ fq 7 = (Value.int .i64 x44.2) ∧ fq 10 = u80 ∧ fq 11 = (Value.int .i64 x78.2) ∧ fq 75 = Value.bool x197 ∧ St wd48 wq [(Ty.sl (Ty.i .i64)).at u80 x78.1]) ?_ ?_
                · rcases Bool.eq_false_or_eq_true (decide (x189.1 < (0 : Int))) with hc196 | hc196
                  · replace hj198 := ip hj198 hc196
                    refine WL.gskip rfl (bool_of rfl hc196) rfl ?_
                    refine WL.gskip rfl (bool_of rfl hc196) rfl ?_
                    refine WL.gskip rfl (bool_of rfl hc196) rfl ?_
                    refine WL.gskip rfl (bool_of rfl hc196) rfl ?_
                    refine WL.val (Value.bool true) _ (op_pick_t (evb_of rfl hc196) rfl) rfl ?_
                    refine WL.nil ?_
                    obtain rfl := Option.some.inj hj198
                    exact ⟨rfl, e150, e151, e152, e153, e156, e157, rfl, (St.pick hS193 [3] rfl)⟩
                  · replace hj198 := inegb hj198 hc196
                    refine WL.grun rfl (bool_of rfl hc196) ?_
                    refine WL.val u80 _ (op_move e156) rfl ?_
                    refine WL.grun rfl (bool_of rfl hc196) ?_
                    refine WL.val u46 _ (op_move e152) rfl ?_
                    refine WL.grun rfl (bool_of rfl hc196) ?_
                    obtain ⟨x202, hx203, hj198⟩ := bs hj198
                    refine WL.call _ (op_call fn_13 (args2 rfl rfl)) (c_laws_eqInt64S (St.rep (t := (Ty.sl (Ty.i .i64))) hS193 3 rfl) (Ty.lift _ hS193.ext hb52) hx203) rfl ?_
                    rintro _ wd204 ⟨rfl, he205⟩
                    have hS207 := St.extend hS193 he205
                    replace hS207 : St wd48 wd204 [(Ty.sl (Ty.sl (Ty.sl (Ty.i .i64)))).at u60 x182.2, bx b65 [u60], (Ty.sl (Ty.i .i64)).at u73 x189.2, (Ty.sl (Ty.i .i64)).at u80 x78.1, (Ty.sl (Ty.sl (Ty.sl (Ty.i .i64)))).at u149 x132, (Ty.sl (Ty.i .i64)).at u169 x167] := hS207
                    refine WL.grun rfl (bool_of rfl hc196) ?_
                    refine WL.val (Value.bool (!x202)) _ (op_not rfl) rfl ?_
                    refine WL.val (Value.bool (!x202)) _ (op_pick_f (evb_of rfl hc196) rfl) rfl ?_
                    refine WL.nil ?_
                    obtain rfl := Option.some.inj hj198
                    exact ⟨rfl, e150, e151, e152, e153, e156, e157, rfl, (St.pick hS207 [3] rfl)⟩
                · intro f199 wd200 hq201
                  obtain ⟨hf208, hf209, hf210, hf211, hf212, hf213, hf214, hS215⟩ := hq201
                  refine WL.val (Value.bool x197) _ (op_move hf214) rfl ?_
                  refine WL.cut 4 (fun fq wq => fq 1 = v_aX ∧ fq 2 = (Value.pointer (some ⟨b1, 0, none⟩)) ∧ fq 6 = u46 ∧ fq 7 = (Value.int .i64 x44.2) ∧ fq 10 = u80 ∧ fq 80 = (Value.bool (x197 || (x78.2 != x44.2))) ∧ St wd48 wq [(Ty.sl (Ty.i .i64)).at u80 x78.1]) ?_ ?_
                  · rcases Bool.eq_false_or_eq_true x197 with hc216 | hc216
                    · refine WL.gskip rfl (bool_of rfl hc216) rfl ?_
                      refine WL.gskip rfl (bool_of rfl hc216) rfl ?_
                      refine WL.gskip rfl (bool_of rfl hc216) rfl ?_
                      refine WL.val (Value.bool true) _ (op_pick_t (evb_of rfl hc216) rfl) rfl ?_
                      refine WL.nil ?_
                      exact ⟨rfl, hf208, hf209, hf210, hf211, hf212, (orT hc216), hS215⟩
                    · refine WL.grun rfl (bool_of rfl hc216) ?_
                      refine WL.val (Value.int .i64 x78.2) _ (op_move hf213) rfl ?_
                      refine WL.grun rfl (bool_of rfl hc216) ?_
                      refine WL.val (Value.int .i64 x44.2) _ (op_move hf211) rfl ?_
                      refine WL.grun rfl (bool_of rfl hc216) ?_
                      refine WL.val (Value.bool (x78.2 != x44.2)) _ (op_neq rfl rfl) rfl ?_
                      refine WL.val (Value.bool (x78.2 != x44.2)) _ (op_pick_f (evb_of rfl hc216) rfl) rfl ?_
                      refine WL.nil ?_
                      exact ⟨rfl, hf208, hf209, hf210, hf211, hf212, (orF hc216), hS215⟩
                  · intro f217 wd218 hq219
                    obtain ⟨hf220, hf221, hf222, hf223, hf224, hf225, hS226⟩ := hq219
                    refine WL.nil ?_
                    refine W.cond (x197 || (x78.2 != x44.2)) hf225 (fun hc227 => ?_) (fun hc227 => ?_)
                    · replace h := ip h hc227
                      refine W.seq (W.region ?_)
                      refine WL.val (Value.bool false) _ (op_assign rfl) rfl ?_
                      refine WL.nil ?_
                      refine W.ret ?_
                      obtain rfl := Option.some.inj h
                      show FinP _ _ _ _ _ _ _
                      exact FinP.ret _ (res1 rfl rfl) ⟨rfl, (Ext.trans hE53 hS226.ext)⟩
                    · replace h := inegb h hc227
                      refine W.skip ?_
                      refine W.seq (W.region ?_)
                      refine WL.val (Value.int .i64 (1 : Int)) _ (op_assign rfl) rfl ?_
                      refine WL.nil ?_
                      refine W.seq (W.region ?_)
                      refine WL.val u80 _ (op_move hf224) rfl ?_
                      refine WL.val (Value.int .i64 (1 : Int)) _ (op_move rfl) rfl ?_
                      obtain ⟨x229, hx230, h⟩ := bs h
                      have hS231 := St.fold [(Ty.sl (Ty.i .i64)).at u80 x78.1] [] (St.pick hS226 [0] rfl)
                      refine WL.call _ (op_call fn_21 (args2 rfl rfl)) (c_laws_markInt64S hS231 (inL rfl) hx230) rfl ?_
                      rintro _ wd234 ⟨rfl, hr235, hS232⟩
                      have hS233 := St.pick (St.unfold [(Ty.sl (Ty.i .i64)).at u80 x229.2] [] hS232) [0] rfl
                      replace hS233 : St wd48 wd234 [(Ty.sl (Ty.i .i64)).at u80 x229.2] := hS233
                      refine WL.val (Value.int .i64 x229.1) _ (op_assign rfl) rfl ?_
                      refine WL.nil ?_
                      refine W.seq (W.region ?_)
                      refine WL.val (Value.int .i64 (1 : Int)) _ (op_assign rfl) rfl ?_
                      refine WL.nil ?_
                      refine W.seq (W.region ?_)
                      refine WL.val u80 _ (op_move hf224) rfl ?_
                      refine WL.val (Value.int .i64 (1 : Int)) _ (op_move rfl) rfl ?_
                      obtain ⟨x236, hx237, h⟩ := bs h
                      refine WL.call _ (op_call fn_22 (args2 rfl rfl)) (c_laws_heldInt64S (St.rep (t := (Ty.sl (Ty.i .i64))) hS233 0 rfl) (inL rfl) hx237) rfl ?_
                      rintro _ wd239 ⟨rfl, hr238, he240⟩
                      have hS242 := St.extend hS233 he240
                      replace hS242 : St wd48 wd239 [(Ty.sl (Ty.i .i64)).at u80 x229.2] := hS242
                      refine WL.val (Value.int .i64 x236) _ (op_assign rfl) rfl ?_
                      refine WL.nil ?_
                      refine W.seq (W.seq (W.region ?_))
                      refine WL.val (Value.int .i64 x236) _ (op_move rfl) rfl ?_
                      refine WL.val (Value.bool (decide (x236 < (0 : Int)))) _ (op_lss rfl rfl) rfl ?_
                      refine WL.nil ?_
                      refine W.cond (decide (x236 < (0 : Int))) rfl (fun hc243 => ?_) (fun hc243 => ?_)
                      · replace h := ip h hc243
                        refine W.seq (W.region ?_)
                        refine WL.val (Value.bool false) _ (op_assign rfl) rfl ?_
                        refine WL.nil ?_
                        refine W.ret ?_
                        obtain rfl := Option.some.inj h
                        show FinP _ _ _ _ _ _ _
                        exact FinP.ret _ (res1 rfl rfl) ⟨rfl, (Ext.trans hE53 hS242.ext)⟩
                      · replace h := inegb h hc243
                        refine W.skip ?_
                        refine W.seq (W.seq (W.region ?_))
                        refine WL.val (Value.int .i64 x236) _ (op_move rfl) rfl ?_
                        refine WL.val (Value.int .i64 x229.1) _ (op_move rfl) rfl ?_
                        refine WL.val (Value.bool (x236 != x229.1)) _ (op_neq rfl rfl) rfl ?_
                        refine WL.nil ?_
                        refine W.cond (x236 != x229.1) rfl (fun hc245 => ?_) (fun hc245 => ?_)
                        · replace h := ip h hc245
                          refine W.seq (W.region ?_)
                          refine WL.val (Value.bool false) _ (op_assign rfl) rfl ?_
                          refine WL.nil ?_
                          refine W.ret ?_
                          obtain rfl := Option.some.inj h
                          show FinP _ _ _ _ _ _ _
                          exact FinP.ret _ (res1 rfl rfl) ⟨rfl, (Ext.trans hE53 hS242.ext)⟩
                        · replace h := inegb h hc245
                          refine W.skip ?_
                          refine W.seq (W.region ?_)
                          refine WL.val (Value.agg #[v_aR_Table]) _ (op_loadBox st_24 hf221 (BoxAt.lift (Ext.trans hE54 hS242.ext) hx6) rfl rfl) rfl ?_
                          obtain ⟨x247, hx248, h⟩ := bs h
                          refine WL.call _ (op_call fn_9 (args1 rfl)) (c_laws_toRing (Ty.lift _ (Ext.trans hE53 hS242.ext) r_aR_Table) hx248) rfl ?_
                          rintro _ wd250 ⟨u249, rfl, he251, hs252⟩
                          have hS253 := St.join hS242 he251 hs252
                          replace hS253 : St wd48 wd250 [(Ty.sl (Ty.i .i64)).at u80 x229.2, (Ty.sl (Ty.sl (Ty.sl (Ty.i .i64)))).at u249 x247] := hS253
                          refine WL.val v_aX _ (op_move hf220) rfl ?_
                          obtain ⟨x254, hx255, h⟩ := bs h
                          refine WL.call _ (op_call fn_10 (args1 rfl)) (c_laws_toInt64S (Ty.lift _ (Ext.trans hE53 hS253.ext) r_aX) hx255) rfl ?_
                          rintro u256 wd257 ⟨_, rfl, he258, hs259⟩
                          have hS260 := St.join hS253 he258 hs259
                          replace hS260 : St wd48 wd257 [(Ty.sl (Ty.i .i64)).at u80 x229.2, (Ty.sl (Ty.sl (Ty.sl (Ty.i .i64)))).at u249 x247, (Ty.sl (Ty.i .i64)).at u256 x254] := hS260
                          obtain ⟨x261, hx262, h⟩ := bs h
                          refine WL.call _ (op_call fn_19 (args2 rfl rfl)) (c_impl_DualCharacter (St.rep (t := (Ty.sl (Ty.sl (Ty.sl (Ty.i .i64))))) hS260 1 rfl) (St.rep (t := (Ty.sl (Ty.i .i64))) hS260 2 rfl) hx262) rfl ?_
                          rintro _ wd265 ⟨u263, rfl, hr264, he266, hs267⟩
                          have hS268 := St.join hS260 he266 hs267
                          replace hS268 : St wd48 wd265 [(Ty.sl (Ty.i .i64)).at u80 x229.2, (Ty.sl (Ty.sl (Ty.sl (Ty.i .i64)))).at u249 x247, (Ty.sl (Ty.i .i64)).at u256 x254, (Ty.sl (Ty.i .i64)).at u263 x261.1] := hS268
                          refine WL.val (Value.tuple #[u263, (Value.int .i64 x261.2)]) _ (op_move rfl) rfl ?_
                          refine WL.val u263 _ (op_extract rfl rfl) rfl ?_
                          refine WL.val (Value.int .i64 x261.2) _ (op_extract rfl rfl) rfl ?_
                          refine WL.val u263 _ (op_assign rfl) rfl ?_
                          refine WL.val (Value.int .i64 x261.2) _ (op_assign rfl) rfl ?_
                          refine WL.nil ?_
                          refine W.seq (W.seq (W.region ?_))
                          refine WL.val u263 _ (op_move rfl) rfl ?_
                          refine WL.val u46 _ (op_move hf222) rfl ?_
                          obtain ⟨x269, hx270, h⟩ := bs h
                          refine WL.call _ (op_call fn_13 (args2 rfl rfl)) (c_laws_eqInt64S (St.rep (t := (Ty.sl (Ty.i .i64))) hS268 3 rfl) (Ty.lift _ hS268.ext hb52) hx270) rfl ?_
                          rintro _ wd271 ⟨rfl, he272⟩
                          have hS274 := St.extend hS268 he272
                          replace hS274 : St wd48 wd271 [(Ty.sl (Ty.i .i64)).at u80 x229.2, (Ty.sl (Ty.sl (Ty.sl (Ty.i .i64)))).at u249 x247, (Ty.sl (Ty.i .i64)).at u256 x254, (Ty.sl (Ty.i .i64)).at u263 x261.1] := hS274
                          refine WL.val (Value.bool (!x269)) _ (op_not rfl) rfl ?_
                          refine WL.val (Value.bool (!x269)) _ (op_move rfl) rfl ?_
                          refine WL.cut 4 (fun fq wq => fq 10 = u80 ∧ fq 13 = (Value.int .i64 x229.1) ∧ fq 108 = (Value.bool ((!x269) || (x261.2 != x44.2))) ∧ St wd48 wq [(Ty.sl (Ty.i .i64)).at u80 x229.2]) ?_ ?_
                          · rcases Bool.eq_false_or_eq_true (!x269) with hc275 | hc275
                            · refine WL.gskip rfl (bool_of rfl hc275) rfl ?_
                              refine WL.gskip rfl (bool_of rfl hc275) rfl ?_
                              refine WL.gskip rfl (bool_of rfl hc275) rfl ?_
                              refine WL.val (Value.bool true) _ (op_pick_t (evb_of rfl hc275) rfl) rfl ?_
                              refine WL.nil ?_
                              exact ⟨rfl, hf224, rfl, (orT hc275), (St.pick hS274 [0] rfl)⟩
                            · refine WL.grun rfl (bool_of rfl hc275) ?_
                              refine WL.val (Value.int .i64 x261.2) _ (op_move rfl) rfl ?_
                              refine WL.grun rfl (bool_of rfl hc275) ?_
                              refine WL.val (Value.int .i64 x44.2) _ (op_move hf223) rfl ?_
                              refine WL.grun rfl (bool_of rfl hc275) ?_
                              refine WL.val (Value.bool (x261.2 != x44.2)) _ (op_neq rfl rfl) rfl ?_
                              refine WL.val (Value.bool (x261.2 != x44.2)) _ (op_pick_f (evb_of rfl hc275) rfl) rfl ?_
                              refine WL.nil ?_
                              exact ⟨rfl, hf224, rfl, (orF hc275), (St.pick hS274 [0] rfl)⟩
                          · intro f276 wd277 hq278
                            obtain ⟨hf279, hf280, hf281, hS282⟩ := hq278
                            refine WL.nil ?_
                            refine W.cond ((!x269) || (x261.2 != x44.2)) hf281 (fun hc283 => ?_) (fun hc283 => ?_)
                            · replace h := ip h hc283
                              refine W.seq (W.region ?_)
                              refine WL.val (Value.bool false) _ (op_assign rfl) rfl ?_
                              refine WL.nil ?_
                              refine W.ret ?_
                              obtain rfl := Option.some.inj h
                              show FinP _ _ _ _ _ _ _
                              exact FinP.ret _ (res1 rfl rfl) ⟨rfl, (Ext.trans hE53 hS282.ext)⟩
                            · replace h := inegb h hc283
                              refine W.skip ?_
                              refine W.seq (W.region ?_)
                              refine WL.val (Value.int .i64 (1 : Int)) _ (op_assign rfl) rfl ?_
                              refine WL.nil ?_
                              refine W.seq (W.region ?_)
                              refine WL.val u80 _ (op_move hf279) rfl ?_
                              refine WL.val (Value.int .i64 (1 : Int)) _ (op_move rfl) rfl ?_
                              obtain ⟨x285, hx286, h⟩ := bs h
                              refine WL.call _ (op_call fn_22 (args2 rfl rfl)) (c_laws_heldInt64S (St.rep (t := (Ty.sl (Ty.i .i64))) hS282 0 rfl) (inL rfl) hx286) rfl ?_
                              rintro _ wd288 ⟨rfl, hr287, he289⟩
                              have hS291 := St.extend hS282 he289
                              replace hS291 : St wd48 wd288 [(Ty.sl (Ty.i .i64)).at u80 x229.2] := hS291
                              refine WL.val (Value.int .i64 x285) _ (op_assign rfl) rfl ?_
                              refine WL.nil ?_
                              refine W.seq (W.seq (W.region ?_))
                              refine WL.val (Value.int .i64 x285) _ (op_move rfl) rfl ?_
                              refine WL.val (Value.bool (decide (x285 < (0 : Int)))) _ (op_lss rfl rfl) rfl ?_
                              refine WL.nil ?_
                              refine W.cond (decide (x285 < (0 : Int))) rfl (fun hc292 => ?_) (fun hc292 => ?_)
                              · replace h := ip h hc292
                                refine W.seq (W.region ?_)
                                refine WL.val (Value.bool false) _ (op_assign rfl) rfl ?_
                                refine WL.nil ?_
                                refine W.ret ?_
                                obtain rfl := Option.some.inj h
                                show FinP _ _ _ _ _ _ _
                                exact FinP.ret _ (res1 rfl rfl) ⟨rfl, (Ext.trans hE53 hS291.ext)⟩
                              · replace h := inegb h hc292
                                refine W.skip ?_
                                refine W.seq (W.seq (W.region ?_))
                                refine WL.val (Value.int .i64 x285) _ (op_move rfl) rfl ?_
                                refine WL.val (Value.int .i64 x229.1) _ (op_move hf280) rfl ?_
                                refine WL.val (Value.bool (x285 != x229.1)) _ (op_neq rfl rfl) rfl ?_
                                refine WL.nil ?_
                                refine W.cond (x285 != x229.1) rfl (fun hc294 => ?_) (fun hc294 => ?_)
                                · replace h := ip h hc294
                                  refine W.seq (W.region ?_)
                                  refine WL.val (Value.bool false) _ (op_assign rfl) rfl ?_
                                  refine WL.nil ?_
                                  refine W.ret ?_
                                  obtain rfl := Option.some.inj h
                                  show FinP _ _ _ _ _ _ _
                                  exact FinP.ret _ (res1 rfl rfl) ⟨rfl, (Ext.trans hE53 hS291.ext)⟩
                                · replace h := inegb h hc294
                                  refine W.skip ?_
                                  refine W.seq (W.region ?_)
                                  refine WL.val (Value.bool true) _ (op_assign rfl) rfl ?_
                                  refine WL.nil ?_
                                  refine W.ret ?_
                                  obtain rfl := Option.some.inj h
                                  show FinP _ _ _ _ _ _ _
                                  exact FinP.ret _ (res1 rfl rfl) ⟨rfl, (Ext.trans hE53 hS291.ext)⟩

end Go.VG
