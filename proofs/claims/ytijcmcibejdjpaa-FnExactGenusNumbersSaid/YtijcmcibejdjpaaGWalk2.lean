/- The walks, part 2: each Go function returns what its plain twin returns. No condition beyond what each names. -/
import Derived.Test.YtijcmcibejdjpaaGWalk1
set_option linter.all false
namespace Go.VG
open Go.Proofs
attribute [local irreducible] W WL Sep FinP

theorem c_spec_l01Same {w : World} {a : (List Int)} {v_a : Value} {b : (List Int)} {v_b : Value} (r_a : (Ty.sl (Ty.i .i64)).rep w v_a a) (r_b : (Ty.sl (Ty.i .i64)).rep w v_b b) {res : Bool} (h : p_spec_l01Same a b  = some res) :
    Ret Try.prog 72 #[v_a, v_b] w (fun v w' => v = Value.bool res ∧ Ext w w') := by
  unfold p_spec_l01Same at h
  have hS0 : St w w [] := St.start w
  refine Ret.start (fn := Try.f72) Try.func72 rfl 26 rfl rfl ?_
  refine W.seq (W.region ?_)
  refine WL.val (Value.bool false) _ (op_assign rfl) rfl ?_
  refine WL.nil ?_
  show W _ _ _ _ _ _
  refine W.seq (W.seq (W.region ?_))
  refine WL.val v_a _ (op_move rfl) rfl ?_
  have hr1 := inR_len (Ty.lift _ hS0.ext r_a)
  refine WL.val (Value.int .i64 ((a).length : Int)) _ (op_lenL sl_25 (Ty.lift _ hS0.ext r_a) rfl) rfl ?_
  refine WL.val v_b _ (op_move rfl) rfl ?_
  have hr2 := inR_len (Ty.lift _ hS0.ext r_b)
  refine WL.val (Value.int .i64 ((b).length : Int)) _ (op_lenL sl_25 (Ty.lift _ hS0.ext r_b) rfl) rfl ?_
  refine WL.val (Value.bool (((a).length : Int) != ((b).length : Int))) _ (op_neq rfl rfl) rfl ?_
  refine WL.nil ?_
  show W _ _ _ _ _ _
  refine W.cond (((a).length : Int) != ((b).length : Int)) rfl (fun hc3 => ?_) (fun hc3 => ?_)
  · replace h := ip h hc3
    refine W.seq (W.region ?_)
    refine WL.val (Value.bool false) _ (op_assign rfl) rfl ?_
    refine WL.nil ?_
    show W _ _ _ _ _ _
    refine W.ret ?_
    obtain rfl := Option.some.inj h
    show FinP _ _ _ _ _ _ _
    exact FinP.ret _ (res1 rfl rfl) ⟨rfl, hS0.ext⟩
  · replace h := inegb h hc3
    refine W.skip ?_
    show W _ _ _ _ _ _
    refine W.seq (W.seq (W.region ?_))
    refine WL.val (Value.int .i64 (0 : Int)) _ (op_assign rfl) rfl ?_
    refine WL.nil ?_
    show W _ _ _ _ _ _
    obtain ⟨res5, hres6, h⟩ := bs h
    refine W.blockLoop (fun fq wq => ∃ s, res5 = Res.fin s ∧ St w wq []) ?_ ?_
    · refine W.forN (fun k (s : Unit) fq wq => fq 0 = v_a ∧ fq 1 = v_b ∧ fq 5 = Value.int .i64 (k : Int) ∧ InR .i64 (k : Int) ∧ St w wq []) hres6 ⟨rfl, rfl, rfl, (inR_i64.2 (show (-9223372036854775808 : Int) ≤ 0 ∧ (0 : Int) ≤ 9223372036854775807 from by decide)), hS0⟩ ?_ ?_
      · intro k7 s134 ct8 f9 wd10 hk11 hb12 hI13 hbrk14 hret15
        obtain ⟨⟩ := s134
        replace hI13 : f9 0 = v_a ∧ f9 1 = v_b ∧ f9 5 = Value.int .i64 (k7 : Int) ∧ InR .i64 (k7 : Int) ∧ St w wd10 [] := hI13
        replace hb12 : p_spec_l01Same_L1 a b k7  = some ct8 := hb12
        unfold p_spec_l01Same_L1 at hb12
        obtain ⟨hf16, hf17, hf18, hr19, hS20⟩ := hI13
        refine W.seq (W.seq (W.region ?_))
        refine WL.val (Value.int .i64 (k7 : Int)) _ (op_move hf18) rfl ?_
        refine WL.val v_a _ (op_move hf16) rfl ?_
        have hr21 := inR_len (Ty.lift _ hS20.ext r_a)
        refine WL.val (Value.int .i64 ((a).length : Int)) _ (op_lenL sl_25 (Ty.lift _ hS20.ext r_a) rfl) rfl ?_
        refine WL.val (Value.bool (decide ((k7 : Int) < ((a).length : Int)))) _ (op_lss rfl rfl) rfl ?_
        have hl22 : (k7 : Int) < ((a).length : Int) := by omega
        refine WL.nil ?_
        show W _ _ _ _ _ _
        refine W.condT (decide ((k7 : Int) < ((a).length : Int))) rfl (decide_eq_true hl22) ?_
        refine W.skip ?_
        show W _ _ _ _ _ _
        refine W.seq ?_
        refine W.block ?_
        refine W.seq ?_
        obtain ⟨x53, hx56, hb12⟩ := bs hb12
        obtain ⟨ha54, hb55, hx56⟩ := idx_some hx56
        obtain ⟨u67, hc68, hr69⟩ := repSl.el r_a hx56
        obtain ⟨rfl, hr69⟩ := hr69
        obtain ⟨x99, hx102, hb12⟩ := bs hb12
        obtain ⟨ha100, hb101, hx102⟩ := idx_some hx102
        obtain ⟨u113, hc114, hr115⟩ := repSl.el r_b hx102
        obtain ⟨rfl, hr115⟩ := hr115
        refine W.drawR mixo 8 [] [fun _ v _ _ => v = v_a, fun _ v _ _ => v = (Value.int .i64 (k7 : Int)) ∧ InR .i64 (k7 : Int), fun _ v _ _ => v = (Value.pointer (some (elA v_a ((k7 : Int)).toNat))), fun _ v _ _ => v = (Value.int .i64 x53) ∧ InR .i64 x53, fun _ v _ _ => v = v_b, fun _ v _ _ => v = (Value.int .i64 (k7 : Int)) ∧ InR .i64 (k7 : Int), fun _ v _ _ => v = (Value.pointer (some (elA v_b ((k7 : Int)).toNat))), fun _ v _ _ => v = (Value.int .i64 x99) ∧ InR .i64 x99] (by kernel_rfl) (by kernel_rfl) ⟨⟨fun _ _ _ _ _ _ h => h, fun _ _ _ _ _ _ h => h⟩, ⟨fun _ _ _ _ _ _ h => h, fun _ _ _ _ _ _ h => h⟩, ⟨fun _ _ _ _ _ _ h => h, fun _ _ _ _ _ _ h => h⟩, ⟨fun _ _ _ _ _ _ h => h, fun _ _ _ _ _ _ h => h⟩, ⟨fun _ _ _ _ _ _ h => h, fun _ _ _ _ _ _ h => h⟩, ⟨fun _ _ _ _ _ _ h => h, fun _ _ _ _ _ _ h => h⟩, ⟨fun _ _ _ _ _ _ h => h, fun _ _ _ _ _ _ h => h⟩, ⟨fun _ _ _ _ _ _ h => h, fun _ _ _ _ _ _ h => h⟩, trivial⟩ ⟨?_, ?_, ?_, ?_, ?_, ?_, ?_, ?_, trivial⟩ ?_
        · refine ObX.op rfl ?_
          intro f24 wd25 he26 hout27 hphi28
          have hS29 : St w wd25 [] := St.extend hS20 he26
          have e30 : f24 0 = v_a := (hout27 0 rfl).trans hf16
          exact OpX.val v_a wd25 rfl (op_move e30) (Ext.refl _) rfl
        · refine ObX.op rfl ?_
          intro f31 wd32 he33 hout34 hphi35
          have hS36 : St w wd32 [] := St.extend hS20 he33
          have e37 : f31 5 = (Value.int .i64 (k7 : Int)) := (hout34 5 rfl).trans hf18
          exact OpX.val (Value.int .i64 (k7 : Int)) wd32 rfl (op_move e37) (Ext.refl _) ⟨rfl, hr19⟩
        · refine ObX.op rfl ?_
          intro f38 wd39 he40 hout41 hphi42
          have hS43 : St w wd39 [] := St.extend hS20 he40
          obtain ⟨S44, hS45, hf46⟩ := hphi42 0 17 _ rfl rfl rfl
          have e47 : f38 17 = v_a := hf46
          obtain ⟨S48, hS49, hf50⟩ := hphi42 1 18 _ rfl rfl rfl
          obtain ⟨e51, hr52⟩ : f38 18 = (Value.int .i64 (k7 : Int)) ∧ InR .i64 (k7 : Int) := hf50
          exact OpX.val (Value.pointer (some (elA v_a ((k7 : Int)).toNat))) wd39 rfl (op_idx sl_25 (Ty.lift _ hS43.ext r_a) e47 e51 ha54 hb55) (Ext.refl _) rfl
        · refine ObX.op rfl ?_
          intro f57 wd58 he59 hout60 hphi61
          have hS62 : St w wd58 [] := St.extend hS20 he59
          obtain ⟨S63, hS64, hf65⟩ := hphi61 2 19 _ rfl rfl rfl
          have e66 : f57 19 = (Value.pointer (some (elA v_a ((k7 : Int)).toNat))) := hf65
          exact OpX.val (Value.int .i64 x53) wd58 rfl (op_load one_2 e66 (Ext.cell hS62.ext hc68)) (Ext.refl _) ⟨rfl, hr69⟩
        · refine ObX.op rfl ?_
          intro f70 wd71 he72 hout73 hphi74
          have hS75 : St w wd71 [] := St.extend hS20 he72
          have e76 : f70 1 = v_b := (hout73 1 rfl).trans hf17
          exact OpX.val v_b wd71 rfl (op_move e76) (Ext.refl _) rfl
        · refine ObX.op rfl ?_
          intro f77 wd78 he79 hout80 hphi81
          have hS82 : St w wd78 [] := St.extend hS20 he79
          have e83 : f77 5 = (Value.int .i64 (k7 : Int)) := (hout80 5 rfl).trans hf18
          exact OpX.val (Value.int .i64 (k7 : Int)) wd78 rfl (op_move e83) (Ext.refl _) ⟨rfl, hr19⟩
        · refine ObX.op rfl ?_
          intro f84 wd85 he86 hout87 hphi88
          have hS89 : St w wd85 [] := St.extend hS20 he86
          obtain ⟨S90, hS91, hf92⟩ := hphi88 4 21 _ rfl rfl rfl
          have e93 : f84 21 = v_b := hf92
          obtain ⟨S94, hS95, hf96⟩ := hphi88 5 22 _ rfl rfl rfl
          obtain ⟨e97, hr98⟩ : f84 22 = (Value.int .i64 (k7 : Int)) ∧ InR .i64 (k7 : Int) := hf96
          exact OpX.val (Value.pointer (some (elA v_b ((k7 : Int)).toNat))) wd85 rfl (op_idx sl_25 (Ty.lift _ hS89.ext r_b) e93 e97 ha100 hb101) (Ext.refl _) rfl
        · refine ObX.op rfl ?_
          intro f103 wd104 he105 hout106 hphi107
          have hS108 : St w wd104 [] := St.extend hS20 he105
          obtain ⟨S109, hS110, hf111⟩ := hphi107 6 23 _ rfl rfl rfl
          have e112 : f103 23 = (Value.pointer (some (elA v_b ((k7 : Int)).toNat))) := hf111
          exact OpX.val (Value.int .i64 x99) wd104 rfl (op_load one_2 e112 (Ext.cell hS108.ext hc114)) (Ext.refl _) ⟨rfl, hr115⟩
        · intro f116 wd117 Ss118 he119 hout120 hSn121 hSd122 hphi123
          show WL _ _ _ _ _ _ _
          have hS124 : St w wd117 [] := St.extend hS20 he119
          obtain ⟨e125, hr126⟩ : f116 20 = (Value.int .i64 x53) ∧ InR .i64 x53 := hphi123 3 20 _ (by decide) rfl rfl
          obtain ⟨e127, hr128⟩ : f116 24 = (Value.int .i64 x99) ∧ InR .i64 x99 := hphi123 7 24 _ (by decide) rfl rfl
          have e129 : f116 0 = v_a := (hout120 0 rfl).trans hf16
          have e130 : f116 1 = v_b := (hout120 1 rfl).trans hf17
          have e131 : f116 5 = (Value.int .i64 (k7 : Int)) := (hout120 5 rfl).trans hf18
          refine WL.val (Value.bool (x53 != x99)) _ (op_neq e125 e127) rfl ?_
          refine WL.nil ?_
          show W _ _ _ _ _ _
          refine W.cond (x53 != x99) rfl (fun hc132 => ?_) (fun hc132 => ?_)
          · replace hb12 := ip hb12 hc132
            refine W.seq (W.region ?_)
            refine WL.val (Value.bool false) _ (op_assign rfl) rfl ?_
            refine WL.nil ?_
            show W _ _ _ _ _ _
            refine W.ret ?_
            obtain rfl := Option.some.inj hb12
            obtain rfl := hret15 _ rfl
            replace h := onRes_ret h
            obtain rfl := Option.some.inj h
            show FinP _ _ _ _ _ _ _
            exact FinP.ret _ (res1 rfl rfl) ⟨rfl, hS124.ext⟩
          · replace hb12 := inegb hb12 hc132
            refine W.skip ?_
            show W _ _ _ _ _ _
            refine W.region ?_
            refine WL.val (Value.int .i64 (k7 : Int)) _ (op_move e131) rfl ?_
            refine WL.val (Value.int .i64 (w64 ((k7 : Int) + (1 : Int)))) _ (op_add rfl rfl) rfl ?_
            refine WL.val (Value.int .i64 (w64 ((k7 : Int) + (1 : Int)))) _ (op_assign rfl) rfl ?_
            refine WL.nil ?_
            obtain rfl := Option.some.inj hb12
            show ∃ s, _ = Ctl.next s ∧ _
            exact ⟨_, rfl, e129, e130, (ctr_next hl22 hr21), (ctr_rng hl22 hr21), hS124⟩
      · intro s139 f135 wd136 hs137 hI138
        obtain ⟨⟩ := s139
        replace hI138 : f135 0 = v_a ∧ f135 1 = v_b ∧ f135 5 = Value.int .i64 (((a).length : Nat) : Int) ∧ InR .i64 (((a).length : Nat) : Int) ∧ St w wd136 [] := hI138
        obtain ⟨hf140, hf141, hf142, hr143, hS144⟩ := hI138
        refine W.seq (W.seq (W.region ?_))
        refine WL.val (Value.int .i64 (((a).length : Nat) : Int)) _ (op_move hf142) rfl ?_
        refine WL.val v_a _ (op_move hf140) rfl ?_
        have hr145 := inR_len (Ty.lift _ hS144.ext r_a)
        refine WL.val (Value.int .i64 ((a).length : Int)) _ (op_lenL sl_25 (Ty.lift _ hS144.ext r_a) rfl) rfl ?_
        refine WL.val (Value.bool (decide ((((a).length : Nat) : Int) < ((a).length : Int)))) _ (op_lss rfl rfl) rfl ?_
        have hl146 : ¬ (((a).length : Nat) : Int) < ((a).length : Int) := by omega
        refine WL.nil ?_
        show W _ _ _ _ _ _
        refine W.condF (decide ((((a).length : Nat) : Int) < ((a).length : Int))) rfl (decide_eq_false hl146) ?_
        refine W.exit ?_
        show _ = _ ∧ _
        exact ⟨rfl, _, hs137, hS144⟩
    · rintro f147 wd148 ⟨s150, rfl, hq149⟩
      replace h := onRes_fin h
      obtain ⟨⟩ := s150
      replace hq149 : St w wd148 [] := hq149
      have hS151 := hq149
      show W _ _ _ _ _ _
      refine W.seq (W.region ?_)
      refine WL.val (Value.bool true) _ (op_assign rfl) rfl ?_
      refine WL.nil ?_
      show W _ _ _ _ _ _
      refine W.ret ?_
      obtain rfl := Option.some.inj h
      show FinP _ _ _ _ _ _ _
      exact FinP.ret _ (res1 rfl rfl) ⟨rfl, hS151.ext⟩

theorem c_spec_l03Commutative {w : World} {r_Table : (List (List (List Int)))} {v_r_Table : Value} (r_r_Table : (Ty.sl (Ty.sl (Ty.sl (Ty.i .i64)))).rep w v_r_Table r_Table) {res : Bool} (h : p_spec_l03Commutative r_Table  = some res) :
    Ret Try.prog 46 #[(Value.agg #[v_r_Table])] w (fun v w' => v = Value.bool res ∧ Ext w w') := by
  unfold p_spec_l03Commutative at h
  have hS0 : St w w [] := St.start w
  refine Ret.start (fn := Try.f46) Try.func46 rfl 35 rfl rfl ?_
  refine W.seq (W.region ?_)
  refine WL.box hS0 rfl (cs := [v_r_Table]) rfl rfl ?_
  intro b1 wd2 hS3 he4 hx5
  replace hS3 : St w wd2 [bx b1 [v_r_Table]] := hS3
  have hx6 := St.boxAt hS3 0 rfl
  have hE7 : Ext w wd2 := hS3.ext
  have hS8 : St wd2 wd2 [] := St.start wd2
  refine WL.val (Value.bool false) _ (op_assign rfl) rfl ?_
  refine WL.nil ?_
  show W _ _ _ _ _ _
  refine W.seq (W.seq (W.region ?_))
  refine WL.val (Value.int .i64 (0 : Int)) _ (op_assign rfl) rfl ?_
  refine WL.nil ?_
  show W _ _ _ _ _ _
  obtain ⟨res9, hres10, h⟩ := bs h
  refine W.blockLoop (fun fq wq => ∃ s, res9 = Res.fin s ∧ St wd2 wq []) ?_ ?_
  · refine W.forN (fun k (s : Unit) fq wq => fq 1 = (Value.pointer (some ⟨b1, 0, none⟩)) ∧ fq 3 = Value.int .i64 (k : Int) ∧ InR .i64 (k : Int) ∧ St wd2 wq []) hres10 ⟨rfl, rfl, (inR_i64.2 (show (-9223372036854775808 : Int) ≤ 0 ∧ (0 : Int) ≤ 9223372036854775807 from by decide)), hS8⟩ ?_ ?_
    · intro k11 s277 ct12 f13 wd14 hk15 hb16 hI17 hbrk18 hret19
      obtain ⟨⟩ := s277
      replace hI17 : f13 1 = (Value.pointer (some ⟨b1, 0, none⟩)) ∧ f13 3 = Value.int .i64 (k11 : Int) ∧ InR .i64 (k11 : Int) ∧ St wd2 wd14 [] := hI17
      replace hb16 : p_spec_l03Commutative_L1 r_Table k11  = some ct12 := hb16
      unfold p_spec_l03Commutative_L1 at hb16
      obtain ⟨hf20, hf21, hr22, hS23⟩ := hI17
      refine W.seq (W.seq (W.region ?_))
      refine WL.val (Value.int .i64 (k11 : Int)) _ (op_move hf21) rfl ?_
      refine WL.val (Value.pointer (some ⟨b1, 0, none⟩)) _ (op_fieldAddr fd_29_0 hf20) rfl ?_
      refine WL.val v_r_Table _ (op_load one_22 rfl (BoxAt.cell (BoxAt.lift hS23.ext hx6) rfl)) rfl ?_
      have hr24 := inR_len (Ty.lift _ (Ext.trans hE7 hS23.ext) r_r_Table)
      refine WL.val (Value.int .i64 ((r_Table).length : Int)) _ (op_lenL sl_22 (Ty.lift _ (Ext.trans hE7 hS23.ext) r_r_Table) rfl) rfl ?_
      refine WL.val (Value.bool (decide ((k11 : Int) < ((r_Table).length : Int)))) _ (op_lss rfl rfl) rfl ?_
      have hl25 : (k11 : Int) < ((r_Table).length : Int) := by omega
      refine WL.nil ?_
      show W _ _ _ _ _ _
      refine W.condT (decide ((k11 : Int) < ((r_Table).length : Int))) rfl (decide_eq_true hl25) ?_
      refine W.skip ?_
      show W _ _ _ _ _ _
      refine W.seq ?_
      refine W.block ?_
      refine W.seq (W.region ?_)
      refine WL.val (Value.int .i64 (0 : Int)) _ (op_assign rfl) rfl ?_
      refine WL.nil ?_
      show W _ _ _ _ _ _
      obtain ⟨res27, hres28, hb16⟩ := bs hb16
      refine W.blockLoop (fun fq wq => ∃ s, res27 = Res.fin s ∧ fq 1 = (Value.pointer (some ⟨b1, 0, none⟩)) ∧ fq 3 = (Value.int .i64 (k11 : Int)) ∧ St wd2 wq []) ?_ ?_
      · refine W.forN (fun k (s : Unit) fq wq => fq 1 = (Value.pointer (some ⟨b1, 0, none⟩)) ∧ fq 3 = (Value.int .i64 (k11 : Int)) ∧ fq 4 = Value.int .i64 (k : Int) ∧ InR .i64 (k : Int) ∧ St wd2 wq []) hres28 ⟨hf20, hf21, rfl, (inR_i64.2 (show (-9223372036854775808 : Int) ≤ 0 ∧ (0 : Int) ≤ 9223372036854775807 from by decide)), hS23⟩ ?_ ?_
        · intro k29 s257 ct30 f31 wd32 hk33 hb34 hI35 hbrk36 hret37
          obtain ⟨⟩ := s257
          replace hI35 : f31 1 = (Value.pointer (some ⟨b1, 0, none⟩)) ∧ f31 3 = (Value.int .i64 (k11 : Int)) ∧ f31 4 = Value.int .i64 (k29 : Int) ∧ InR .i64 (k29 : Int) ∧ St wd2 wd32 [] := hI35
          replace hb34 : p_spec_l03Commutative_L2 r_Table k11 k29  = some ct30 := hb34
          unfold p_spec_l03Commutative_L2 at hb34
          obtain ⟨hf38, hf39, hf40, hr41, hS42⟩ := hI35
          refine W.seq (W.seq (W.region ?_))
          refine WL.val (Value.int .i64 (k29 : Int)) _ (op_move hf40) rfl ?_
          refine WL.val (Value.int .i64 (k11 : Int)) _ (op_move hf39) rfl ?_
          refine WL.val (Value.bool (decide ((k29 : Int) < (k11 : Int)))) _ (op_lss rfl rfl) rfl ?_
          have hl43 : (k29 : Int) < (k11 : Int) := by omega
          refine WL.nil ?_
          show W _ _ _ _ _ _
          refine W.condT (decide ((k29 : Int) < (k11 : Int))) rfl (decide_eq_true hl43) ?_
          refine W.skip ?_
          show W _ _ _ _ _ _
          refine W.seq ?_
          refine W.block ?_
          refine W.seq ?_
          obtain ⟨x84, hx87, hb34⟩ := bs hb34
          obtain ⟨ha85, hb86, hx87⟩ := idx_some hx87
          obtain ⟨u98, hc99, hr100⟩ := repSl.el r_r_Table hx87
          obtain ⟨x123, hx126, hb34⟩ := bs hb34
          obtain ⟨ha124, hb125, hx126⟩ := idx_some hx126
          obtain ⟨u137, hc138, hr139⟩ := repSl.el hr100 hx126
          obtain ⟨x179, hx182, hb34⟩ := bs hb34
          obtain ⟨ha180, hb181, hx182⟩ := idx_some hx182
          obtain ⟨u193, hc194, hr195⟩ := repSl.el r_r_Table hx182
          obtain ⟨x218, hx221, hb34⟩ := bs hb34
          obtain ⟨ha219, hb220, hx221⟩ := idx_some hx221
          obtain ⟨u232, hc233, hr234⟩ := repSl.el hr195 hx221
          refine W.drawR mixo 16 [] [fun _ v _ _ => v = (Value.pointer (some ⟨b1, 0, none⟩)), fun _ v _ _ => v = v_r_Table, fun _ v _ _ => v = (Value.int .i64 (k11 : Int)) ∧ InR .i64 (k11 : Int), fun _ v _ _ => v = (Value.pointer (some (elA v_r_Table ((k11 : Int)).toNat))), fun _ v _ _ => v = u98, fun _ v _ _ => v = (Value.int .i64 (k29 : Int)) ∧ InR .i64 (k29 : Int), fun _ v _ _ => v = (Value.pointer (some (elA u98 ((k29 : Int)).toNat))), fun _ v _ _ => v = u137, fun _ v _ _ => v = (Value.pointer (some ⟨b1, 0, none⟩)), fun _ v _ _ => v = v_r_Table, fun _ v _ _ => v = (Value.int .i64 (k29 : Int)) ∧ InR .i64 (k29 : Int), fun _ v _ _ => v = (Value.pointer (some (elA v_r_Table ((k29 : Int)).toNat))), fun _ v _ _ => v = u193, fun _ v _ _ => v = (Value.int .i64 (k11 : Int)) ∧ InR .i64 (k11 : Int), fun _ v _ _ => v = (Value.pointer (some (elA u193 ((k11 : Int)).toNat))), fun _ v _ _ => v = u232] (by kernel_rfl) (by kernel_rfl) ⟨⟨fun _ _ _ _ _ _ h => h, fun _ _ _ _ _ _ h => h⟩, ⟨fun _ _ _ _ _ _ h => h, fun _ _ _ _ _ _ h => h⟩, ⟨fun _ _ _ _ _ _ h => h, fun _ _ _ _ _ _ h => h⟩, ⟨fun _ _ _ _ _ _ h => h, fun _ _ _ _ _ _ h => h⟩, ⟨fun _ _ _ _ _ _ h => h, fun _ _ _ _ _ _ h => h⟩, ⟨fun _ _ _ _ _ _ h => h, fun _ _ _ _ _ _ h => h⟩, ⟨fun _ _ _ _ _ _ h => h, fun _ _ _ _ _ _ h => h⟩, ⟨fun _ _ _ _ _ _ h => h, fun _ _ _ _ _ _ h => h⟩, ⟨fun _ _ _ _ _ _ h => h, fun _ _ _ _ _ _ h => h⟩, ⟨fun _ _ _ _ _ _ h => h, fun _ _ _ _ _ _ h => h⟩, ⟨fun _ _ _ _ _ _ h => h, fun _ _ _ _ _ _ h => h⟩, ⟨fun _ _ _ _ _ _ h => h, fun _ _ _ _ _ _ h => h⟩, ⟨fun _ _ _ _ _ _ h => h, fun _ _ _ _ _ _ h => h⟩, ⟨fun _ _ _ _ _ _ h => h, fun _ _ _ _ _ _ h => h⟩, ⟨fun _ _ _ _ _ _ h => h, fun _ _ _ _ _ _ h => h⟩, ⟨fun _ _ _ _ _ _ h => h, fun _ _ _ _ _ _ h => h⟩, trivial⟩ ⟨?_, ?_, ?_, ?_, ?_, ?_, ?_, ?_, ?_, ?_, ?_, ?_, ?_, ?_, ?_, ?_, trivial⟩ ?_
          · refine ObX.op rfl ?_
            intro f45 wd46 he47 hout48 hphi49
            have hS50 : St wd2 wd46 [] := St.extend hS42 he47
            have e51 : f45 1 = (Value.pointer (some ⟨b1, 0, none⟩)) := (hout48 1 rfl).trans hf38
            exact OpX.val (Value.pointer (some ⟨b1, 0, none⟩)) wd46 rfl (op_fieldAddr fd_29_0 e51) (Ext.refl _) rfl
          · refine ObX.op rfl ?_
            intro f52 wd53 he54 hout55 hphi56
            have hS57 : St wd2 wd53 [] := St.extend hS42 he54
            obtain ⟨S58, hS59, hf60⟩ := hphi56 0 17 _ rfl rfl rfl
            have e61 : f52 17 = (Value.pointer (some ⟨b1, 0, none⟩)) := hf60
            exact OpX.val v_r_Table wd53 rfl (op_load one_22 e61 (BoxAt.cell (BoxAt.lift hS57.ext hx6) rfl)) (Ext.refl _) rfl
          · refine ObX.op rfl ?_
            intro f62 wd63 he64 hout65 hphi66
            have hS67 : St wd2 wd63 [] := St.extend hS42 he64
            have e68 : f62 3 = (Value.int .i64 (k11 : Int)) := (hout65 3 rfl).trans hf39
            exact OpX.val (Value.int .i64 (k11 : Int)) wd63 rfl (op_move e68) (Ext.refl _) ⟨rfl, hr22⟩
          · refine ObX.op rfl ?_
            intro f69 wd70 he71 hout72 hphi73
            have hS74 : St wd2 wd70 [] := St.extend hS42 he71
            obtain ⟨S75, hS76, hf77⟩ := hphi73 1 18 _ rfl rfl rfl
            have e78 : f69 18 = v_r_Table := hf77
            obtain ⟨S79, hS80, hf81⟩ := hphi73 2 19 _ rfl rfl rfl
            obtain ⟨e82, hr83⟩ : f69 19 = (Value.int .i64 (k11 : Int)) ∧ InR .i64 (k11 : Int) := hf81
            exact OpX.val (Value.pointer (some (elA v_r_Table ((k11 : Int)).toNat))) wd70 rfl (op_idx sl_22 (Ty.lift _ (Ext.trans hE7 hS74.ext) r_r_Table) e78 e82 ha85 hb86) (Ext.refl _) rfl
          · refine ObX.op rfl ?_
            intro f88 wd89 he90 hout91 hphi92
            have hS93 : St wd2 wd89 [] := St.extend hS42 he90
            obtain ⟨S94, hS95, hf96⟩ := hphi92 3 20 _ rfl rfl rfl
            have e97 : f88 20 = (Value.pointer (some (elA v_r_Table ((k11 : Int)).toNat))) := hf96
            exact OpX.val u98 wd89 rfl (op_load one_40 e97 (Ext.cell (Ext.trans hE7 hS93.ext) hc99)) (Ext.refl _) rfl
          · refine ObX.op rfl ?_
            intro f101 wd102 he103 hout104 hphi105
            have hS106 : St wd2 wd102 [] := St.extend hS42 he103
            have e107 : f101 4 = (Value.int .i64 (k29 : Int)) := (hout104 4 rfl).trans hf40
            exact OpX.val (Value.int .i64 (k29 : Int)) wd102 rfl (op_move e107) (Ext.refl _) ⟨rfl, hr41⟩
          · refine ObX.op rfl ?_
            intro f108 wd109 he110 hout111 hphi112
            have hS113 : St wd2 wd109 [] := St.extend hS42 he110
            obtain ⟨S114, hS115, hf116⟩ := hphi112 4 21 _ rfl rfl rfl
            have e117 : f108 21 = u98 := hf116
            obtain ⟨S118, hS119, hf120⟩ := hphi112 5 22 _ rfl rfl rfl
            obtain ⟨e121, hr122⟩ : f108 22 = (Value.int .i64 (k29 : Int)) ∧ InR .i64 (k29 : Int) := hf120
            exact OpX.val (Value.pointer (some (elA u98 ((k29 : Int)).toNat))) wd109 rfl (op_idx sl_40 (Ty.lift _ (Ext.trans hE7 hS113.ext) hr100) e117 e121 ha124 hb125) (Ext.refl _) rfl
          · refine ObX.op rfl ?_
            intro f127 wd128 he129 hout130 hphi131
            have hS132 : St wd2 wd128 [] := St.extend hS42 he129
            obtain ⟨S133, hS134, hf135⟩ := hphi131 6 23 _ rfl rfl rfl
            have e136 : f127 23 = (Value.pointer (some (elA u98 ((k29 : Int)).toNat))) := hf135
            exact OpX.val u137 wd128 rfl (op_load one_25 e136 (Ext.cell (Ext.trans hE7 hS132.ext) hc138)) (Ext.refl _) rfl
          · refine ObX.op rfl ?_
            intro f140 wd141 he142 hout143 hphi144
            have hS145 : St wd2 wd141 [] := St.extend hS42 he142
            have e146 : f140 1 = (Value.pointer (some ⟨b1, 0, none⟩)) := (hout143 1 rfl).trans hf38
            exact OpX.val (Value.pointer (some ⟨b1, 0, none⟩)) wd141 rfl (op_fieldAddr fd_29_0 e146) (Ext.refl _) rfl
          · refine ObX.op rfl ?_
            intro f147 wd148 he149 hout150 hphi151
            have hS152 : St wd2 wd148 [] := St.extend hS42 he149
            obtain ⟨S153, hS154, hf155⟩ := hphi151 8 25 _ rfl rfl rfl
            have e156 : f147 25 = (Value.pointer (some ⟨b1, 0, none⟩)) := hf155
            exact OpX.val v_r_Table wd148 rfl (op_load one_22 e156 (BoxAt.cell (BoxAt.lift hS152.ext hx6) rfl)) (Ext.refl _) rfl
          · refine ObX.op rfl ?_
            intro f157 wd158 he159 hout160 hphi161
            have hS162 : St wd2 wd158 [] := St.extend hS42 he159
            have e163 : f157 4 = (Value.int .i64 (k29 : Int)) := (hout160 4 rfl).trans hf40
            exact OpX.val (Value.int .i64 (k29 : Int)) wd158 rfl (op_move e163) (Ext.refl _) ⟨rfl, hr41⟩
          · refine ObX.op rfl ?_
            intro f164 wd165 he166 hout167 hphi168
            have hS169 : St wd2 wd165 [] := St.extend hS42 he166
            obtain ⟨S170, hS171, hf172⟩ := hphi168 9 26 _ rfl rfl rfl
            have e173 : f164 26 = v_r_Table := hf172
            obtain ⟨S174, hS175, hf176⟩ := hphi168 10 27 _ rfl rfl rfl
            obtain ⟨e177, hr178⟩ : f164 27 = (Value.int .i64 (k29 : Int)) ∧ InR .i64 (k29 : Int) := hf176
            exact OpX.val (Value.pointer (some (elA v_r_Table ((k29 : Int)).toNat))) wd165 rfl (op_idx sl_22 (Ty.lift _ (Ext.trans hE7 hS169.ext) r_r_Table) e173 e177 ha180 hb181) (Ext.refl _) rfl
          · refine ObX.op rfl ?_
            intro f183 wd184 he185 hout186 hphi187
            have hS188 : St wd2 wd184 [] := St.extend hS42 he185
            obtain ⟨S189, hS190, hf191⟩ := hphi187 11 28 _ rfl rfl rfl
            have e192 : f183 28 = (Value.pointer (some (elA v_r_Table ((k29 : Int)).toNat))) := hf191
            exact OpX.val u193 wd184 rfl (op_load one_40 e192 (Ext.cell (Ext.trans hE7 hS188.ext) hc194)) (Ext.refl _) rfl
          · refine ObX.op rfl ?_
            intro f196 wd197 he198 hout199 hphi200
            have hS201 : St wd2 wd197 [] := St.extend hS42 he198
            have e202 : f196 3 = (Value.int .i64 (k11 : Int)) := (hout199 3 rfl).trans hf39
            exact OpX.val (Value.int .i64 (k11 : Int)) wd197 rfl (op_move e202) (Ext.refl _) ⟨rfl, hr22⟩
          · refine ObX.op rfl ?_
            intro f203 wd204 he205 hout206 hphi207
            have hS208 : St wd2 wd204 [] := St.extend hS42 he205
            obtain ⟨S209, hS210, hf211⟩ := hphi207 12 29 _ rfl rfl rfl
            have e212 : f203 29 = u193 := hf211
            obtain ⟨S213, hS214, hf215⟩ := hphi207 13 30 _ rfl rfl rfl
            obtain ⟨e216, hr217⟩ : f203 30 = (Value.int .i64 (k11 : Int)) ∧ InR .i64 (k11 : Int) := hf215
            exact OpX.val (Value.pointer (some (elA u193 ((k11 : Int)).toNat))) wd204 rfl (op_idx sl_40 (Ty.lift _ (Ext.trans hE7 hS208.ext) hr195) e212 e216 ha219 hb220) (Ext.refl _) rfl
          · refine ObX.op rfl ?_
            intro f222 wd223 he224 hout225 hphi226
            have hS227 : St wd2 wd223 [] := St.extend hS42 he224
            obtain ⟨S228, hS229, hf230⟩ := hphi226 14 31 _ rfl rfl rfl
            have e231 : f222 31 = (Value.pointer (some (elA u193 ((k11 : Int)).toNat))) := hf230
            exact OpX.val u232 wd223 rfl (op_load one_25 e231 (Ext.cell (Ext.trans hE7 hS227.ext) hc233)) (Ext.refl _) rfl
          · intro f235 wd236 Ss237 he238 hout239 hSn240 hSd241 hphi242
            show WL _ _ _ _ _ _ _
            have hS243 : St wd2 wd236 [] := St.extend hS42 he238
            have e244 : f235 24 = u137 := hphi242 7 24 _ (by decide) rfl rfl
            have e245 : f235 32 = u232 := hphi242 15 32 _ (by decide) rfl rfl
            have e246 : f235 1 = (Value.pointer (some ⟨b1, 0, none⟩)) := (hout239 1 rfl).trans hf38
            have e247 : f235 3 = (Value.int .i64 (k11 : Int)) := (hout239 3 rfl).trans hf39
            have e248 : f235 4 = (Value.int .i64 (k29 : Int)) := (hout239 4 rfl).trans hf40
            obtain ⟨x249, hx250, hb34⟩ := bs hb34
            refine WL.call _ (op_call fn_72 (args2 e244 e245)) (c_spec_l01Same (Ty.lift _ (Ext.trans hE7 hS243.ext) hr139) (Ty.lift _ (Ext.trans hE7 hS243.ext) hr234) hx250) rfl ?_
            rintro _ wd251 ⟨rfl, he252⟩
            have hS254 := St.extend hS243 he252
            replace hS254 : St wd2 wd251 [] := hS254
            refine WL.val (Value.bool (!x249)) _ (op_not rfl) rfl ?_
            refine WL.nil ?_
            show W _ _ _ _ _ _
            refine W.cond (!x249) rfl (fun hc255 => ?_) (fun hc255 => ?_)
            · replace hb34 := ip hb34 hc255
              refine W.seq (W.region ?_)
              refine WL.val (Value.bool false) _ (op_assign rfl) rfl ?_
              refine WL.nil ?_
              show W _ _ _ _ _ _
              refine W.ret ?_
              obtain rfl := Option.some.inj hb34
              obtain rfl := hret37 _ rfl
              replace hb16 := onRes_ret hb16
              obtain rfl := Option.some.inj hb16
              obtain rfl := hret19 _ rfl
              replace h := onRes_ret h
              obtain rfl := Option.some.inj h
              show FinP _ _ _ _ _ _ _
              exact FinP.ret _ (res1 rfl rfl) ⟨rfl, (Ext.trans hE7 hS254.ext)⟩
            · replace hb34 := inegb hb34 hc255
              refine W.skip ?_
              show W _ _ _ _ _ _
              refine W.region ?_
              refine WL.val (Value.int .i64 (k29 : Int)) _ (op_move e248) rfl ?_
              refine WL.val (Value.int .i64 (w64 ((k29 : Int) + (1 : Int)))) _ (op_add rfl rfl) rfl ?_
              refine WL.val (Value.int .i64 (w64 ((k29 : Int) + (1 : Int)))) _ (op_assign rfl) rfl ?_
              refine WL.nil ?_
              obtain rfl := Option.some.inj hb34
              show ∃ s, _ = Ctl.next s ∧ _
              exact ⟨_, rfl, e246, e247, (ctr_next hl43 hr22), (ctr_rng hl43 hr22), hS254⟩
        · intro s262 f258 wd259 hs260 hI261
          obtain ⟨⟩ := s262
          replace hI261 : f258 1 = (Value.pointer (some ⟨b1, 0, none⟩)) ∧ f258 3 = (Value.int .i64 (k11 : Int)) ∧ f258 4 = Value.int .i64 ((((k11 : Int)).toNat : Nat) : Int) ∧ InR .i64 ((((k11 : Int)).toNat : Nat) : Int) ∧ St wd2 wd259 [] := hI261
          obtain ⟨hf263, hf264, hf265, hr266, hS267⟩ := hI261
          refine W.seq (W.seq (W.region ?_))
          refine WL.val (Value.int .i64 ((((k11 : Int)).toNat : Nat) : Int)) _ (op_move hf265) rfl ?_
          refine WL.val (Value.int .i64 (k11 : Int)) _ (op_move hf264) rfl ?_
          refine WL.val (Value.bool (decide (((((k11 : Int)).toNat : Nat) : Int) < (k11 : Int)))) _ (op_lss rfl rfl) rfl ?_
          have hl268 : ¬ ((((k11 : Int)).toNat : Nat) : Int) < (k11 : Int) := by omega
          refine WL.nil ?_
          show W _ _ _ _ _ _
          refine W.condF (decide (((((k11 : Int)).toNat : Nat) : Int) < (k11 : Int))) rfl (decide_eq_false hl268) ?_
          refine W.exit ?_
          show _ = _ ∧ _
          exact ⟨rfl, _, hs260, hf263, hf264, hS267⟩
      · rintro f269 wd270 ⟨s272, rfl, hq271⟩
        replace hb16 := onRes_fin hb16
        obtain ⟨⟩ := s272
        replace hq271 : f269 1 = (Value.pointer (some ⟨b1, 0, none⟩)) ∧ f269 3 = (Value.int .i64 (k11 : Int)) ∧ St wd2 wd270 [] := hq271
        obtain ⟨hf273, hf274, hS275⟩ := hq271
        show W _ _ _ _ _ _
        refine W.region ?_
        refine WL.val (Value.int .i64 (k11 : Int)) _ (op_move hf274) rfl ?_
        refine WL.val (Value.int .i64 (w64 ((k11 : Int) + (1 : Int)))) _ (op_add rfl rfl) rfl ?_
        refine WL.val (Value.int .i64 (w64 ((k11 : Int) + (1 : Int)))) _ (op_assign rfl) rfl ?_
        refine WL.nil ?_
        obtain rfl := Option.some.inj hb16
        show ∃ s, _ = Ctl.next s ∧ _
        exact ⟨_, rfl, hf273, (ctr_next hl25 hr24), (ctr_rng hl25 hr24), hS275⟩
    · intro s282 f278 wd279 hs280 hI281
      obtain ⟨⟩ := s282
      replace hI281 : f278 1 = (Value.pointer (some ⟨b1, 0, none⟩)) ∧ f278 3 = Value.int .i64 (((r_Table).length : Nat) : Int) ∧ InR .i64 (((r_Table).length : Nat) : Int) ∧ St wd2 wd279 [] := hI281
      obtain ⟨hf283, hf284, hr285, hS286⟩ := hI281
      refine W.seq (W.seq (W.region ?_))
      refine WL.val (Value.int .i64 (((r_Table).length : Nat) : Int)) _ (op_move hf284) rfl ?_
      refine WL.val (Value.pointer (some ⟨b1, 0, none⟩)) _ (op_fieldAddr fd_29_0 hf283) rfl ?_
      refine WL.val v_r_Table _ (op_load one_22 rfl (BoxAt.cell (BoxAt.lift hS286.ext hx6) rfl)) rfl ?_
      have hr287 := inR_len (Ty.lift _ (Ext.trans hE7 hS286.ext) r_r_Table)
      refine WL.val (Value.int .i64 ((r_Table).length : Int)) _ (op_lenL sl_22 (Ty.lift _ (Ext.trans hE7 hS286.ext) r_r_Table) rfl) rfl ?_
      refine WL.val (Value.bool (decide ((((r_Table).length : Nat) : Int) < ((r_Table).length : Int)))) _ (op_lss rfl rfl) rfl ?_
      have hl288 : ¬ (((r_Table).length : Nat) : Int) < ((r_Table).length : Int) := by omega
      refine WL.nil ?_
      show W _ _ _ _ _ _
      refine W.condF (decide ((((r_Table).length : Nat) : Int) < ((r_Table).length : Int))) rfl (decide_eq_false hl288) ?_
      refine W.exit ?_
      show _ = _ ∧ _
      exact ⟨rfl, _, hs280, hS286⟩
  · rintro f289 wd290 ⟨s292, rfl, hq291⟩
    replace h := onRes_fin h
    obtain ⟨⟩ := s292
    replace hq291 : St wd2 wd290 [] := hq291
    have hS293 := hq291
    show W _ _ _ _ _ _
    refine W.seq (W.region ?_)
    refine WL.val (Value.bool true) _ (op_assign rfl) rfl ?_
    refine WL.nil ?_
    show W _ _ _ _ _ _
    refine W.ret ?_
    obtain rfl := Option.some.inj h
    show FinP _ _ _ _ _ _ _
    exact FinP.ret _ (res1 rfl rfl) ⟨rfl, (Ext.trans hE7 hS293.ext)⟩

theorem c_spec_l08Code {w : World} {r_Table : (List (List (List Int)))} {v_r_Table : Value} (r_r_Table : (Ty.sl (Ty.sl (Ty.sl (Ty.i .i64)))).rep w v_r_Table r_Table) {res : Int} (h : p_spec_l08Code r_Table  = some res) :
    Ret Try.prog 32 #[(Value.agg #[v_r_Table])] w (fun v w' => v = Value.int .i64 res ∧ InR .i64 res ∧ Ext w w') := by
  unfold p_spec_l08Code at h
  have hS0 : St w w [] := St.start w
  refine Ret.start (fn := Try.f32) Try.func32 rfl 9 rfl rfl ?_
  refine W.seq (W.region ?_)
  refine WL.box hS0 rfl (cs := [v_r_Table]) rfl rfl ?_
  intro b1 wd2 hS3 he4 hx5
  replace hS3 : St w wd2 [bx b1 [v_r_Table]] := hS3
  have hx6 := St.boxAt hS3 0 rfl
  have hE7 : Ext w wd2 := hS3.ext
  have hS8 : St wd2 wd2 [] := St.start wd2
  refine WL.val (Value.int .i64 (0 : Int)) _ (op_assign rfl) rfl ?_
  refine WL.nil ?_
  show W _ _ _ _ _ _
  refine W.seq (W.seq (W.region ?_))
  refine WL.val (Value.agg #[v_r_Table]) _ (op_loadBox st_29 rfl (BoxAt.lift hS8.ext hx6) rfl rfl) rfl ?_
  obtain ⟨x9, hx10, h⟩ := bs h
  refine WL.call _ (op_call fn_44 (args1 rfl)) (c_spec_l03Is (Ty.lift _ (Ext.trans hE7 hS8.ext) r_r_Table) hx10) rfl ?_
  rintro _ wd11 ⟨rfl, he12⟩
  have hS14 := St.extend hS8 he12
  replace hS14 : St wd2 wd11 [] := hS14
  refine WL.val (Value.bool (!x9)) _ (op_not rfl) rfl ?_
  refine WL.nil ?_
  show W _ _ _ _ _ _
  refine W.cond (!x9) rfl (fun hc15 => ?_) (fun hc15 => ?_)
  · replace h := ip h hc15
    refine W.seq (W.region ?_)
    refine WL.val (Value.int .i64 (1 : Int)) _ (op_assign rfl) rfl ?_
    refine WL.nil ?_
    show W _ _ _ _ _ _
    refine W.ret ?_
    obtain rfl := Option.some.inj h
    show FinP _ _ _ _ _ _ _
    exact FinP.ret _ (res1 rfl rfl) ⟨rfl, (inR_i64.2 (show (-9223372036854775808 : Int) ≤ 1 ∧ (1 : Int) ≤ 9223372036854775807 from by decide)), (Ext.trans hE7 hS14.ext)⟩
  · replace h := inegb h hc15
    refine W.skip ?_
    show W _ _ _ _ _ _
    refine W.seq (W.seq (W.region ?_))
    refine WL.val (Value.agg #[v_r_Table]) _ (op_loadBox st_29 rfl (BoxAt.lift hS14.ext hx6) rfl rfl) rfl ?_
    obtain ⟨x17, hx18, h⟩ := bs h
    refine WL.call _ (op_call fn_46 (args1 rfl)) (c_spec_l03Commutative (Ty.lift _ (Ext.trans hE7 hS14.ext) r_r_Table) hx18) rfl ?_
    rintro _ wd19 ⟨rfl, he20⟩
    have hS22 := St.extend hS14 he20
    replace hS22 : St wd2 wd19 [] := hS22
    refine WL.val (Value.bool (!x17)) _ (op_not rfl) rfl ?_
    refine WL.nil ?_
    show W _ _ _ _ _ _
    refine W.cond (!x17) rfl (fun hc23 => ?_) (fun hc23 => ?_)
    · replace h := ip h hc23
      refine W.seq (W.region ?_)
      refine WL.val (Value.int .i64 (5 : Int)) _ (op_assign rfl) rfl ?_
      refine WL.nil ?_
      show W _ _ _ _ _ _
      refine W.ret ?_
      obtain rfl := Option.some.inj h
      show FinP _ _ _ _ _ _ _
      exact FinP.ret _ (res1 rfl rfl) ⟨rfl, (inR_i64.2 (show (-9223372036854775808 : Int) ≤ 5 ∧ (5 : Int) ≤ 9223372036854775807 from by decide)), (Ext.trans hE7 hS22.ext)⟩
    · replace h := inegb h hc23
      refine W.skip ?_
      show W _ _ _ _ _ _
      refine W.seq (W.region ?_)
      refine WL.val (Value.int .i64 (0 : Int)) _ (op_assign rfl) rfl ?_
      refine WL.nil ?_
      show W _ _ _ _ _ _
      refine W.ret ?_
      obtain rfl := Option.some.inj h
      show FinP _ _ _ _ _ _ _
      exact FinP.ret _ (res1 rfl rfl) ⟨rfl, (inR_i64.2 (show (-9223372036854775808 : Int) ≤ 0 ∧ (0 : Int) ≤ 9223372036854775807 from by decide)), (Ext.trans hE7 hS22.ext)⟩

theorem c_spec_l03One {w : World} {r_Table : (List (List (List Int)))} {v_r_Table : Value} {i : Int} (r_r_Table : (Ty.sl (Ty.sl (Ty.sl (Ty.i .i64)))).rep w v_r_Table r_Table) (r_i : InR .i64 i) {res : (List Int)} (h : p_spec_l03One r_Table i  = some res) :
    Ret Try.prog 63 #[(Value.agg #[v_r_Table]), (Value.int .i64 i)] w (fun v w' => ∃ (u0 : Value), v = u0 ∧ Ext w w' ∧ Sep w.heap.size w' [(Ty.sl (Ty.i .i64)).at u0 res]) := by
  unfold p_spec_l03One at h
  have hS0 : St w w [] := St.start w
  refine Ret.start (fn := Try.f63) Try.func63 rfl 14 rfl rfl ?_
  refine W.seq (W.region ?_)
  refine WL.box hS0 rfl (cs := [v_r_Table]) rfl rfl ?_
  intro b1 wd2 hS3 he4 hx5
  replace hS3 : St w wd2 [bx b1 [v_r_Table]] := hS3
  have hx6 := St.boxAt hS3 0 rfl
  have hE7 : Ext w wd2 := hS3.ext
  have hS8 : St wd2 wd2 [] := St.start wd2
  refine WL.val (Value.slice none 0 0) _ (op_assign rfl) rfl ?_
  refine WL.nil ?_
  show W _ _ _ _ _ _
  refine W.seq (W.region ?_)
  refine WL.val (Value.pointer (some ⟨b1, 0, none⟩)) _ (op_fieldAddr fd_29_0 rfl) rfl ?_
  refine WL.val v_r_Table _ (op_load one_22 rfl (BoxAt.cell (BoxAt.lift hS8.ext hx6) rfl)) rfl ?_
  have hr9 := inR_len (Ty.lift _ (Ext.trans hE7 hS8.ext) r_r_Table)
  refine WL.val (Value.int .i64 ((r_Table).length : Int)) _ (op_lenL sl_22 (Ty.lift _ (Ext.trans hE7 hS8.ext) r_r_Table) rfl) rfl ?_
  obtain ⟨x10, hx11, h⟩ := bs h
  refine WL.make (t := (Ty.i .i64)) hS8 sl_25 (fun _ _ => ⟨rfl, (inR_i64.2 (show (-9223372036854775808 : Int) ≤ 0 ∧ (0 : Int) ≤ 9223372036854775807 from by decide))⟩) rfl rfl hx11 rfl rfl ?_
  intro u12 wd13 hS14 he15
  replace hS14 : St wd2 wd13 [(Ty.sl (Ty.i .i64)).at u12 x10] := hS14
  refine WL.val u12 _ (op_assign rfl) rfl ?_
  refine WL.nil ?_
  show W _ _ _ _ _ _
  refine W.seq (W.region ?_)
  refine WL.val u12 _ (op_move rfl) rfl ?_
  refine WL.val (Value.int .i64 i) _ (op_move rfl) rfl ?_
  obtain ⟨x16, hx19, h⟩ := bs h
  obtain ⟨ha17, hb18, hx19⟩ := idx_some hx19
  refine WL.val (Value.pointer (some (elA u12 (i).toNat))) _ (op_idx sl_25 (St.rep (t := (Ty.sl (Ty.i .i64))) hS14 0 rfl) rfl rfl ha17 hb18) rfl ?_
  refine WL.storeEl (flat_i .i64) hS14 (k := 0) rfl sz_2 rfl rfl (lt_of_idx ha17 hb18) ⟨rfl, (inR_i64.2 (show (-9223372036854775808 : Int) ≤ 1 ∧ (1 : Int) ≤ 9223372036854775807 from by decide))⟩ ?_
  intro wd20 hS21
  replace hS21 : St wd2 wd20 [(Ty.sl (Ty.i .i64)).at u12 ((x10).set (i).toNat (1 : Int))] := hS21
  refine WL.nil ?_
  show W _ _ _ _ _ _
  refine W.seq (W.region ?_)
  refine WL.val u12 _ (op_move rfl) rfl ?_
  refine WL.val u12 _ (op_assign rfl) rfl ?_
  refine WL.nil ?_
  show W _ _ _ _ _ _
  refine W.ret ?_
  obtain rfl := Option.some.inj h
  show FinP _ _ _ _ _ _ _
  exact FinP.ret _ (res1 rfl rfl) ⟨u12, rfl, (Ext.trans hE7 hS21.ext), (St.out (St.pick hS21 [0] rfl) (hE7))⟩

theorem c_spec_l03Duals {w : World} {r_Table : (List (List (List Int)))} {v_r_Table : Value} (r_r_Table : (Ty.sl (Ty.sl (Ty.sl (Ty.i .i64)))).rep w v_r_Table r_Table) {res : (List Int)} (h : p_spec_l03Duals r_Table  = some res) :
    Ret Try.prog 48 #[(Value.agg #[v_r_Table])] w (fun v w' => ∃ (u0 : Value), v = u0 ∧ Ext w w' ∧ Sep w.heap.size w' [(Ty.sl (Ty.i .i64)).at u0 res]) := by
  unfold p_spec_l03Duals at h
  have hS0 : St w w [] := St.start w
  refine Ret.start (fn := Try.f48) Try.func48 rfl 21 rfl rfl ?_
  refine W.seq (W.region ?_)
  refine WL.box hS0 rfl (cs := [v_r_Table]) rfl rfl ?_
  intro b1 wd2 hS3 he4 hx5
  replace hS3 : St w wd2 [bx b1 [v_r_Table]] := hS3
  have hx6 := St.boxAt hS3 0 rfl
  have hE7 : Ext w wd2 := hS3.ext
  have hS8 : St wd2 wd2 [] := St.start wd2
  refine WL.val (Value.slice none 0 0) _ (op_assign rfl) rfl ?_
  refine WL.nil ?_
  show W _ _ _ _ _ _
  refine W.seq (W.region ?_)
  refine WL.lit0 (t := (Ty.i .i64)) hS8 sl_25 rfl rfl ?_
  intro u9 wd10 hS11 he12
  replace hS11 : St wd2 wd10 [(Ty.sl (Ty.i .i64)).at u9 ([] : (List Int))] := hS11
  refine WL.val u9 _ (op_assign rfl) rfl ?_
  refine WL.nil ?_
  show W _ _ _ _ _ _
  refine W.seq (W.seq (W.region ?_))
  refine WL.val (Value.int .i64 (0 : Int)) _ (op_assign rfl) rfl ?_
  refine WL.nil ?_
  show W _ _ _ _ _ _
  obtain ⟨res13, hres14, h⟩ := bs h
  refine W.blockLoop (fun fq wq => ∃ s, res13 = Res.fin s ∧ ∃ (uu0 : Value), fq 3 = uu0 ∧ St wd2 wq [(Ty.sl (Ty.i .i64)).at uu0 s]) ?_ ?_
  · refine W.forN (fun k (s : (List Int)) fq wq => ∃ (uu0 : Value), fq 1 = (Value.pointer (some ⟨b1, 0, none⟩)) ∧ fq 3 = uu0 ∧ fq 4 = Value.int .i64 (k : Int) ∧ InR .i64 (k : Int) ∧ St wd2 wq [(Ty.sl (Ty.i .i64)).at uu0 s]) hres14 ⟨u9, rfl, rfl, rfl, (inR_i64.2 (show (-9223372036854775808 : Int) ≤ 0 ∧ (0 : Int) ≤ 9223372036854775807 from by decide)), hS11⟩ ?_ ?_
    · intro k15 x16 ct17 f18 wd19 hk20 hb21 hI22 hbrk23 hret24
      replace hI22 : ∃ (uu0 : Value), f18 1 = (Value.pointer (some ⟨b1, 0, none⟩)) ∧ f18 3 = uu0 ∧ f18 4 = Value.int .i64 (k15 : Int) ∧ InR .i64 (k15 : Int) ∧ St wd2 wd19 [(Ty.sl (Ty.i .i64)).at uu0 x16] := hI22
      replace hb21 : p_spec_l03Duals_L1 r_Table k15 x16 = some ct17 := hb21
      unfold p_spec_l03Duals_L1 at hb21
      obtain ⟨u25, hf26, hf27, hf28, hr29, hS30⟩ := hI22
      refine W.seq (W.seq (W.region ?_))
      refine WL.val (Value.int .i64 (k15 : Int)) _ (op_move hf28) rfl ?_
      refine WL.val (Value.pointer (some ⟨b1, 0, none⟩)) _ (op_fieldAddr fd_29_0 hf26) rfl ?_
      refine WL.val v_r_Table _ (op_load one_22 rfl (BoxAt.cell (BoxAt.lift hS30.ext hx6) rfl)) rfl ?_
      have hr31 := inR_len (Ty.lift _ (Ext.trans hE7 hS30.ext) r_r_Table)
      refine WL.val (Value.int .i64 ((r_Table).length : Int)) _ (op_lenL sl_22 (Ty.lift _ (Ext.trans hE7 hS30.ext) r_r_Table) rfl) rfl ?_
      refine WL.val (Value.bool (decide ((k15 : Int) < ((r_Table).length : Int)))) _ (op_lss rfl rfl) rfl ?_
      have hl32 : (k15 : Int) < ((r_Table).length : Int) := by omega
      refine WL.nil ?_
      show W _ _ _ _ _ _
      refine W.condT (decide ((k15 : Int) < ((r_Table).length : Int))) rfl (decide_eq_true hl32) ?_
      refine W.skip ?_
      show W _ _ _ _ _ _
      refine W.seq ?_
      refine W.block ?_
      refine W.region ?_
      refine WL.val u25 _ (op_move hf27) rfl ?_
      refine WL.val (Value.pointer (some ⟨b1, 0, none⟩)) _ (op_fieldAddr fd_29_0 hf26) rfl ?_
      refine WL.val v_r_Table _ (op_load one_22 rfl (BoxAt.cell (BoxAt.lift hS30.ext hx6) rfl)) rfl ?_
      refine WL.val (Value.int .i64 (k15 : Int)) _ (op_move hf28) rfl ?_
      obtain ⟨x34, hx35, hb21⟩ := bs hb21
      refine WL.call _ (op_call fn_74 (args2 rfl rfl)) (c_spec_l03Dual (Ty.lift _ (Ext.trans hE7 hS30.ext) r_r_Table) hr29 hx35) rfl ?_
      rintro _ wd37 ⟨rfl, hr36, he38⟩
      have hS40 := St.extend hS30 he38
      replace hS40 : St wd2 wd37 [(Ty.sl (Ty.i .i64)).at u25 x16] := hS40
      refine WL.litFlat (t := (Ty.i .i64)) (flat_i .i64) [(Value.int .i64 x34)] [x34] hS40 sl_25 rfl rfl (fillL rfl ⟨rfl, rfl, rfl, trivial⟩) rfl rfl (litL ⟨⟨rfl, hr36⟩, trivial⟩) rfl ?_
      intro u41 wd42 hS43 he44
      replace hS43 : St wd2 wd42 [(Ty.sl (Ty.i .i64)).at u25 x16, (Ty.sl (Ty.i .i64)).at u41 ([x34] : (List Int))] := hS43
      obtain ⟨x45, hx46, hb21⟩ := bs hb21
      refine WL.append (flat_i .i64) hS43 (k := 0) rfl sl_25 rfl rfl rfl rfl (St.rep (t := (Ty.sl (Ty.i .i64))) hS43 1 rfl) hx46 rfl ?_
      intro u47 wd48 hS49 hz50
      replace hS49 : St wd2 wd48 [(Ty.sl (Ty.i .i64)).at u47 x45, (Ty.sl (Ty.i .i64)).at u41 ([x34] : (List Int))] := hS49
      refine WL.val u47 _ (op_assign rfl) rfl ?_
      refine WL.nil ?_
      show W _ _ _ _ _ _
      refine W.region ?_
      refine WL.val (Value.int .i64 (k15 : Int)) _ (op_move hf28) rfl ?_
      refine WL.val (Value.int .i64 (w64 ((k15 : Int) + (1 : Int)))) _ (op_add rfl rfl) rfl ?_
      refine WL.val (Value.int .i64 (w64 ((k15 : Int) + (1 : Int)))) _ (op_assign rfl) rfl ?_
      refine WL.nil ?_
      obtain rfl := Option.some.inj hb21
      show ∃ s, _ = Ctl.next s ∧ _
      exact ⟨_, rfl, u47, hf26, rfl, (ctr_next hl32 hr31), (ctr_rng hl32 hr31), (St.pick hS49 [0] rfl)⟩
    · intro x57 f52 wd53 hs54 hI55
      replace hI55 : ∃ (uu0 : Value), f52 1 = (Value.pointer (some ⟨b1, 0, none⟩)) ∧ f52 3 = uu0 ∧ f52 4 = Value.int .i64 (((r_Table).length : Nat) : Int) ∧ InR .i64 (((r_Table).length : Nat) : Int) ∧ St wd2 wd53 [(Ty.sl (Ty.i .i64)).at uu0 x57] := hI55
      obtain ⟨u58, hf59, hf60, hf61, hr62, hS63⟩ := hI55
      refine W.seq (W.seq (W.region ?_))
      refine WL.val (Value.int .i64 (((r_Table).length : Nat) : Int)) _ (op_move hf61) rfl ?_
      refine WL.val (Value.pointer (some ⟨b1, 0, none⟩)) _ (op_fieldAddr fd_29_0 hf59) rfl ?_
      refine WL.val v_r_Table _ (op_load one_22 rfl (BoxAt.cell (BoxAt.lift hS63.ext hx6) rfl)) rfl ?_
      have hr64 := inR_len (Ty.lift _ (Ext.trans hE7 hS63.ext) r_r_Table)
      refine WL.val (Value.int .i64 ((r_Table).length : Int)) _ (op_lenL sl_22 (Ty.lift _ (Ext.trans hE7 hS63.ext) r_r_Table) rfl) rfl ?_
      refine WL.val (Value.bool (decide ((((r_Table).length : Nat) : Int) < ((r_Table).length : Int)))) _ (op_lss rfl rfl) rfl ?_
      have hl65 : ¬ (((r_Table).length : Nat) : Int) < ((r_Table).length : Int) := by omega
      refine WL.nil ?_
      show W _ _ _ _ _ _
      refine W.condF (decide ((((r_Table).length : Nat) : Int) < ((r_Table).length : Int))) rfl (decide_eq_false hl65) ?_
      refine W.exit ?_
      show _ = _ ∧ _
      exact ⟨rfl, _, hs54, u58, hf60, hS63⟩
  · rintro f66 wd67 ⟨x70, rfl, hq68⟩
    replace h := onRes_fin h
    replace hq68 : ∃ (uu0 : Value), f66 3 = uu0 ∧ St wd2 wd67 [(Ty.sl (Ty.i .i64)).at uu0 x70] := hq68
    obtain ⟨u71, hf72, hS73⟩ := hq68
    show W _ _ _ _ _ _
    refine W.seq (W.region ?_)
    refine WL.val u71 _ (op_move hf72) rfl ?_
    refine WL.val u71 _ (op_assign rfl) rfl ?_
    refine WL.nil ?_
    show W _ _ _ _ _ _
    refine W.ret ?_
    obtain rfl := Option.some.inj h
    show FinP _ _ _ _ _ _ _
    exact FinP.ret _ (res1 rfl rfl) ⟨u71, rfl, (Ext.trans hE7 hS73.ext), (St.out (St.pick hS73 [0] rfl) (hE7))⟩

theorem c_spec_l15Handle {w : World} {r_Table : (List (List (List Int)))} {v_r_Table : Value} (r_r_Table : (Ty.sl (Ty.sl (Ty.sl (Ty.i .i64)))).rep w v_r_Table r_Table) {res : (List Int)} (h : p_spec_l15Handle r_Table  = some res) :
    Ret Try.prog 64 #[(Value.agg #[v_r_Table])] w (fun v w' => ∃ (u0 : Value), v = u0 ∧ Ext w w' ∧ Sep w.heap.size w' [(Ty.sl (Ty.i .i64)).at u0 res]) := by
  unfold p_spec_l15Handle at h
  have hS0 : St w w [] := St.start w
  refine Ret.start (fn := Try.f64) Try.func64 rfl 49 rfl rfl ?_
  refine W.seq (W.region ?_)
  refine WL.box hS0 rfl (cs := [v_r_Table]) rfl rfl ?_
  intro b1 wd2 hS3 he4 hx5
  replace hS3 : St w wd2 [bx b1 [v_r_Table]] := hS3
  have hx6 := St.boxAt hS3 0 rfl
  have hE7 : Ext w wd2 := hS3.ext
  have hS8 : St wd2 wd2 [] := St.start wd2
  refine WL.val (Value.slice none 0 0) _ (op_assign rfl) rfl ?_
  refine WL.nil ?_
  show W _ _ _ _ _ _
  refine W.seq ?_
  obtain ⟨x26, hx27, h⟩ := bs h
  obtain ⟨x71, hx72, h⟩ := bs h
  obtain ⟨ha73, hb74, hx75⟩ := mkL_some hx72
  refine W.drawR mixo 7 [] [fun _ v S w' => v = (Value.agg #[v_r_Table]), fun _ v S w' => SepS S w' [(Ty.sl (Ty.i .i64)).at v x26], fun _ v _ _ => v = (Value.pointer (some ⟨b1, 0, none⟩)), fun _ v _ _ => v = v_r_Table, fun _ v _ _ => v = (Value.int .i64 ((r_Table).length : Int)) ∧ InR .i64 ((r_Table).length : Int), fun _ v S w' => SepS S w' [(Ty.sl (Ty.i .i64)).at v x71], fun f v _ _ => v = f 8] (by kernel_rfl) (by kernel_rfl) ⟨⟨fun _ _ _ _ _ _ h => h, fun _ _ _ _ _ _ h => h⟩, ⟨fun _ _ _ _ _ he h => SepS.extend he h, fun _ _ _ _ _ _ h => h⟩, ⟨fun _ _ _ _ _ _ h => h, fun _ _ _ _ _ _ h => h⟩, ⟨fun _ _ _ _ _ _ h => h, fun _ _ _ _ _ _ h => h⟩, ⟨fun _ _ _ _ _ _ h => h, fun _ _ _ _ _ _ h => h⟩, ⟨fun _ _ _ _ _ he h => SepS.extend he h, fun _ _ _ _ _ _ h => h⟩, ⟨fun _ _ _ _ _ _ h => h, fun _ _ _ _ _ hf h => h.trans (hf 1 8 rfl rfl)⟩, trivial⟩ ⟨?_, ?_, ?_, ?_, ?_, ?_, ?_, trivial⟩ ?_
  · refine ObX.op rfl ?_
    intro f9 wd10 he11 hout12 hphi13
    have hS14 : St wd2 wd10 [] := St.extend hS8 he11
    have e15 : f9 1 = (Value.pointer (some ⟨b1, 0, none⟩)) := (hout12 1 rfl).trans rfl
    exact OpX.val (Value.agg #[v_r_Table]) wd10 rfl (op_loadBox st_29 e15 (BoxAt.lift hS14.ext hx6) rfl rfl) (Ext.refl _) rfl
  · refine ObX.op rfl ?_
    intro f16 wd17 he18 hout19 hphi20
    have hS21 : St wd2 wd17 [] := St.extend hS8 he18
    obtain ⟨S22, hS23, hf24⟩ := hphi20 0 7 _ rfl rfl rfl
    have e25 : f16 7 = (Value.agg #[v_r_Table]) := hf24
    refine OpX.call rfl (op_call fn_48 (args1 e25)) (Ret.mono (c_spec_l03Duals (Ty.lift _ (Ext.trans hE7 hS21.ext) r_r_Table) hx27) ?_)
    rintro u28 wd29 ⟨_, rfl, he30, hs31⟩
    exact ⟨he30, _, newS _ _, (Sep.new hs31)⟩
  · refine ObX.op rfl ?_
    intro f32 wd33 he34 hout35 hphi36
    have hS37 : St wd2 wd33 [] := St.extend hS8 he34
    have e38 : f32 1 = (Value.pointer (some ⟨b1, 0, none⟩)) := (hout35 1 rfl).trans rfl
    exact OpX.val (Value.pointer (some ⟨b1, 0, none⟩)) wd33 rfl (op_fieldAddr fd_29_0 e38) (Ext.refl _) rfl
  · refine ObX.op rfl ?_
    intro f39 wd40 he41 hout42 hphi43
    have hS44 : St wd2 wd40 [] := St.extend hS8 he41
    obtain ⟨S45, hS46, hf47⟩ := hphi43 2 9 _ rfl rfl rfl
    have e48 : f39 9 = (Value.pointer (some ⟨b1, 0, none⟩)) := hf47
    exact OpX.val v_r_Table wd40 rfl (op_load one_22 e48 (BoxAt.cell (BoxAt.lift hS44.ext hx6) rfl)) (Ext.refl _) rfl
  · refine ObX.op rfl ?_
    intro f49 wd50 he51 hout52 hphi53
    have hS54 : St wd2 wd50 [] := St.extend hS8 he51
    obtain ⟨S55, hS56, hf57⟩ := hphi53 3 10 _ rfl rfl rfl
    have e58 : f49 10 = v_r_Table := hf57
    have hr59 := inR_len (Ty.lift _ (Ext.trans hE7 hS54.ext) r_r_Table)
    exact OpX.val (Value.int .i64 ((r_Table).length : Int)) wd50 rfl (op_lenL sl_22 (Ty.lift _ (Ext.trans hE7 hS54.ext) r_r_Table) e58) (Ext.refl _) ⟨rfl, hr59⟩
  · refine ObX.op rfl ?_
    intro f60 wd61 he62 hout63 hphi64
    have hS65 : St wd2 wd61 [] := St.extend hS8 he62
    obtain ⟨S66, hS67, hf68⟩ := hphi64 4 11 _ rfl rfl rfl
    obtain ⟨e69, hr70⟩ : f60 11 = (Value.int .i64 ((r_Table).length : Int)) ∧ InR .i64 ((r_Table).length : Int) := hf68
    obtain ⟨v76, wd77, ho78, he79, hs80⟩ := mk_make (P := Try.prog) (w := wd61) (T := 25) (t := (Ty.i .i64)) sl_25 (fun _ _ => ⟨rfl, (inR_i64.2 (show (-9223372036854775808 : Int) ≤ 0 ∧ (0 : Int) ≤ 9223372036854775807 from by decide))⟩) rfl (show ev f60 (Operand.tmp 11) = _ from e69) ha73 hb74 (by decide)
    rw [← hx75] at hs80
    exact OpX.valO v76 wd77 rfl ho78 he79 (Sep.new hs80)
  · refine ObX.op rfl ?_
    intro f81 wd82 he83 hout84 hphi85
    have hS86 : St wd2 wd82 [] := St.extend hS8 he83
    obtain ⟨S87, hS88, hf89⟩ := hphi85 1 8 _ rfl rfl rfl
    have e90 : SepS S87 wd82 [(Ty.sl (Ty.i .i64)).at (f81 8) x26] := hf89
    exact OpX.val (f81 8) wd82 rfl (op_assign rfl) (Ext.refl _) rfl
  · intro f91 wd92 Ss93 he94 hout95 hSn96 hSd97 hphi98
    show WL _ _ _ _ _ _ _
    have hS99 : St wd2 wd92 [] := St.extend hS8 he94
    have e100 : SepS (Ss93 1) wd92 [(Ty.sl (Ty.i .i64)).at (f91 8) x26] := hphi98 1 8 _ (by decide) rfl rfl
    have e101 : SepS (Ss93 5) wd92 [(Ty.sl (Ty.i .i64)).at (f91 12) x71] := hphi98 5 12 _ (by decide) rfl rfl
    have e102 : f91 3 = (f91 8) := (hphi98 6 3 _ (by decide) rfl rfl)
    have e103 : f91 1 = (Value.pointer (some ⟨b1, 0, none⟩)) := (hout95 1 rfl).trans rfl
    have hS104 := St.joinS hS8 he94 hSn96 (SepS.consS hSd97 rfl e100 (SepS.consS hSd97 rfl e101 SepS.nilS))
    replace hS104 : St wd2 wd92 [(Ty.sl (Ty.i .i64)).at (f91 8) x26, (Ty.sl (Ty.i .i64)).at (f91 12) x71] := hS104
    refine WL.val (f91 12) _ (op_assign rfl) rfl ?_
    refine WL.nil ?_
    show W _ _ _ _ _ _
    refine W.seq (W.seq (W.region ?_))
    refine WL.val (Value.int .i64 (0 : Int)) _ (op_assign rfl) rfl ?_
    refine WL.nil ?_
    show W _ _ _ _ _ _
    obtain ⟨res105, hres106, h⟩ := bs h
    refine W.blockLoop (fun fq wq => ∃ s, res105 = Res.fin s ∧ fq 4 = (f91 12) ∧ St wd2 wq [(Ty.sl (Ty.i .i64)).at (f91 12) s]) ?_ ?_
    · refine W.forN (fun k (s : (List Int)) fq wq => fq 1 = (Value.pointer (some ⟨b1, 0, none⟩)) ∧ fq 3 = (f91 8) ∧ fq 4 = (f91 12) ∧ fq 5 = Value.int .i64 (k : Int) ∧ InR .i64 (k : Int) ∧ St wd2 wq [(Ty.sl (Ty.i .i64)).at (f91 8) x26, (Ty.sl (Ty.i .i64)).at (f91 12) s]) hres106 ⟨e103, e102, rfl, rfl, (inR_i64.2 (show (-9223372036854775808 : Int) ≤ 0 ∧ (0 : Int) ≤ 9223372036854775807 from by decide)), hS104⟩ ?_ ?_
      · intro k107 x108 ct109 f110 wd111 hk112 hb113 hI114 hbrk115 hret116
        replace hI114 : f110 1 = (Value.pointer (some ⟨b1, 0, none⟩)) ∧ f110 3 = (f91 8) ∧ f110 4 = (f91 12) ∧ f110 5 = Value.int .i64 (k107 : Int) ∧ InR .i64 (k107 : Int) ∧ St wd2 wd111 [(Ty.sl (Ty.i .i64)).at (f91 8) x26, (Ty.sl (Ty.i .i64)).at (f91 12) x108] := hI114
        replace hb113 : p_spec_l15Handle_L1 r_Table x26 k107 x108 = some ct109 := hb113
        unfold p_spec_l15Handle_L1 at hb113
        obtain ⟨hf117, hf118, hf119, hf120, hr121, hS122⟩ := hI114
        refine W.seq (W.seq (W.region ?_))
        refine WL.val (Value.int .i64 (k107 : Int)) _ (op_move hf120) rfl ?_
        refine WL.val (Value.pointer (some ⟨b1, 0, none⟩)) _ (op_fieldAddr fd_29_0 hf117) rfl ?_
        refine WL.val v_r_Table _ (op_load one_22 rfl (BoxAt.cell (BoxAt.lift hS122.ext hx6) rfl)) rfl ?_
        have hr123 := inR_len (Ty.lift _ (Ext.trans hE7 hS122.ext) r_r_Table)
        refine WL.val (Value.int .i64 ((r_Table).length : Int)) _ (op_lenL sl_22 (Ty.lift _ (Ext.trans hE7 hS122.ext) r_r_Table) rfl) rfl ?_
        refine WL.val (Value.bool (decide ((k107 : Int) < ((r_Table).length : Int)))) _ (op_lss rfl rfl) rfl ?_
        have hl124 : (k107 : Int) < ((r_Table).length : Int) := by omega
        refine WL.nil ?_
        show W _ _ _ _ _ _
        refine W.condT (decide ((k107 : Int) < ((r_Table).length : Int))) rfl (decide_eq_true hl124) ?_
        refine W.skip ?_
        show W _ _ _ _ _ _
        refine W.seq ?_
        refine W.block ?_
        refine W.seq (W.region ?_)
        refine WL.val (Value.int .i64 (0 : Int)) _ (op_assign rfl) rfl ?_
        refine WL.nil ?_
        show W _ _ _ _ _ _
        obtain ⟨res126, hres127, hb113⟩ := bs hb113
        refine W.blockLoop (fun fq wq => ∃ s, res126 = Res.fin s ∧ fq 1 = (Value.pointer (some ⟨b1, 0, none⟩)) ∧ fq 3 = (f91 8) ∧ fq 4 = (f91 12) ∧ fq 5 = (Value.int .i64 (k107 : Int)) ∧ (s).length = (x108).length ∧ St wd2 wq [(Ty.sl (Ty.i .i64)).at (f91 8) x26, (Ty.sl (Ty.i .i64)).at (f91 12) s]) ?_ ?_
        · refine W.forN (fun k (s : (List Int)) fq wq => fq 1 = (Value.pointer (some ⟨b1, 0, none⟩)) ∧ fq 3 = (f91 8) ∧ fq 4 = (f91 12) ∧ fq 5 = (Value.int .i64 (k107 : Int)) ∧ fq 6 = Value.int .i64 (k : Int) ∧ InR .i64 (k : Int) ∧ (s).length = (x108).length ∧ St wd2 wq [(Ty.sl (Ty.i .i64)).at (f91 8) x26, (Ty.sl (Ty.i .i64)).at (f91 12) s]) hres127 ⟨hf117, hf118, hf119, hf120, rfl, (inR_i64.2 (show (-9223372036854775808 : Int) ≤ 0 ∧ (0 : Int) ≤ 9223372036854775807 from by decide)), rfl, hS122⟩ ?_ ?_
          · intro k128 x129 ct130 f131 wd132 hk133 hb134 hI135 hbrk136 hret137
            replace hI135 : f131 1 = (Value.pointer (some ⟨b1, 0, none⟩)) ∧ f131 3 = (f91 8) ∧ f131 4 = (f91 12) ∧ f131 5 = (Value.int .i64 (k107 : Int)) ∧ f131 6 = Value.int .i64 (k128 : Int) ∧ InR .i64 (k128 : Int) ∧ (x129).length = (x108).length ∧ St wd2 wd132 [(Ty.sl (Ty.i .i64)).at (f91 8) x26, (Ty.sl (Ty.i .i64)).at (f91 12) x129] := hI135
            replace hb134 : p_spec_l15Handle_L2 r_Table k107 x26 k128 x129 = some ct130 := hb134
            unfold p_spec_l15Handle_L2 at hb134
            obtain ⟨hf138, hf139, hf140, hf141, hf142, hr143, hL144, hS145⟩ := hI135
            refine W.seq (W.seq (W.region ?_))
            refine WL.val (Value.int .i64 (k128 : Int)) _ (op_move hf142) rfl ?_
            refine WL.val (f91 12) _ (op_move hf140) rfl ?_
            have hr146 := inR_len (St.rep (t := (Ty.sl (Ty.i .i64))) hS145 1 rfl)
            refine WL.val (Value.int .i64 ((x129).length : Int)) _ (op_lenL sl_25 (St.rep (t := (Ty.sl (Ty.i .i64))) hS145 1 rfl) rfl) rfl ?_
            refine WL.val (Value.bool (decide ((k128 : Int) < ((x129).length : Int)))) _ (op_lss rfl rfl) rfl ?_
            have hl147 : (k128 : Int) < ((x129).length : Int) := by omega
            refine WL.nil ?_
            show W _ _ _ _ _ _
            refine W.condT (decide ((k128 : Int) < ((x129).length : Int))) rfl (decide_eq_true hl147) ?_
            refine W.skip ?_
            show W _ _ _ _ _ _
            refine W.seq ?_
            refine W.block ?_
            obtain ⟨x192, hx195, hb134⟩ := bs hb134
            obtain ⟨ha193, hb194, hx195⟩ := idx_some hx195
            obtain ⟨u206, hc207, hr208⟩ := repSl.el (St.rep (t := (Ty.sl (Ty.i .i64))) hS145 1 rfl) hx195
            obtain ⟨rfl, hr208⟩ := hr208
            obtain ⟨x248, hx251, hb134⟩ := bs hb134
            obtain ⟨ha249, hb250, hx251⟩ := idx_some hx251
            obtain ⟨u262, hc263, hr264⟩ := repSl.el r_r_Table hx251
            obtain ⟨x294, hx297, hb134⟩ := bs hb134
            obtain ⟨ha295, hb296, hx297⟩ := idx_some hx297
            obtain ⟨u308, hc309, hr310⟩ := repSl.el (St.rep (t := (Ty.sl (Ty.i .i64))) hS145 0 rfl) hx297
            obtain ⟨rfl, hr310⟩ := hr310
            obtain ⟨x326, hx329, hb134⟩ := bs hb134
            obtain ⟨ha327, hb328, hx329⟩ := idx_some hx329
            obtain ⟨u340, hc341, hr342⟩ := repSl.el hr264 hx329
            obtain ⟨x365, hx368, hb134⟩ := bs hb134
            obtain ⟨ha366, hb367, hx368⟩ := idx_some hx368
            obtain ⟨u379, hc380, hr381⟩ := repSl.el hr342 hx368
            obtain ⟨rfl, hr381⟩ := hr381
            refine W.drawR mixo 21 [] [fun _ v _ _ => v = (f91 12), fun _ v _ _ => v = (Value.int .i64 (k128 : Int)) ∧ InR .i64 (k128 : Int), fun _ v _ _ => v = (f91 12), fun _ v _ _ => v = (Value.int .i64 (k128 : Int)) ∧ InR .i64 (k128 : Int), fun _ v _ _ => v = (Value.pointer (some (elA (f91 12) ((k128 : Int)).toNat))), fun _ v _ _ => v = (Value.int .i64 x192) ∧ InR .i64 x192, fun _ v _ _ => v = (Value.pointer (some ⟨b1, 0, none⟩)), fun _ v _ _ => v = v_r_Table, fun _ v _ _ => v = (Value.int .i64 (k107 : Int)) ∧ InR .i64 (k107 : Int), fun _ v _ _ => v = (Value.pointer (some (elA v_r_Table ((k107 : Int)).toNat))), fun _ v _ _ => v = u262, fun _ v _ _ => v = (f91 8), fun _ v _ _ => v = (Value.int .i64 (k107 : Int)) ∧ InR .i64 (k107 : Int), fun _ v _ _ => v = (Value.pointer (some (elA (f91 8) ((k107 : Int)).toNat))), fun _ v _ _ => v = (Value.int .i64 x294) ∧ InR .i64 x294, fun _ v _ _ => v = (Value.pointer (some (elA u262 (x294).toNat))), fun _ v _ _ => v = u340, fun _ v _ _ => v = (Value.int .i64 (k128 : Int)) ∧ InR .i64 (k128 : Int), fun _ v _ _ => v = (Value.pointer (some (elA u340 ((k128 : Int)).toNat))), fun _ v _ _ => v = (Value.int .i64 x365) ∧ InR .i64 x365, fun _ v _ _ => v = (Value.int .i64 (w64 (x192 + x365))) ∧ InR .i64 (w64 (x192 + x365))] (by kernel_rfl) (by kernel_rfl) ⟨⟨fun _ _ _ _ _ _ h => h, fun _ _ _ _ _ _ h => h⟩, ⟨fun _ _ _ _ _ _ h => h, fun _ _ _ _ _ _ h => h⟩, ⟨fun _ _ _ _ _ _ h => h, fun _ _ _ _ _ _ h => h⟩, ⟨fun _ _ _ _ _ _ h => h, fun _ _ _ _ _ _ h => h⟩, ⟨fun _ _ _ _ _ _ h => h, fun _ _ _ _ _ _ h => h⟩, ⟨fun _ _ _ _ _ _ h => h, fun _ _ _ _ _ _ h => h⟩, ⟨fun _ _ _ _ _ _ h => h, fun _ _ _ _ _ _ h => h⟩, ⟨fun _ _ _ _ _ _ h => h, fun _ _ _ _ _ _ h => h⟩, ⟨fun _ _ _ _ _ _ h => h, fun _ _ _ _ _ _ h => h⟩, ⟨fun _ _ _ _ _ _ h => h, fun _ _ _ _ _ _ h => h⟩, ⟨fun _ _ _ _ _ _ h => h, fun _ _ _ _ _ _ h => h⟩, ⟨fun _ _ _ _ _ _ h => h, fun _ _ _ _ _ _ h => h⟩, ⟨fun _ _ _ _ _ _ h => h, fun _ _ _ _ _ _ h => h⟩, ⟨fun _ _ _ _ _ _ h => h, fun _ _ _ _ _ _ h => h⟩, ⟨fun _ _ _ _ _ _ h => h, fun _ _ _ _ _ _ h => h⟩, ⟨fun _ _ _ _ _ _ h => h, fun _ _ _ _ _ _ h => h⟩, ⟨fun _ _ _ _ _ _ h => h, fun _ _ _ _ _ _ h => h⟩, ⟨fun _ _ _ _ _ _ h => h, fun _ _ _ _ _ _ h => h⟩, ⟨fun _ _ _ _ _ _ h => h, fun _ _ _ _ _ _ h => h⟩, ⟨fun _ _ _ _ _ _ h => h, fun _ _ _ _ _ _ h => h⟩, ⟨fun _ _ _ _ _ _ h => h, fun _ _ _ _ _ _ h => h⟩, trivial⟩ ⟨?_, ?_, ?_, ?_, ?_, ?_, ?_, ?_, ?_, ?_, ?_, ?_, ?_, ?_, ?_, ?_, ?_, ?_, ?_, ?_, ?_, trivial⟩ ?_
            · refine ObX.op rfl ?_
              intro f149 wd150 he151 hout152 hphi153
              have hS154 : St wd2 wd150 [(Ty.sl (Ty.i .i64)).at (f91 8) x26, (Ty.sl (Ty.i .i64)).at (f91 12) x129] := St.extend hS145 he151
              have e155 : f149 4 = (f91 12) := (hout152 4 rfl).trans hf140
              exact OpX.val (f91 12) wd150 rfl (op_move e155) (Ext.refl _) rfl
            · refine ObX.op rfl ?_
              intro f156 wd157 he158 hout159 hphi160
              have hS161 : St wd2 wd157 [(Ty.sl (Ty.i .i64)).at (f91 8) x26, (Ty.sl (Ty.i .i64)).at (f91 12) x129] := St.extend hS145 he158
              have e162 : f156 6 = (Value.int .i64 (k128 : Int)) := (hout159 6 rfl).trans hf142
              exact OpX.val (Value.int .i64 (k128 : Int)) wd157 rfl (op_move e162) (Ext.refl _) ⟨rfl, hr143⟩
            · refine ObX.op rfl ?_
              intro f163 wd164 he165 hout166 hphi167
              have hS168 : St wd2 wd164 [(Ty.sl (Ty.i .i64)).at (f91 8) x26, (Ty.sl (Ty.i .i64)).at (f91 12) x129] := St.extend hS145 he165
              have e169 : f163 4 = (f91 12) := (hout166 4 rfl).trans hf140
              exact OpX.val (f91 12) wd164 rfl (op_move e169) (Ext.refl _) rfl
            · refine ObX.op rfl ?_
              intro f170 wd171 he172 hout173 hphi174
              have hS175 : St wd2 wd171 [(Ty.sl (Ty.i .i64)).at (f91 8) x26, (Ty.sl (Ty.i .i64)).at (f91 12) x129] := St.extend hS145 he172
              have e176 : f170 6 = (Value.int .i64 (k128 : Int)) := (hout173 6 rfl).trans hf142
              exact OpX.val (Value.int .i64 (k128 : Int)) wd171 rfl (op_move e176) (Ext.refl _) ⟨rfl, hr143⟩
            · refine ObX.op rfl ?_
              intro f177 wd178 he179 hout180 hphi181
              have hS182 : St wd2 wd178 [(Ty.sl (Ty.i .i64)).at (f91 8) x26, (Ty.sl (Ty.i .i64)).at (f91 12) x129] := St.extend hS145 he179
              obtain ⟨S183, hS184, hf185⟩ := hphi181 2 28 _ rfl rfl rfl
              have e186 : f177 28 = (f91 12) := hf185
              obtain ⟨S187, hS188, hf189⟩ := hphi181 3 29 _ rfl rfl rfl
              obtain ⟨e190, hr191⟩ : f177 29 = (Value.int .i64 (k128 : Int)) ∧ InR .i64 (k128 : Int) := hf189
              exact OpX.val (Value.pointer (some (elA (f91 12) ((k128 : Int)).toNat))) wd178 rfl (op_idx sl_25 (St.rep (t := (Ty.sl (Ty.i .i64))) hS182 1 rfl) e186 e190 ha193 hb194) (Ext.refl _) rfl
            · refine ObX.op rfl ?_
              intro f196 wd197 he198 hout199 hphi200
              have hS201 : St wd2 wd197 [(Ty.sl (Ty.i .i64)).at (f91 8) x26, (Ty.sl (Ty.i .i64)).at (f91 12) x129] := St.extend hS145 he198
              obtain ⟨S202, hS203, hf204⟩ := hphi200 4 30 _ rfl rfl rfl
              have e205 : f196 30 = (Value.pointer (some (elA (f91 12) ((k128 : Int)).toNat))) := hf204
              exact OpX.val (Value.int .i64 x192) wd197 rfl (op_load one_2 e205 (Ext.cell he198 hc207)) (Ext.refl _) ⟨rfl, hr208⟩
            · refine ObX.op rfl ?_
              intro f209 wd210 he211 hout212 hphi213
              have hS214 : St wd2 wd210 [(Ty.sl (Ty.i .i64)).at (f91 8) x26, (Ty.sl (Ty.i .i64)).at (f91 12) x129] := St.extend hS145 he211
              have e215 : f209 1 = (Value.pointer (some ⟨b1, 0, none⟩)) := (hout212 1 rfl).trans hf138
              exact OpX.val (Value.pointer (some ⟨b1, 0, none⟩)) wd210 rfl (op_fieldAddr fd_29_0 e215) (Ext.refl _) rfl
            · refine ObX.op rfl ?_
              intro f216 wd217 he218 hout219 hphi220
              have hS221 : St wd2 wd217 [(Ty.sl (Ty.i .i64)).at (f91 8) x26, (Ty.sl (Ty.i .i64)).at (f91 12) x129] := St.extend hS145 he218
              obtain ⟨S222, hS223, hf224⟩ := hphi220 6 32 _ rfl rfl rfl
              have e225 : f216 32 = (Value.pointer (some ⟨b1, 0, none⟩)) := hf224
              exact OpX.val v_r_Table wd217 rfl (op_load one_22 e225 (BoxAt.cell (BoxAt.lift hS221.ext hx6) rfl)) (Ext.refl _) rfl
            · refine ObX.op rfl ?_
              intro f226 wd227 he228 hout229 hphi230
              have hS231 : St wd2 wd227 [(Ty.sl (Ty.i .i64)).at (f91 8) x26, (Ty.sl (Ty.i .i64)).at (f91 12) x129] := St.extend hS145 he228
              have e232 : f226 5 = (Value.int .i64 (k107 : Int)) := (hout229 5 rfl).trans hf141
              exact OpX.val (Value.int .i64 (k107 : Int)) wd227 rfl (op_move e232) (Ext.refl _) ⟨rfl, hr121⟩
            · refine ObX.op rfl ?_
              intro f233 wd234 he235 hout236 hphi237
              have hS238 : St wd2 wd234 [(Ty.sl (Ty.i .i64)).at (f91 8) x26, (Ty.sl (Ty.i .i64)).at (f91 12) x129] := St.extend hS145 he235
              obtain ⟨S239, hS240, hf241⟩ := hphi237 7 33 _ rfl rfl rfl
              have e242 : f233 33 = v_r_Table := hf241
              obtain ⟨S243, hS244, hf245⟩ := hphi237 8 34 _ rfl rfl rfl
              obtain ⟨e246, hr247⟩ : f233 34 = (Value.int .i64 (k107 : Int)) ∧ InR .i64 (k107 : Int) := hf245
              exact OpX.val (Value.pointer (some (elA v_r_Table ((k107 : Int)).toNat))) wd234 rfl (op_idx sl_22 (Ty.lift _ (Ext.trans hE7 hS238.ext) r_r_Table) e242 e246 ha249 hb250) (Ext.refl _) rfl
            · refine ObX.op rfl ?_
              intro f252 wd253 he254 hout255 hphi256
              have hS257 : St wd2 wd253 [(Ty.sl (Ty.i .i64)).at (f91 8) x26, (Ty.sl (Ty.i .i64)).at (f91 12) x129] := St.extend hS145 he254
              obtain ⟨S258, hS259, hf260⟩ := hphi256 9 35 _ rfl rfl rfl
              have e261 : f252 35 = (Value.pointer (some (elA v_r_Table ((k107 : Int)).toNat))) := hf260
              exact OpX.val u262 wd253 rfl (op_load one_40 e261 (Ext.cell (Ext.trans hE7 hS257.ext) hc263)) (Ext.refl _) rfl
            · refine ObX.op rfl ?_
              intro f265 wd266 he267 hout268 hphi269
              have hS270 : St wd2 wd266 [(Ty.sl (Ty.i .i64)).at (f91 8) x26, (Ty.sl (Ty.i .i64)).at (f91 12) x129] := St.extend hS145 he267
              have e271 : f265 3 = (f91 8) := (hout268 3 rfl).trans hf139
              exact OpX.val (f91 8) wd266 rfl (op_move e271) (Ext.refl _) rfl
            · refine ObX.op rfl ?_
              intro f272 wd273 he274 hout275 hphi276
              have hS277 : St wd2 wd273 [(Ty.sl (Ty.i .i64)).at (f91 8) x26, (Ty.sl (Ty.i .i64)).at (f91 12) x129] := St.extend hS145 he274
              have e278 : f272 5 = (Value.int .i64 (k107 : Int)) := (hout275 5 rfl).trans hf141
              exact OpX.val (Value.int .i64 (k107 : Int)) wd273 rfl (op_move e278) (Ext.refl _) ⟨rfl, hr121⟩
            · refine ObX.op rfl ?_
              intro f279 wd280 he281 hout282 hphi283
              have hS284 : St wd2 wd280 [(Ty.sl (Ty.i .i64)).at (f91 8) x26, (Ty.sl (Ty.i .i64)).at (f91 12) x129] := St.extend hS145 he281
              obtain ⟨S285, hS286, hf287⟩ := hphi283 11 37 _ rfl rfl rfl
              have e288 : f279 37 = (f91 8) := hf287
              obtain ⟨S289, hS290, hf291⟩ := hphi283 12 38 _ rfl rfl rfl
              obtain ⟨e292, hr293⟩ : f279 38 = (Value.int .i64 (k107 : Int)) ∧ InR .i64 (k107 : Int) := hf291
              exact OpX.val (Value.pointer (some (elA (f91 8) ((k107 : Int)).toNat))) wd280 rfl (op_idx sl_25 (St.rep (t := (Ty.sl (Ty.i .i64))) hS284 0 rfl) e288 e292 ha295 hb296) (Ext.refl _) rfl
            · refine ObX.op rfl ?_
              intro f298 wd299 he300 hout301 hphi302
              have hS303 : St wd2 wd299 [(Ty.sl (Ty.i .i64)).at (f91 8) x26, (Ty.sl (Ty.i .i64)).at (f91 12) x129] := St.extend hS145 he300
              obtain ⟨S304, hS305, hf306⟩ := hphi302 13 39 _ rfl rfl rfl
              have e307 : f298 39 = (Value.pointer (some (elA (f91 8) ((k107 : Int)).toNat))) := hf306
              exact OpX.val (Value.int .i64 x294) wd299 rfl (op_load one_2 e307 (Ext.cell he300 hc309)) (Ext.refl _) ⟨rfl, hr310⟩
            · refine ObX.op rfl ?_
              intro f311 wd312 he313 hout314 hphi315
              have hS316 : St wd2 wd312 [(Ty.sl (Ty.i .i64)).at (f91 8) x26, (Ty.sl (Ty.i .i64)).at (f91 12) x129] := St.extend hS145 he313
              obtain ⟨S317, hS318, hf319⟩ := hphi315 10 36 _ rfl rfl rfl
              have e320 : f311 36 = u262 := hf319
              obtain ⟨S321, hS322, hf323⟩ := hphi315 14 40 _ rfl rfl rfl
              obtain ⟨e324, hr325⟩ : f311 40 = (Value.int .i64 x294) ∧ InR .i64 x294 := hf323
              exact OpX.val (Value.pointer (some (elA u262 (x294).toNat))) wd312 rfl (op_idx sl_40 (Ty.lift _ (Ext.trans hE7 hS316.ext) hr264) e320 e324 ha327 hb328) (Ext.refl _) rfl
            · refine ObX.op rfl ?_
              intro f330 wd331 he332 hout333 hphi334
              have hS335 : St wd2 wd331 [(Ty.sl (Ty.i .i64)).at (f91 8) x26, (Ty.sl (Ty.i .i64)).at (f91 12) x129] := St.extend hS145 he332
              obtain ⟨S336, hS337, hf338⟩ := hphi334 15 41 _ rfl rfl rfl
              have e339 : f330 41 = (Value.pointer (some (elA u262 (x294).toNat))) := hf338
              exact OpX.val u340 wd331 rfl (op_load one_25 e339 (Ext.cell (Ext.trans hE7 hS335.ext) hc341)) (Ext.refl _) rfl
            · refine ObX.op rfl ?_
              intro f343 wd344 he345 hout346 hphi347
              have hS348 : St wd2 wd344 [(Ty.sl (Ty.i .i64)).at (f91 8) x26, (Ty.sl (Ty.i .i64)).at (f91 12) x129] := St.extend hS145 he345
              have e349 : f343 6 = (Value.int .i64 (k128 : Int)) := (hout346 6 rfl).trans hf142
              exact OpX.val (Value.int .i64 (k128 : Int)) wd344 rfl (op_move e349) (Ext.refl _) ⟨rfl, hr143⟩
            · refine ObX.op rfl ?_
              intro f350 wd351 he352 hout353 hphi354
              have hS355 : St wd2 wd351 [(Ty.sl (Ty.i .i64)).at (f91 8) x26, (Ty.sl (Ty.i .i64)).at (f91 12) x129] := St.extend hS145 he352
              obtain ⟨S356, hS357, hf358⟩ := hphi354 16 42 _ rfl rfl rfl
              have e359 : f350 42 = u340 := hf358
              obtain ⟨S360, hS361, hf362⟩ := hphi354 17 43 _ rfl rfl rfl
              obtain ⟨e363, hr364⟩ : f350 43 = (Value.int .i64 (k128 : Int)) ∧ InR .i64 (k128 : Int) := hf362
              exact OpX.val (Value.pointer (some (elA u340 ((k128 : Int)).toNat))) wd351 rfl (op_idx sl_25 (Ty.lift _ (Ext.trans hE7 hS355.ext) hr342) e359 e363 ha366 hb367) (Ext.refl _) rfl
            · refine ObX.op rfl ?_
              intro f369 wd370 he371 hout372 hphi373
              have hS374 : St wd2 wd370 [(Ty.sl (Ty.i .i64)).at (f91 8) x26, (Ty.sl (Ty.i .i64)).at (f91 12) x129] := St.extend hS145 he371
              obtain ⟨S375, hS376, hf377⟩ := hphi373 18 44 _ rfl rfl rfl
              have e378 : f369 44 = (Value.pointer (some (elA u340 ((k128 : Int)).toNat))) := hf377
              exact OpX.val (Value.int .i64 x365) wd370 rfl (op_load one_2 e378 (Ext.cell (Ext.trans hE7 hS374.ext) hc380)) (Ext.refl _) ⟨rfl, hr381⟩
            · refine ObX.op rfl ?_
              intro f382 wd383 he384 hout385 hphi386
              have hS387 : St wd2 wd383 [(Ty.sl (Ty.i .i64)).at (f91 8) x26, (Ty.sl (Ty.i .i64)).at (f91 12) x129] := St.extend hS145 he384
              obtain ⟨S388, hS389, hf390⟩ := hphi386 5 31 _ rfl rfl rfl
              obtain ⟨e391, hr392⟩ : f382 31 = (Value.int .i64 x192) ∧ InR .i64 x192 := hf390
              obtain ⟨S393, hS394, hf395⟩ := hphi386 19 45 _ rfl rfl rfl
              obtain ⟨e396, hr397⟩ : f382 45 = (Value.int .i64 x365) ∧ InR .i64 x365 := hf395
              exact OpX.val (Value.int .i64 (w64 (x192 + x365))) wd383 rfl (op_add e391 e396) (Ext.refl _) ⟨rfl, (inR_wrap _ _)⟩
            · intro f398 wd399 Ss400 he401 hout402 hSn403 hSd404 hphi405
              show WL _ _ _ _ _ _ _
              have hS406 : St wd2 wd399 [(Ty.sl (Ty.i .i64)).at (f91 8) x26, (Ty.sl (Ty.i .i64)).at (f91 12) x129] := St.extend hS145 he401
              have e407 : f398 26 = (f91 12) := hphi405 0 26 _ (by decide) rfl rfl
              obtain ⟨e408, hr409⟩ : f398 27 = (Value.int .i64 (k128 : Int)) ∧ InR .i64 (k128 : Int) := hphi405 1 27 _ (by decide) rfl rfl
              obtain ⟨e410, hr411⟩ : f398 46 = (Value.int .i64 (w64 (x192 + x365))) ∧ InR .i64 (w64 (x192 + x365)) := hphi405 20 46 _ (by decide) rfl rfl
              have e412 : f398 1 = (Value.pointer (some ⟨b1, 0, none⟩)) := (hout402 1 rfl).trans hf138
              have e413 : f398 3 = (f91 8) := (hout402 3 rfl).trans hf139
              have e414 : f398 4 = (f91 12) := (hout402 4 rfl).trans hf140
              have e415 : f398 5 = (Value.int .i64 (k107 : Int)) := (hout402 5 rfl).trans hf141
              have e416 : f398 6 = (Value.int .i64 (k128 : Int)) := (hout402 6 rfl).trans hf142
              refine WL.val (Value.pointer (some (elA (f91 12) ((k128 : Int)).toNat))) _ (op_idx sl_25 (St.rep (t := (Ty.sl (Ty.i .i64))) hS406 1 rfl) e407 e408 ha193 hb194) rfl ?_
              refine WL.storeEl (flat_i .i64) hS406 (k := 1) rfl sz_2 rfl e410 (lt_of_idx ha193 hb194) ⟨rfl, hr411⟩ ?_
              intro wd417 hS418
              replace hS418 : St wd2 wd417 [(Ty.sl (Ty.i .i64)).at (f91 8) x26, (Ty.sl (Ty.i .i64)).at (f91 12) ((x129).set ((k128 : Int)).toNat (w64 (x192 + x365)))] := hS418
              refine WL.nil ?_
              show W _ _ _ _ _ _
              refine W.region ?_
              refine WL.val (Value.int .i64 (k128 : Int)) _ (op_move e416) rfl ?_
              refine WL.val (Value.int .i64 (w64 ((k128 : Int) + (1 : Int)))) _ (op_add rfl rfl) rfl ?_
              refine WL.val (Value.int .i64 (w64 ((k128 : Int) + (1 : Int)))) _ (op_assign rfl) rfl ?_
              refine WL.nil ?_
              obtain rfl := Option.some.inj hb134
              show ∃ s, _ = Ctl.next s ∧ _
              exact ⟨_, rfl, e412, e413, e414, e415, (ctr_next hl147 hr146), (ctr_rng hl147 hr146), (by first | exact hL144 | (simp only [List.length_set]; exact hL144)), hS418⟩
          · intro x425 f420 wd421 hs422 hI423
            replace hI423 : f420 1 = (Value.pointer (some ⟨b1, 0, none⟩)) ∧ f420 3 = (f91 8) ∧ f420 4 = (f91 12) ∧ f420 5 = (Value.int .i64 (k107 : Int)) ∧ f420 6 = Value.int .i64 (((x108).length : Nat) : Int) ∧ InR .i64 (((x108).length : Nat) : Int) ∧ (x425).length = (x108).length ∧ St wd2 wd421 [(Ty.sl (Ty.i .i64)).at (f91 8) x26, (Ty.sl (Ty.i .i64)).at (f91 12) x425] := hI423
            obtain ⟨hf426, hf427, hf428, hf429, hf430, hr431, hL432, hS433⟩ := hI423
            refine W.seq (W.seq (W.region ?_))
            refine WL.val (Value.int .i64 (((x108).length : Nat) : Int)) _ (op_move hf430) rfl ?_
            refine WL.val (f91 12) _ (op_move hf428) rfl ?_
            have hr434 := inR_len (St.rep (t := (Ty.sl (Ty.i .i64))) hS433 1 rfl)
            refine WL.val (Value.int .i64 ((x425).length : Int)) _ (op_lenL sl_25 (St.rep (t := (Ty.sl (Ty.i .i64))) hS433 1 rfl) rfl) rfl ?_
            refine WL.val (Value.bool (decide ((((x108).length : Nat) : Int) < ((x425).length : Int)))) _ (op_lss rfl rfl) rfl ?_
            have hl435 : ¬ (((x108).length : Nat) : Int) < ((x425).length : Int) := by omega
            refine WL.nil ?_
            show W _ _ _ _ _ _
            refine W.condF (decide ((((x108).length : Nat) : Int) < ((x425).length : Int))) rfl (decide_eq_false hl435) ?_
            refine W.exit ?_
            show _ = _ ∧ _
            exact ⟨rfl, _, hs422, hf426, hf427, hf428, hf429, (by first | exact hL432 | (simp only [List.length_set]; exact hL432)), hS433⟩
        · rintro f436 wd437 ⟨x440, rfl, hq438⟩
          replace hb113 := onRes_fin hb113
          replace hq438 : f436 1 = (Value.pointer (some ⟨b1, 0, none⟩)) ∧ f436 3 = (f91 8) ∧ f436 4 = (f91 12) ∧ f436 5 = (Value.int .i64 (k107 : Int)) ∧ (x440).length = (x108).length ∧ St wd2 wd437 [(Ty.sl (Ty.i .i64)).at (f91 8) x26, (Ty.sl (Ty.i .i64)).at (f91 12) x440] := hq438
          obtain ⟨hf441, hf442, hf443, hf444, hL445, hS446⟩ := hq438
          show W _ _ _ _ _ _
          refine W.region ?_
          refine WL.val (Value.int .i64 (k107 : Int)) _ (op_move hf444) rfl ?_
          refine WL.val (Value.int .i64 (w64 ((k107 : Int) + (1 : Int)))) _ (op_add rfl rfl) rfl ?_
          refine WL.val (Value.int .i64 (w64 ((k107 : Int) + (1 : Int)))) _ (op_assign rfl) rfl ?_
          refine WL.nil ?_
          obtain rfl := Option.some.inj hb113
          show ∃ s, _ = Ctl.next s ∧ _
          exact ⟨_, rfl, hf441, hf442, hf443, (ctr_next hl124 hr123), (ctr_rng hl124 hr123), hS446⟩
      · intro x454 f449 wd450 hs451 hI452
        replace hI452 : f449 1 = (Value.pointer (some ⟨b1, 0, none⟩)) ∧ f449 3 = (f91 8) ∧ f449 4 = (f91 12) ∧ f449 5 = Value.int .i64 (((r_Table).length : Nat) : Int) ∧ InR .i64 (((r_Table).length : Nat) : Int) ∧ St wd2 wd450 [(Ty.sl (Ty.i .i64)).at (f91 8) x26, (Ty.sl (Ty.i .i64)).at (f91 12) x454] := hI452
        obtain ⟨hf455, hf456, hf457, hf458, hr459, hS460⟩ := hI452
        refine W.seq (W.seq (W.region ?_))
        refine WL.val (Value.int .i64 (((r_Table).length : Nat) : Int)) _ (op_move hf458) rfl ?_
        refine WL.val (Value.pointer (some ⟨b1, 0, none⟩)) _ (op_fieldAddr fd_29_0 hf455) rfl ?_
        refine WL.val v_r_Table _ (op_load one_22 rfl (BoxAt.cell (BoxAt.lift hS460.ext hx6) rfl)) rfl ?_
        have hr461 := inR_len (Ty.lift _ (Ext.trans hE7 hS460.ext) r_r_Table)
        refine WL.val (Value.int .i64 ((r_Table).length : Int)) _ (op_lenL sl_22 (Ty.lift _ (Ext.trans hE7 hS460.ext) r_r_Table) rfl) rfl ?_
        refine WL.val (Value.bool (decide ((((r_Table).length : Nat) : Int) < ((r_Table).length : Int)))) _ (op_lss rfl rfl) rfl ?_
        have hl462 : ¬ (((r_Table).length : Nat) : Int) < ((r_Table).length : Int) := by omega
        refine WL.nil ?_
        show W _ _ _ _ _ _
        refine W.condF (decide ((((r_Table).length : Nat) : Int) < ((r_Table).length : Int))) rfl (decide_eq_false hl462) ?_
        refine W.exit ?_
        show _ = _ ∧ _
        exact ⟨rfl, _, hs451, hf457, (St.pick hS460 [1] rfl)⟩
    · rintro f463 wd464 ⟨x467, rfl, hq465⟩
      replace h := onRes_fin h
      replace hq465 : f463 4 = (f91 12) ∧ St wd2 wd464 [(Ty.sl (Ty.i .i64)).at (f91 12) x467] := hq465
      obtain ⟨hf468, hS469⟩ := hq465
      show W _ _ _ _ _ _
      refine W.seq (W.region ?_)
      refine WL.val (f91 12) _ (op_move hf468) rfl ?_
      refine WL.val (f91 12) _ (op_assign rfl) rfl ?_
      refine WL.nil ?_
      show W _ _ _ _ _ _
      refine W.ret ?_
      obtain rfl := Option.some.inj h
      show FinP _ _ _ _ _ _ _
      exact FinP.ret _ (res1 rfl rfl) ⟨(f91 12), rfl, (Ext.trans hE7 hS469.ext), (St.out (St.pick hS469 [0] rfl) (hE7))⟩

theorem c_spec_l15Times {w : World} {r_Table : (List (List (List Int)))} {v_r_Table : Value} {x : (List Int)} {v_x : Value} {y : (List Int)} {v_y : Value} (r_r_Table : (Ty.sl (Ty.sl (Ty.sl (Ty.i .i64)))).rep w v_r_Table r_Table) (r_x : (Ty.sl (Ty.i .i64)).rep w v_x x) (r_y : (Ty.sl (Ty.i .i64)).rep w v_y y) {res : (List Int) × Bool} (h : p_spec_l15Times r_Table x y  = some res) :
    Ret Try.prog 65 #[(Value.agg #[v_r_Table]), v_x, v_y] w (fun v w' => ∃ (u0 : Value), v = (Value.tuple #[u0, Value.bool res.2]) ∧ Ext w w' ∧ Sep w.heap.size w' [(Ty.sl (Ty.i .i64)).at u0 res.1]) := by
  unfold p_spec_l15Times at h
  have hS0 : St w w [] := St.start w
  refine Ret.start (fn := Try.f65) Try.func65 rfl 98 rfl rfl ?_
  refine W.seq (W.region ?_)
  refine WL.box hS0 rfl (cs := [v_r_Table]) rfl rfl ?_
  intro b1 wd2 hS3 he4 hx5
  replace hS3 : St w wd2 [bx b1 [v_r_Table]] := hS3
  have hx6 := St.boxAt hS3 0 rfl
  have hE7 : Ext w wd2 := hS3.ext
  have hS8 : St wd2 wd2 [] := St.start wd2
  refine WL.val (Value.slice none 0 0) _ (op_assign rfl) rfl ?_
  refine WL.val (Value.bool false) _ (op_assign rfl) rfl ?_
  refine WL.nil ?_
  show W _ _ _ _ _ _
  refine W.seq (W.region ?_)
  refine WL.val v_x _ (op_move rfl) rfl ?_
  have hr9 := inR_len (Ty.lift _ (Ext.trans hE7 hS8.ext) r_x)
  refine WL.val (Value.int .i64 ((x).length : Int)) _ (op_lenL sl_25 (Ty.lift _ (Ext.trans hE7 hS8.ext) r_x) rfl) rfl ?_
  obtain ⟨x10, hx11, h⟩ := bs h
  refine WL.make (t := (Ty.i .i64)) hS8 sl_25 (fun _ _ => ⟨rfl, (inR_i64.2 (show (-9223372036854775808 : Int) ≤ 0 ∧ (0 : Int) ≤ 9223372036854775807 from by decide))⟩) rfl rfl hx11 rfl rfl ?_
  intro u12 wd13 hS14 he15
  replace hS14 : St wd2 wd13 [(Ty.sl (Ty.i .i64)).at u12 x10] := hS14
  refine WL.val u12 _ (op_assign rfl) rfl ?_
  refine WL.nil ?_
  show W _ _ _ _ _ _
  refine W.seq (W.seq (W.region ?_))
  refine WL.val (Value.int .i64 (0 : Int)) _ (op_assign rfl) rfl ?_
  refine WL.nil ?_
  show W _ _ _ _ _ _
  obtain ⟨res16, hres17, h⟩ := bs h
  refine W.blockLoop (fun fq wq => ∃ s, res16 = Res.fin s ∧ fq 8 = u12 ∧ St wd2 wq [(Ty.sl (Ty.i .i64)).at u12 s]) ?_ ?_
  · refine W.forN (fun k (s : (List Int)) fq wq => fq 1 = v_x ∧ fq 2 = v_y ∧ fq 3 = (Value.pointer (some ⟨b1, 0, none⟩)) ∧ fq 8 = u12 ∧ fq 9 = Value.int .i64 (k : Int) ∧ InR .i64 (k : Int) ∧ St wd2 wq [(Ty.sl (Ty.i .i64)).at u12 s]) hres17 ⟨rfl, rfl, rfl, rfl, rfl, (inR_i64.2 (show (-9223372036854775808 : Int) ≤ 0 ∧ (0 : Int) ≤ 9223372036854775807 from by decide)), hS14⟩ ?_ ?_
    · intro k18 x19 ct20 f21 wd22 hk23 hb24 hI25 hbrk26 hret27
      replace hI25 : f21 1 = v_x ∧ f21 2 = v_y ∧ f21 3 = (Value.pointer (some ⟨b1, 0, none⟩)) ∧ f21 8 = u12 ∧ f21 9 = Value.int .i64 (k18 : Int) ∧ InR .i64 (k18 : Int) ∧ St wd2 wd22 [(Ty.sl (Ty.i .i64)).at u12 x19] := hI25
      replace hb24 : p_spec_l15Times_L1 x y r_Table k18 x19 = some ct20 := hb24
      unfold p_spec_l15Times_L1 at hb24
      obtain ⟨hf28, hf29, hf30, hf31, hf32, hr33, hS34⟩ := hI25
      refine W.seq (W.seq (W.region ?_))
      refine WL.val (Value.int .i64 (k18 : Int)) _ (op_move hf32) rfl ?_
      refine WL.val v_x _ (op_move hf28) rfl ?_
      have hr35 := inR_len (Ty.lift _ (Ext.trans hE7 hS34.ext) r_x)
      refine WL.val (Value.int .i64 ((x).length : Int)) _ (op_lenL sl_25 (Ty.lift _ (Ext.trans hE7 hS34.ext) r_x) rfl) rfl ?_
      refine WL.val (Value.bool (decide ((k18 : Int) < ((x).length : Int)))) _ (op_lss rfl rfl) rfl ?_
      have hl36 : (k18 : Int) < ((x).length : Int) := by omega
      refine WL.nil ?_
      show W _ _ _ _ _ _
      refine W.condT (decide ((k18 : Int) < ((x).length : Int))) rfl (decide_eq_true hl36) ?_
      refine W.skip ?_
      show W _ _ _ _ _ _
      refine W.seq ?_
      refine W.block ?_
      refine W.seq (W.region ?_)
      refine WL.val (Value.int .i64 (0 : Int)) _ (op_assign rfl) rfl ?_
      refine WL.nil ?_
      show W _ _ _ _ _ _
      obtain ⟨res38, hres39, hb24⟩ := bs hb24
      refine W.blockLoop (fun fq wq => ∃ s, res38 = Res.fin s ∧ fq 1 = v_x ∧ fq 2 = v_y ∧ fq 3 = (Value.pointer (some ⟨b1, 0, none⟩)) ∧ fq 8 = u12 ∧ fq 9 = (Value.int .i64 (k18 : Int)) ∧ St wd2 wq [(Ty.sl (Ty.i .i64)).at u12 s]) ?_ ?_
      · refine W.forN (fun k (s : (List Int)) fq wq => fq 1 = v_x ∧ fq 2 = v_y ∧ fq 3 = (Value.pointer (some ⟨b1, 0, none⟩)) ∧ fq 8 = u12 ∧ fq 9 = (Value.int .i64 (k18 : Int)) ∧ fq 10 = Value.int .i64 (k : Int) ∧ InR .i64 (k : Int) ∧ St wd2 wq [(Ty.sl (Ty.i .i64)).at u12 s]) hres39 ⟨hf28, hf29, hf30, hf31, hf32, rfl, (inR_i64.2 (show (-9223372036854775808 : Int) ≤ 0 ∧ (0 : Int) ≤ 9223372036854775807 from by decide)), hS34⟩ ?_ ?_
        · intro k40 x41 ct42 f43 wd44 hk45 hb46 hI47 hbrk48 hret49
          replace hI47 : f43 1 = v_x ∧ f43 2 = v_y ∧ f43 3 = (Value.pointer (some ⟨b1, 0, none⟩)) ∧ f43 8 = u12 ∧ f43 9 = (Value.int .i64 (k18 : Int)) ∧ f43 10 = Value.int .i64 (k40 : Int) ∧ InR .i64 (k40 : Int) ∧ St wd2 wd44 [(Ty.sl (Ty.i .i64)).at u12 x41] := hI47
          replace hb46 : p_spec_l15Times_L2 x k18 y r_Table k40 x41 = some ct42 := hb46
          unfold p_spec_l15Times_L2 at hb46
          obtain ⟨hf50, hf51, hf52, hf53, hf54, hf55, hr56, hS57⟩ := hI47
          refine W.seq (W.seq (W.region ?_))
          refine WL.val (Value.int .i64 (k40 : Int)) _ (op_move hf55) rfl ?_
          refine WL.val v_y _ (op_move hf51) rfl ?_
          have hr58 := inR_len (Ty.lift _ (Ext.trans hE7 hS57.ext) r_y)
          refine WL.val (Value.int .i64 ((y).length : Int)) _ (op_lenL sl_25 (Ty.lift _ (Ext.trans hE7 hS57.ext) r_y) rfl) rfl ?_
          refine WL.val (Value.bool (decide ((k40 : Int) < ((y).length : Int)))) _ (op_lss rfl rfl) rfl ?_
          have hl59 : (k40 : Int) < ((y).length : Int) := by omega
          refine WL.nil ?_
          show W _ _ _ _ _ _
          refine W.condT (decide ((k40 : Int) < ((y).length : Int))) rfl (decide_eq_true hl59) ?_
          refine W.skip ?_
          show W _ _ _ _ _ _
          refine W.seq ?_
          refine W.block ?_
          refine W.seq (W.region ?_)
          refine WL.val (Value.int .i64 (0 : Int)) _ (op_assign rfl) rfl ?_
          refine WL.nil ?_
          show W _ _ _ _ _ _
          obtain ⟨res61, hres62, hb46⟩ := bs hb46
          refine W.blockLoop (fun fq wq => ∃ s, res61 = Res.fin s ∧ fq 1 = v_x ∧ fq 2 = v_y ∧ fq 3 = (Value.pointer (some ⟨b1, 0, none⟩)) ∧ fq 8 = u12 ∧ fq 9 = (Value.int .i64 (k18 : Int)) ∧ fq 10 = (Value.int .i64 (k40 : Int)) ∧ St wd2 wq [(Ty.sl (Ty.i .i64)).at u12 s.1]) ?_ ?_
          · refine W.whileC (fun (s : (List Int) × Int) fq wq => fq 1 = v_x ∧ fq 2 = v_y ∧ fq 3 = (Value.pointer (some ⟨b1, 0, none⟩)) ∧ fq 8 = u12 ∧ fq 9 = (Value.int .i64 (k18 : Int)) ∧ fq 10 = (Value.int .i64 (k40 : Int)) ∧ fq 11 = Value.int .i64 s.2 ∧ InR .i64 s.2 ∧ St wd2 wq [(Ty.sl (Ty.i .i64)).at u12 s.1]) hres62 ⟨hf50, hf51, hf52, hf53, hf54, hf55, rfl, (inR_i64.2 (show (-9223372036854775808 : Int) ≤ 0 ∧ (0 : Int) ≤ 9223372036854775807 from by decide)), hS57⟩ ?_
            intro s537 ct66 f67 wd68 hb70 hI71 hbrk72 hret73
            obtain ⟨x64, x65⟩ := s537
            replace hI71 : f67 1 = v_x ∧ f67 2 = v_y ∧ f67 3 = (Value.pointer (some ⟨b1, 0, none⟩)) ∧ f67 8 = u12 ∧ f67 9 = (Value.int .i64 (k18 : Int)) ∧ f67 10 = (Value.int .i64 (k40 : Int)) ∧ f67 11 = Value.int .i64 x65 ∧ InR .i64 x65 ∧ St wd2 wd68 [(Ty.sl (Ty.i .i64)).at u12 x64] := hI71
            replace hb70 : p_spec_l15Times_L3 x k18 y k40 r_Table  x64 x65 = some ct66 := hb70
            unfold p_spec_l15Times_L3 at hb70
            obtain ⟨hf74, hf75, hf76, hf77, hf78, hf79, hf80, hr81, hS82⟩ := hI71
            refine W.seq (W.seq (W.region ?_))
            refine WL.val (Value.int .i64 x65) _ (op_move hf80) rfl ?_
            refine WL.val u12 _ (op_move hf77) rfl ?_
            have hr83 := inR_len (St.rep (t := (Ty.sl (Ty.i .i64))) hS82 0 rfl)
            refine WL.val (Value.int .i64 ((x64).length : Int)) _ (op_lenL sl_25 (St.rep (t := (Ty.sl (Ty.i .i64))) hS82 0 rfl) rfl) rfl ?_
            refine WL.val (Value.bool (decide (x65 < ((x64).length : Int)))) _ (op_lss rfl rfl) rfl ?_
            refine WL.val (Value.bool (decide (x65 < ((x64).length : Int)))) _ (op_move rfl) rfl ?_
            obtain ⟨x85, hj86, hb70⟩ := bs hb70
            refine WL.cut 6 (fun fq wq => fq 1 = v_x ∧ fq 2 = v_y ∧ fq 3 = (Value.pointer (some ⟨b1, 0, none⟩)) ∧ fq 8 = u12 ∧ fq 9 = (Value.int .i64 (k18 : Int)) ∧ fq 10 = (Value.int .i64 (k40 : Int)) ∧ fq 11 = (Value.int .i64 x65) ∧ fq 38 = Value.bool x85 ∧ St wd2 wq [(Ty.sl (Ty.i .i64)).at u12 x64]) ?_ ?_
            · rcases Bool.eq_false_or_eq_true (decide (x65 < ((x64).length : Int))) with hc84 | hc84
              · replace hj86 := ip hj86 hc84
                refine WL.grun rfl (bool_of rfl hc84) ?_
                refine WL.val v_x _ (op_move hf74) rfl ?_
                refine WL.grun rfl (bool_of rfl hc84) ?_
                refine WL.val (Value.int .i64 (k18 : Int)) _ (op_move hf78) rfl ?_
                refine WL.grun rfl (bool_of rfl hc84) ?_
                obtain ⟨x90, hx93, hj86⟩ := bs hj86
                obtain ⟨ha91, hb92, hx93⟩ := idx_some hx93
                refine WL.val (Value.pointer (some (elA v_x ((k18 : Int)).toNat))) _ (op_idx sl_25 (Ty.lift _ (Ext.trans hE7 hS82.ext) r_x) rfl rfl ha91 hb92) rfl ?_
                refine WL.grun rfl (bool_of rfl hc84) ?_
                obtain ⟨u94, hc95, hr96⟩ := repSl.el r_x hx93
                obtain ⟨rfl, hr96⟩ := hr96
                refine WL.val (Value.int .i64 x90) _ (op_load one_2 rfl (Ext.cell (Ext.trans hE7 hS82.ext) hc95)) rfl ?_
                refine WL.grun rfl (bool_of rfl hc84) ?_
                refine WL.val (Value.bool (x90 != (0 : Int))) _ (op_neq rfl rfl) rfl ?_
                refine WL.val (Value.bool (x90 != (0 : Int))) _ (op_pick_t (evb_of rfl hc84) rfl) rfl ?_
                refine WL.nil ?_
                obtain rfl := Option.some.inj hj86
                exact ⟨rfl, hf74, hf75, hf76, hf77, hf78, hf79, hf80, rfl, hS82⟩
              · replace hj86 := inegb hj86 hc84
                refine WL.gskip rfl (bool_of rfl hc84) rfl ?_
                refine WL.gskip rfl (bool_of rfl hc84) rfl ?_
                refine WL.gskip rfl (bool_of rfl hc84) rfl ?_
                refine WL.gskip rfl (bool_of rfl hc84) rfl ?_
                refine WL.gskip rfl (bool_of rfl hc84) rfl ?_
                refine WL.val (Value.bool false) _ (op_pick_f (evb_of rfl hc84) rfl) rfl ?_
                refine WL.nil ?_
                obtain rfl := Option.some.inj hj86
                exact ⟨rfl, hf74, hf75, hf76, hf77, hf78, hf79, hf80, rfl, hS82⟩
            · intro f87 wd88 hq89
              obtain ⟨hf97, hf98, hf99, hf100, hf101, hf102, hf103, hf104, hS105⟩ := hq89
              refine WL.val (Value.bool x85) _ (op_move hf104) rfl ?_
              obtain ⟨x107, hj108, hb70⟩ := bs hb70
              refine WL.cut 6 (fun fq wq => fq 1 = v_x ∧ fq 2 = v_y ∧ fq 3 = (Value.pointer (some ⟨b1, 0, none⟩)) ∧ fq 8 = u12 ∧ fq 9 = (Value.int .i64 (k18 : Int)) ∧ fq 10 = (Value.int .i64 (k40 : Int)) ∧ fq 11 = (Value.int .i64 x65) ∧ fq 45 = Value.bool x107 ∧ St wd2 wq [(Ty.sl (Ty.i .i64)).at u12 x64]) ?_ ?_
              · rcases Bool.eq_false_or_eq_true x85 with hc106 | hc106
                · replace hj108 := ip hj108 hc106
                  refine WL.grun rfl (bool_of rfl hc106) ?_
                  refine WL.val v_y _ (op_move hf98) rfl ?_
                  refine WL.grun rfl (bool_of rfl hc106) ?_
                  refine WL.val (Value.int .i64 (k40 : Int)) _ (op_move hf102) rfl ?_
                  refine WL.grun rfl (bool_of rfl hc106) ?_
                  obtain ⟨x112, hx115, hj108⟩ := bs hj108
                  obtain ⟨ha113, hb114, hx115⟩ := idx_some hx115
                  refine WL.val (Value.pointer (some (elA v_y ((k40 : Int)).toNat))) _ (op_idx sl_25 (Ty.lift _ (Ext.trans hE7 hS105.ext) r_y) rfl rfl ha113 hb114) rfl ?_
                  refine WL.grun rfl (bool_of rfl hc106) ?_
                  obtain ⟨u116, hc117, hr118⟩ := repSl.el r_y hx115
                  obtain ⟨rfl, hr118⟩ := hr118
                  refine WL.val (Value.int .i64 x112) _ (op_load one_2 rfl (Ext.cell (Ext.trans hE7 hS105.ext) hc117)) rfl ?_
                  refine WL.grun rfl (bool_of rfl hc106) ?_
                  refine WL.val (Value.bool (x112 != (0 : Int))) _ (op_neq rfl rfl) rfl ?_
                  refine WL.val (Value.bool (x112 != (0 : Int))) _ (op_pick_t (evb_of rfl hc106) rfl) rfl ?_
                  refine WL.nil ?_
                  obtain rfl := Option.some.inj hj108
                  exact ⟨rfl, hf97, hf98, hf99, hf100, hf101, hf102, hf103, rfl, hS105⟩
                · replace hj108 := inegb hj108 hc106
                  refine WL.gskip rfl (bool_of rfl hc106) rfl ?_
                  refine WL.gskip rfl (bool_of rfl hc106) rfl ?_
                  refine WL.gskip rfl (bool_of rfl hc106) rfl ?_
                  refine WL.gskip rfl (bool_of rfl hc106) rfl ?_
                  refine WL.gskip rfl (bool_of rfl hc106) rfl ?_
                  refine WL.val (Value.bool false) _ (op_pick_f (evb_of rfl hc106) rfl) rfl ?_
                  refine WL.nil ?_
                  obtain rfl := Option.some.inj hj108
                  exact ⟨rfl, hf97, hf98, hf99, hf100, hf101, hf102, hf103, rfl, hS105⟩
              · intro f109 wd110 hq111
                obtain ⟨hf119, hf120, hf121, hf122, hf123, hf124, hf125, hf126, hS127⟩ := hq111
                refine WL.nil ?_
                show W _ _ _ _ _ _
                refine W.cond x107 hf126 (fun hc128 => ?_) (fun hc128 => ?_)
                · replace hb70 := ip hb70 hc128
                  refine W.skip ?_
                  show W _ _ _ _ _ _
                  refine W.seq ?_
                  refine W.block ?_
                  refine W.seq (W.region ?_)
                  refine WL.val (Value.pointer (some ⟨b1, 0, none⟩)) _ (op_fieldAddr fd_29_0 hf121) rfl ?_
                  refine WL.val v_r_Table _ (op_load one_22 rfl (BoxAt.cell (BoxAt.lift hS127.ext hx6) rfl)) rfl ?_
                  refine WL.val (Value.int .i64 (k18 : Int)) _ (op_move hf123) rfl ?_
                  obtain ⟨x130, hx133, hb70⟩ := bs hb70
                  obtain ⟨ha131, hb132, hx133⟩ := idx_some hx133
                  refine WL.val (Value.pointer (some (elA v_r_Table ((k18 : Int)).toNat))) _ (op_idx sl_22 (Ty.lift _ (Ext.trans hE7 hS127.ext) r_r_Table) rfl rfl ha131 hb132) rfl ?_
                  obtain ⟨u134, hc135, hr136⟩ := repSl.el r_r_Table hx133
                  refine WL.val u134 _ (op_load one_40 rfl (Ext.cell (Ext.trans hE7 hS127.ext) hc135)) rfl ?_
                  refine WL.val (Value.int .i64 (k40 : Int)) _ (op_move hf124) rfl ?_
                  obtain ⟨x137, hx140, hb70⟩ := bs hb70
                  obtain ⟨ha138, hb139, hx140⟩ := idx_some hx140
                  refine WL.val (Value.pointer (some (elA u134 ((k40 : Int)).toNat))) _ (op_idx sl_40 (Ty.lift _ (Ext.trans hE7 hS127.ext) hr136) rfl rfl ha138 hb139) rfl ?_
                  obtain ⟨u141, hc142, hr143⟩ := repSl.el hr136 hx140
                  refine WL.val u141 _ (op_load one_25 rfl (Ext.cell (Ext.trans hE7 hS127.ext) hc142)) rfl ?_
                  refine WL.val (Value.int .i64 x65) _ (op_move hf125) rfl ?_
                  obtain ⟨x144, hx147, hb70⟩ := bs hb70
                  obtain ⟨ha145, hb146, hx147⟩ := idx_some hx147
                  refine WL.val (Value.pointer (some (elA u141 (x65).toNat))) _ (op_idx sl_25 (Ty.lift _ (Ext.trans hE7 hS127.ext) hr143) rfl rfl ha145 hb146) rfl ?_
                  obtain ⟨u148, hc149, hr150⟩ := repSl.el hr143 hx147
                  obtain ⟨rfl, hr150⟩ := hr150
                  refine WL.val (Value.int .i64 x144) _ (op_load one_2 rfl (Ext.cell (Ext.trans hE7 hS127.ext) hc149)) rfl ?_
                  refine WL.val (Value.int .i64 x144) _ (op_assign rfl) rfl ?_
                  refine WL.nil ?_
                  show W _ _ _ _ _ _
                  refine W.seq (W.seq (W.region ?_))
                  refine WL.val (Value.int .i64 x144) _ (op_move rfl) rfl ?_
                  refine WL.val (Value.bool (x144 == (0 : Int))) _ (op_eql rfl rfl) rfl ?_
                  refine WL.nil ?_
                  show W _ _ _ _ _ _
                  refine W.cond (x144 == (0 : Int)) rfl (fun hc151 => ?_) (fun hc151 => ?_)
                  · replace hb70 := ip hb70 hc151
                    refine W.exit ?_
                    show W _ _ _ _ _ _
                    refine W.region ?_
                    refine WL.val (Value.int .i64 x65) _ (op_move hf125) rfl ?_
                    refine WL.val (Value.int .i64 (w64 (x65 + (1 : Int)))) _ (op_add rfl rfl) rfl ?_
                    refine WL.val (Value.int .i64 (w64 (x65 + (1 : Int)))) _ (op_assign rfl) rfl ?_
                    refine WL.nil ?_
                    obtain rfl := Option.some.inj hb70
                    show ∃ s, _ = Ctl.next s ∧ _
                    exact ⟨_, rfl, hf119, hf120, hf121, hf122, hf123, hf124, rfl, (inR_wrap _ _), hS127⟩
                  · replace hb70 := inegb hb70 hc151
                    refine W.skip ?_
                    show W _ _ _ _ _ _
                    refine W.seq (W.seq ?_)
                    obtain ⟨x182, hx185, hb70⟩ := bs hb70
                    obtain ⟨ha183, hb184, hx185⟩ := idx_some hx185
                    obtain ⟨u196, hc197, hr198⟩ := repSl.el r_x hx185
                    obtain ⟨rfl, hr198⟩ := hr198
                    obtain ⟨x228, hx231, hb70⟩ := bs hb70
                    obtain ⟨ha229, hb230, hx231⟩ := idx_some hx231
                    obtain ⟨u242, hc243, hr244⟩ := repSl.el r_y hx231
                    obtain ⟨rfl, hr244⟩ := hr244
                    obtain ⟨x279, hz280, hb70⟩ := bs hb70
                    obtain ⟨h0281, hz280⟩ := quoI_some hz280
                    refine W.drawR mixo 11 [] [fun _ v _ _ => v = v_x, fun _ v _ _ => v = (Value.int .i64 (k18 : Int)) ∧ InR .i64 (k18 : Int), fun _ v _ _ => v = (Value.pointer (some (elA v_x ((k18 : Int)).toNat))), fun _ v _ _ => v = (Value.int .i64 x182) ∧ InR .i64 x182, fun _ v _ _ => v = v_y, fun _ v _ _ => v = (Value.int .i64 (k40 : Int)) ∧ InR .i64 (k40 : Int), fun _ v _ _ => v = (Value.pointer (some (elA v_y ((k40 : Int)).toNat))), fun _ v _ _ => v = (Value.int .i64 x228) ∧ InR .i64 x228, fun _ v _ _ => v = (Value.int .i64 x144) ∧ InR .i64 x144, fun _ v _ _ => v = (Value.int .i64 (w64 (x228 * x144))) ∧ InR .i64 (w64 (x228 * x144)), fun _ v _ _ => v = (Value.int .i64 x279) ∧ InR .i64 x279] (by kernel_rfl) (by kernel_rfl) ⟨⟨fun _ _ _ _ _ _ h => h, fun _ _ _ _ _ _ h => h⟩, ⟨fun _ _ _ _ _ _ h => h, fun _ _ _ _ _ _ h => h⟩, ⟨fun _ _ _ _ _ _ h => h, fun _ _ _ _ _ _ h => h⟩, ⟨fun _ _ _ _ _ _ h => h, fun _ _ _ _ _ _ h => h⟩, ⟨fun _ _ _ _ _ _ h => h, fun _ _ _ _ _ _ h => h⟩, ⟨fun _ _ _ _ _ _ h => h, fun _ _ _ _ _ _ h => h⟩, ⟨fun _ _ _ _ _ _ h => h, fun _ _ _ _ _ _ h => h⟩, ⟨fun _ _ _ _ _ _ h => h, fun _ _ _ _ _ _ h => h⟩, ⟨fun _ _ _ _ _ _ h => h, fun _ _ _ _ _ _ h => h⟩, ⟨fun _ _ _ _ _ _ h => h, fun _ _ _ _ _ _ h => h⟩, ⟨fun _ _ _ _ _ _ h => h, fun _ _ _ _ _ _ h => h⟩, trivial⟩ ⟨?_, ?_, ?_, ?_, ?_, ?_, ?_, ?_, ?_, ?_, ?_, trivial⟩ ?_
                    · refine ObX.op rfl ?_
                      intro f153 wd154 he155 hout156 hphi157
                      have hS158 : St wd2 wd154 [(Ty.sl (Ty.i .i64)).at u12 x64] := St.extend hS127 he155
                      have e159 : f153 1 = v_x := (hout156 1 rfl).trans hf119
                      exact OpX.val v_x wd154 rfl (op_move e159) (Ext.refl _) rfl
                    · refine ObX.op rfl ?_
                      intro f160 wd161 he162 hout163 hphi164
                      have hS165 : St wd2 wd161 [(Ty.sl (Ty.i .i64)).at u12 x64] := St.extend hS127 he162
                      have e166 : f160 9 = (Value.int .i64 (k18 : Int)) := (hout163 9 rfl).trans hf123
                      exact OpX.val (Value.int .i64 (k18 : Int)) wd161 rfl (op_move e166) (Ext.refl _) ⟨rfl, hr33⟩
                    · refine ObX.op rfl ?_
                      intro f167 wd168 he169 hout170 hphi171
                      have hS172 : St wd2 wd168 [(Ty.sl (Ty.i .i64)).at u12 x64] := St.extend hS127 he169
                      obtain ⟨S173, hS174, hf175⟩ := hphi171 0 61 _ rfl rfl rfl
                      have e176 : f167 61 = v_x := hf175
                      obtain ⟨S177, hS178, hf179⟩ := hphi171 1 62 _ rfl rfl rfl
                      obtain ⟨e180, hr181⟩ : f167 62 = (Value.int .i64 (k18 : Int)) ∧ InR .i64 (k18 : Int) := hf179
                      exact OpX.val (Value.pointer (some (elA v_x ((k18 : Int)).toNat))) wd168 rfl (op_idx sl_25 (Ty.lift _ (Ext.trans hE7 hS172.ext) r_x) e176 e180 ha183 hb184) (Ext.refl _) rfl
                    · refine ObX.op rfl ?_
                      intro f186 wd187 he188 hout189 hphi190
                      have hS191 : St wd2 wd187 [(Ty.sl (Ty.i .i64)).at u12 x64] := St.extend hS127 he188
                      obtain ⟨S192, hS193, hf194⟩ := hphi190 2 63 _ rfl rfl rfl
                      have e195 : f186 63 = (Value.pointer (some (elA v_x ((k18 : Int)).toNat))) := hf194
                      exact OpX.val (Value.int .i64 x182) wd187 rfl (op_load one_2 e195 (Ext.cell (Ext.trans hE7 hS191.ext) hc197)) (Ext.refl _) ⟨rfl, hr198⟩
                    · refine ObX.op rfl ?_
                      intro f199 wd200 he201 hout202 hphi203
                      have hS204 : St wd2 wd200 [(Ty.sl (Ty.i .i64)).at u12 x64] := St.extend hS127 he201
                      have e205 : f199 2 = v_y := (hout202 2 rfl).trans hf120
                      exact OpX.val v_y wd200 rfl (op_move e205) (Ext.refl _) rfl
                    · refine ObX.op rfl ?_
                      intro f206 wd207 he208 hout209 hphi210
                      have hS211 : St wd2 wd207 [(Ty.sl (Ty.i .i64)).at u12 x64] := St.extend hS127 he208
                      have e212 : f206 10 = (Value.int .i64 (k40 : Int)) := (hout209 10 rfl).trans hf124
                      exact OpX.val (Value.int .i64 (k40 : Int)) wd207 rfl (op_move e212) (Ext.refl _) ⟨rfl, hr56⟩
                    · refine ObX.op rfl ?_
                      intro f213 wd214 he215 hout216 hphi217
                      have hS218 : St wd2 wd214 [(Ty.sl (Ty.i .i64)).at u12 x64] := St.extend hS127 he215
                      obtain ⟨S219, hS220, hf221⟩ := hphi217 4 65 _ rfl rfl rfl
                      have e222 : f213 65 = v_y := hf221
                      obtain ⟨S223, hS224, hf225⟩ := hphi217 5 66 _ rfl rfl rfl
                      obtain ⟨e226, hr227⟩ : f213 66 = (Value.int .i64 (k40 : Int)) ∧ InR .i64 (k40 : Int) := hf225
                      exact OpX.val (Value.pointer (some (elA v_y ((k40 : Int)).toNat))) wd214 rfl (op_idx sl_25 (Ty.lift _ (Ext.trans hE7 hS218.ext) r_y) e222 e226 ha229 hb230) (Ext.refl _) rfl
                    · refine ObX.op rfl ?_
                      intro f232 wd233 he234 hout235 hphi236
                      have hS237 : St wd2 wd233 [(Ty.sl (Ty.i .i64)).at u12 x64] := St.extend hS127 he234
                      obtain ⟨S238, hS239, hf240⟩ := hphi236 6 67 _ rfl rfl rfl
                      have e241 : f232 67 = (Value.pointer (some (elA v_y ((k40 : Int)).toNat))) := hf240
                      exact OpX.val (Value.int .i64 x228) wd233 rfl (op_load one_2 e241 (Ext.cell (Ext.trans hE7 hS237.ext) hc243)) (Ext.refl _) ⟨rfl, hr244⟩
                    · refine ObX.op rfl ?_
                      intro f245 wd246 he247 hout248 hphi249
                      have hS250 : St wd2 wd246 [(Ty.sl (Ty.i .i64)).at u12 x64] := St.extend hS127 he247
                      have e251 : f245 12 = (Value.int .i64 x144) := (hout248 12 rfl).trans rfl
                      exact OpX.val (Value.int .i64 x144) wd246 rfl (op_move e251) (Ext.refl _) ⟨rfl, hr150⟩
                    · refine ObX.op rfl ?_
                      intro f252 wd253 he254 hout255 hphi256
                      have hS257 : St wd2 wd253 [(Ty.sl (Ty.i .i64)).at u12 x64] := St.extend hS127 he254
                      obtain ⟨S258, hS259, hf260⟩ := hphi256 7 68 _ rfl rfl rfl
                      obtain ⟨e261, hr262⟩ : f252 68 = (Value.int .i64 x228) ∧ InR .i64 x228 := hf260
                      obtain ⟨S263, hS264, hf265⟩ := hphi256 8 69 _ rfl rfl rfl
                      obtain ⟨e266, hr267⟩ : f252 69 = (Value.int .i64 x144) ∧ InR .i64 x144 := hf265
                      exact OpX.val (Value.int .i64 (w64 (x228 * x144))) wd253 rfl (op_mul e261 e266) (Ext.refl _) ⟨rfl, (inR_wrap _ _)⟩
                    · refine ObX.op rfl ?_
                      intro f268 wd269 he270 hout271 hphi272
                      have hS273 : St wd2 wd269 [(Ty.sl (Ty.i .i64)).at u12 x64] := St.extend hS127 he270
                      obtain ⟨S274, hS275, hf276⟩ := hphi272 9 70 _ rfl rfl rfl
                      obtain ⟨e277, hr278⟩ : f268 70 = (Value.int .i64 (w64 (x228 * x144))) ∧ InR .i64 (w64 (x228 * x144)) := hf276
                      have hr282 : InR .i64 x279 := by rw [hz280]; exact inR_wrap _ _
                      exact OpX.val (Value.int .i64 x279) wd269 rfl (by rw [hz280]; exact op_quo rfl e277 h0281) (Ext.refl _) ⟨rfl, hr282⟩
                    · intro f283 wd284 Ss285 he286 hout287 hSn288 hSd289 hphi290
                      show WL _ _ _ _ _ _ _
                      have hS291 : St wd2 wd284 [(Ty.sl (Ty.i .i64)).at u12 x64] := St.extend hS127 he286
                      obtain ⟨e292, hr293⟩ : f283 64 = (Value.int .i64 x182) ∧ InR .i64 x182 := hphi290 3 64 _ (by decide) rfl rfl
                      obtain ⟨e294, hr295⟩ : f283 71 = (Value.int .i64 x279) ∧ InR .i64 x279 := hphi290 10 71 _ (by decide) rfl rfl
                      have e296 : f283 1 = v_x := (hout287 1 rfl).trans hf119
                      have e297 : f283 2 = v_y := (hout287 2 rfl).trans hf120
                      have e298 : f283 3 = (Value.pointer (some ⟨b1, 0, none⟩)) := (hout287 3 rfl).trans hf121
                      have e299 : f283 8 = u12 := (hout287 8 rfl).trans hf122
                      have e300 : f283 9 = (Value.int .i64 (k18 : Int)) := (hout287 9 rfl).trans hf123
                      have e301 : f283 10 = (Value.int .i64 (k40 : Int)) := (hout287 10 rfl).trans hf124
                      have e302 : f283 11 = (Value.int .i64 x65) := (hout287 11 rfl).trans hf125
                      have e303 : f283 12 = (Value.int .i64 x144) := (hout287 12 rfl).trans rfl
                      refine WL.val (Value.bool (decide (x182 > x279))) _ (op_gtr e292 e294) rfl ?_
                      refine WL.nil ?_
                      show W _ _ _ _ _ _
                      refine W.cond (decide (x182 > x279)) rfl (fun hc304 => ?_) (fun hc304 => ?_)
                      · replace hb70 := ip hb70 hc304
                        refine W.seq (W.region ?_)
                        refine WL.val (Value.slice none 0 0) _ (op_assign rfl) rfl ?_
                        refine WL.val (Value.bool false) _ (op_assign rfl) rfl ?_
                        refine WL.nil ?_
                        show W _ _ _ _ _ _
                        refine W.ret ?_
                        obtain rfl := Option.some.inj hb70
                        obtain rfl := hret73 _ rfl
                        replace hb46 := onRes_ret hb46
                        obtain rfl := Option.some.inj hb46
                        obtain rfl := hret49 _ rfl
                        replace hb24 := onRes_ret hb24
                        obtain rfl := Option.some.inj hb24
                        obtain rfl := hret27 _ rfl
                        replace h := onRes_ret h
                        obtain rfl := Option.some.inj h
                        show FinP _ _ _ _ _ _ _
                        exact FinP.ret _ (res2 rfl rfl rfl) ⟨(Value.slice none 0 0), rfl, (Ext.trans hE7 hS291.ext), (St.out (St.pick (St.addNil (Ty.i .i64) hS291) [1] rfl) (hE7))⟩
                      · replace hb70 := inegb hb70 hc304
                        refine W.skip ?_
                        show W _ _ _ _ _ _
                        refine W.seq ?_
                        obtain ⟨x349, hx352, hb70⟩ := bs hb70
                        obtain ⟨ha350, hb351, hx352⟩ := idx_some hx352
                        obtain ⟨u363, hc364, hr365⟩ := repSl.el (St.rep (t := (Ty.sl (Ty.i .i64))) hS291 0 rfl) hx352
                        obtain ⟨rfl, hr365⟩ := hr365
                        obtain ⟨u405, hc406, hr407⟩ := repSl.el r_x hx185
                        obtain ⟨rfl, hr407⟩ := hr407
                        obtain ⟨u447, hc448, hr449⟩ := repSl.el r_y hx231
                        obtain ⟨rfl, hr449⟩ := hr449
                        refine W.drawR mixo 18 [] [fun _ v _ _ => v = u12, fun _ v _ _ => v = (Value.int .i64 x65) ∧ InR .i64 x65, fun _ v _ _ => v = u12, fun _ v _ _ => v = (Value.int .i64 x65) ∧ InR .i64 x65, fun _ v _ _ => v = (Value.pointer (some (elA u12 (x65).toNat))), fun _ v _ _ => v = (Value.int .i64 x349) ∧ InR .i64 x349, fun _ v _ _ => v = v_x, fun _ v _ _ => v = (Value.int .i64 (k18 : Int)) ∧ InR .i64 (k18 : Int), fun _ v _ _ => v = (Value.pointer (some (elA v_x ((k18 : Int)).toNat))), fun _ v _ _ => v = (Value.int .i64 x182) ∧ InR .i64 x182, fun _ v _ _ => v = v_y, fun _ v _ _ => v = (Value.int .i64 (k40 : Int)) ∧ InR .i64 (k40 : Int), fun _ v _ _ => v = (Value.pointer (some (elA v_y ((k40 : Int)).toNat))), fun _ v _ _ => v = (Value.int .i64 x228) ∧ InR .i64 x228, fun _ v _ _ => v = (Value.int .i64 (w64 (x182 * x228))) ∧ InR .i64 (w64 (x182 * x228)), fun _ v _ _ => v = (Value.int .i64 x144) ∧ InR .i64 x144, fun _ v _ _ => v = (Value.int .i64 (w64 ((w64 (x182 * x228)) * x144))) ∧ InR .i64 (w64 ((w64 (x182 * x228)) * x144)), fun _ v _ _ => v = (Value.int .i64 (w64 (x349 + (w64 ((w64 (x182 * x228)) * x144))))) ∧ InR .i64 (w64 (x349 + (w64 ((w64 (x182 * x228)) * x144))))] (by kernel_rfl) (by kernel_rfl) ⟨⟨fun _ _ _ _ _ _ h => h, fun _ _ _ _ _ _ h => h⟩, ⟨fun _ _ _ _ _ _ h => h, fun _ _ _ _ _ _ h => h⟩, ⟨fun _ _ _ _ _ _ h => h, fun _ _ _ _ _ _ h => h⟩, ⟨fun _ _ _ _ _ _ h => h, fun _ _ _ _ _ _ h => h⟩, ⟨fun _ _ _ _ _ _ h => h, fun _ _ _ _ _ _ h => h⟩, ⟨fun _ _ _ _ _ _ h => h, fun _ _ _ _ _ _ h => h⟩, ⟨fun _ _ _ _ _ _ h => h, fun _ _ _ _ _ _ h => h⟩, ⟨fun _ _ _ _ _ _ h => h, fun _ _ _ _ _ _ h => h⟩, ⟨fun _ _ _ _ _ _ h => h, fun _ _ _ _ _ _ h => h⟩, ⟨fun _ _ _ _ _ _ h => h, fun _ _ _ _ _ _ h => h⟩, ⟨fun _ _ _ _ _ _ h => h, fun _ _ _ _ _ _ h => h⟩, ⟨fun _ _ _ _ _ _ h => h, fun _ _ _ _ _ _ h => h⟩, ⟨fun _ _ _ _ _ _ h => h, fun _ _ _ _ _ _ h => h⟩, ⟨fun _ _ _ _ _ _ h => h, fun _ _ _ _ _ _ h => h⟩, ⟨fun _ _ _ _ _ _ h => h, fun _ _ _ _ _ _ h => h⟩, ⟨fun _ _ _ _ _ _ h => h, fun _ _ _ _ _ _ h => h⟩, ⟨fun _ _ _ _ _ _ h => h, fun _ _ _ _ _ _ h => h⟩, ⟨fun _ _ _ _ _ _ h => h, fun _ _ _ _ _ _ h => h⟩, trivial⟩ ⟨?_, ?_, ?_, ?_, ?_, ?_, ?_, ?_, ?_, ?_, ?_, ?_, ?_, ?_, ?_, ?_, ?_, ?_, trivial⟩ ?_
                        · refine ObX.op rfl ?_
                          intro f306 wd307 he308 hout309 hphi310
                          have hS311 : St wd2 wd307 [(Ty.sl (Ty.i .i64)).at u12 x64] := St.extend hS291 he308
                          have e312 : f306 8 = u12 := (hout309 8 rfl).trans e299
                          exact OpX.val u12 wd307 rfl (op_move e312) (Ext.refl _) rfl
                        · refine ObX.op rfl ?_
                          intro f313 wd314 he315 hout316 hphi317
                          have hS318 : St wd2 wd314 [(Ty.sl (Ty.i .i64)).at u12 x64] := St.extend hS291 he315
                          have e319 : f313 11 = (Value.int .i64 x65) := (hout316 11 rfl).trans e302
                          exact OpX.val (Value.int .i64 x65) wd314 rfl (op_move e319) (Ext.refl _) ⟨rfl, hr81⟩
                        · refine ObX.op rfl ?_
                          intro f320 wd321 he322 hout323 hphi324
                          have hS325 : St wd2 wd321 [(Ty.sl (Ty.i .i64)).at u12 x64] := St.extend hS291 he322
                          have e326 : f320 8 = u12 := (hout323 8 rfl).trans e299
                          exact OpX.val u12 wd321 rfl (op_move e326) (Ext.refl _) rfl
                        · refine ObX.op rfl ?_
                          intro f327 wd328 he329 hout330 hphi331
                          have hS332 : St wd2 wd328 [(Ty.sl (Ty.i .i64)).at u12 x64] := St.extend hS291 he329
                          have e333 : f327 11 = (Value.int .i64 x65) := (hout330 11 rfl).trans e302
                          exact OpX.val (Value.int .i64 x65) wd328 rfl (op_move e333) (Ext.refl _) ⟨rfl, hr81⟩
                        · refine ObX.op rfl ?_
                          intro f334 wd335 he336 hout337 hphi338
                          have hS339 : St wd2 wd335 [(Ty.sl (Ty.i .i64)).at u12 x64] := St.extend hS291 he336
                          obtain ⟨S340, hS341, hf342⟩ := hphi338 2 75 _ rfl rfl rfl
                          have e343 : f334 75 = u12 := hf342
                          obtain ⟨S344, hS345, hf346⟩ := hphi338 3 76 _ rfl rfl rfl
                          obtain ⟨e347, hr348⟩ : f334 76 = (Value.int .i64 x65) ∧ InR .i64 x65 := hf346
                          exact OpX.val (Value.pointer (some (elA u12 (x65).toNat))) wd335 rfl (op_idx sl_25 (St.rep (t := (Ty.sl (Ty.i .i64))) hS339 0 rfl) e343 e347 ha350 hb351) (Ext.refl _) rfl
                        · refine ObX.op rfl ?_
                          intro f353 wd354 he355 hout356 hphi357
                          have hS358 : St wd2 wd354 [(Ty.sl (Ty.i .i64)).at u12 x64] := St.extend hS291 he355
                          obtain ⟨S359, hS360, hf361⟩ := hphi357 4 77 _ rfl rfl rfl
                          have e362 : f353 77 = (Value.pointer (some (elA u12 (x65).toNat))) := hf361
                          exact OpX.val (Value.int .i64 x349) wd354 rfl (op_load one_2 e362 (Ext.cell he355 hc364)) (Ext.refl _) ⟨rfl, hr365⟩
                        · refine ObX.op rfl ?_
                          intro f366 wd367 he368 hout369 hphi370
                          have hS371 : St wd2 wd367 [(Ty.sl (Ty.i .i64)).at u12 x64] := St.extend hS291 he368
                          have e372 : f366 1 = v_x := (hout369 1 rfl).trans e296
                          exact OpX.val v_x wd367 rfl (op_move e372) (Ext.refl _) rfl
                        · refine ObX.op rfl ?_
                          intro f373 wd374 he375 hout376 hphi377
                          have hS378 : St wd2 wd374 [(Ty.sl (Ty.i .i64)).at u12 x64] := St.extend hS291 he375
                          have e379 : f373 9 = (Value.int .i64 (k18 : Int)) := (hout376 9 rfl).trans e300
                          exact OpX.val (Value.int .i64 (k18 : Int)) wd374 rfl (op_move e379) (Ext.refl _) ⟨rfl, hr33⟩
                        · refine ObX.op rfl ?_
                          intro f380 wd381 he382 hout383 hphi384
                          have hS385 : St wd2 wd381 [(Ty.sl (Ty.i .i64)).at u12 x64] := St.extend hS291 he382
                          obtain ⟨S386, hS387, hf388⟩ := hphi384 6 79 _ rfl rfl rfl
                          have e389 : f380 79 = v_x := hf388
                          obtain ⟨S390, hS391, hf392⟩ := hphi384 7 80 _ rfl rfl rfl
                          obtain ⟨e393, hr394⟩ : f380 80 = (Value.int .i64 (k18 : Int)) ∧ InR .i64 (k18 : Int) := hf392
                          exact OpX.val (Value.pointer (some (elA v_x ((k18 : Int)).toNat))) wd381 rfl (op_idx sl_25 (Ty.lift _ (Ext.trans hE7 hS385.ext) r_x) e389 e393 ha183 hb184) (Ext.refl _) rfl
                        · refine ObX.op rfl ?_
                          intro f395 wd396 he397 hout398 hphi399
                          have hS400 : St wd2 wd396 [(Ty.sl (Ty.i .i64)).at u12 x64] := St.extend hS291 he397
                          obtain ⟨S401, hS402, hf403⟩ := hphi399 8 81 _ rfl rfl rfl
                          have e404 : f395 81 = (Value.pointer (some (elA v_x ((k18 : Int)).toNat))) := hf403
                          exact OpX.val (Value.int .i64 x182) wd396 rfl (op_load one_2 e404 (Ext.cell (Ext.trans hE7 hS400.ext) hc406)) (Ext.refl _) ⟨rfl, hr407⟩
                        · refine ObX.op rfl ?_
                          intro f408 wd409 he410 hout411 hphi412
                          have hS413 : St wd2 wd409 [(Ty.sl (Ty.i .i64)).at u12 x64] := St.extend hS291 he410
                          have e414 : f408 2 = v_y := (hout411 2 rfl).trans e297
                          exact OpX.val v_y wd409 rfl (op_move e414) (Ext.refl _) rfl
                        · refine ObX.op rfl ?_
                          intro f415 wd416 he417 hout418 hphi419
                          have hS420 : St wd2 wd416 [(Ty.sl (Ty.i .i64)).at u12 x64] := St.extend hS291 he417
                          have e421 : f415 10 = (Value.int .i64 (k40 : Int)) := (hout418 10 rfl).trans e301
                          exact OpX.val (Value.int .i64 (k40 : Int)) wd416 rfl (op_move e421) (Ext.refl _) ⟨rfl, hr56⟩
                        · refine ObX.op rfl ?_
                          intro f422 wd423 he424 hout425 hphi426
                          have hS427 : St wd2 wd423 [(Ty.sl (Ty.i .i64)).at u12 x64] := St.extend hS291 he424
                          obtain ⟨S428, hS429, hf430⟩ := hphi426 10 83 _ rfl rfl rfl
                          have e431 : f422 83 = v_y := hf430
                          obtain ⟨S432, hS433, hf434⟩ := hphi426 11 84 _ rfl rfl rfl
                          obtain ⟨e435, hr436⟩ : f422 84 = (Value.int .i64 (k40 : Int)) ∧ InR .i64 (k40 : Int) := hf434
                          exact OpX.val (Value.pointer (some (elA v_y ((k40 : Int)).toNat))) wd423 rfl (op_idx sl_25 (Ty.lift _ (Ext.trans hE7 hS427.ext) r_y) e431 e435 ha229 hb230) (Ext.refl _) rfl
                        · refine ObX.op rfl ?_
                          intro f437 wd438 he439 hout440 hphi441
                          have hS442 : St wd2 wd438 [(Ty.sl (Ty.i .i64)).at u12 x64] := St.extend hS291 he439
                          obtain ⟨S443, hS444, hf445⟩ := hphi441 12 85 _ rfl rfl rfl
                          have e446 : f437 85 = (Value.pointer (some (elA v_y ((k40 : Int)).toNat))) := hf445
                          exact OpX.val (Value.int .i64 x228) wd438 rfl (op_load one_2 e446 (Ext.cell (Ext.trans hE7 hS442.ext) hc448)) (Ext.refl _) ⟨rfl, hr449⟩
                        · refine ObX.op rfl ?_
                          intro f450 wd451 he452 hout453 hphi454
                          have hS455 : St wd2 wd451 [(Ty.sl (Ty.i .i64)).at u12 x64] := St.extend hS291 he452
                          obtain ⟨S456, hS457, hf458⟩ := hphi454 9 82 _ rfl rfl rfl
                          obtain ⟨e459, hr460⟩ : f450 82 = (Value.int .i64 x182) ∧ InR .i64 x182 := hf458
                          obtain ⟨S461, hS462, hf463⟩ := hphi454 13 86 _ rfl rfl rfl
                          obtain ⟨e464, hr465⟩ : f450 86 = (Value.int .i64 x228) ∧ InR .i64 x228 := hf463
                          exact OpX.val (Value.int .i64 (w64 (x182 * x228))) wd451 rfl (op_mul e459 e464) (Ext.refl _) ⟨rfl, (inR_wrap _ _)⟩
                        · refine ObX.op rfl ?_
                          intro f466 wd467 he468 hout469 hphi470
                          have hS471 : St wd2 wd467 [(Ty.sl (Ty.i .i64)).at u12 x64] := St.extend hS291 he468
                          have e472 : f466 12 = (Value.int .i64 x144) := (hout469 12 rfl).trans e303
                          exact OpX.val (Value.int .i64 x144) wd467 rfl (op_move e472) (Ext.refl _) ⟨rfl, hr150⟩
                        · refine ObX.op rfl ?_
                          intro f473 wd474 he475 hout476 hphi477
                          have hS478 : St wd2 wd474 [(Ty.sl (Ty.i .i64)).at u12 x64] := St.extend hS291 he475
                          obtain ⟨S479, hS480, hf481⟩ := hphi477 14 87 _ rfl rfl rfl
                          obtain ⟨e482, hr483⟩ : f473 87 = (Value.int .i64 (w64 (x182 * x228))) ∧ InR .i64 (w64 (x182 * x228)) := hf481
                          obtain ⟨S484, hS485, hf486⟩ := hphi477 15 88 _ rfl rfl rfl
                          obtain ⟨e487, hr488⟩ : f473 88 = (Value.int .i64 x144) ∧ InR .i64 x144 := hf486
                          exact OpX.val (Value.int .i64 (w64 ((w64 (x182 * x228)) * x144))) wd474 rfl (op_mul e482 e487) (Ext.refl _) ⟨rfl, (inR_wrap _ _)⟩
                        · refine ObX.op rfl ?_
                          intro f489 wd490 he491 hout492 hphi493
                          have hS494 : St wd2 wd490 [(Ty.sl (Ty.i .i64)).at u12 x64] := St.extend hS291 he491
                          obtain ⟨S495, hS496, hf497⟩ := hphi493 5 78 _ rfl rfl rfl
                          obtain ⟨e498, hr499⟩ : f489 78 = (Value.int .i64 x349) ∧ InR .i64 x349 := hf497
                          obtain ⟨S500, hS501, hf502⟩ := hphi493 16 89 _ rfl rfl rfl
                          obtain ⟨e503, hr504⟩ : f489 89 = (Value.int .i64 (w64 ((w64 (x182 * x228)) * x144))) ∧ InR .i64 (w64 ((w64 (x182 * x228)) * x144)) := hf502
                          exact OpX.val (Value.int .i64 (w64 (x349 + (w64 ((w64 (x182 * x228)) * x144))))) wd490 rfl (op_add e498 e503) (Ext.refl _) ⟨rfl, (inR_wrap _ _)⟩
                        · intro f505 wd506 Ss507 he508 hout509 hSn510 hSd511 hphi512
                          show WL _ _ _ _ _ _ _
                          have hS513 : St wd2 wd506 [(Ty.sl (Ty.i .i64)).at u12 x64] := St.extend hS291 he508
                          have e514 : f505 73 = u12 := hphi512 0 73 _ (by decide) rfl rfl
                          obtain ⟨e515, hr516⟩ : f505 74 = (Value.int .i64 x65) ∧ InR .i64 x65 := hphi512 1 74 _ (by decide) rfl rfl
                          obtain ⟨e517, hr518⟩ : f505 90 = (Value.int .i64 (w64 (x349 + (w64 ((w64 (x182 * x228)) * x144))))) ∧ InR .i64 (w64 (x349 + (w64 ((w64 (x182 * x228)) * x144)))) := hphi512 17 90 _ (by decide) rfl rfl
                          have e519 : f505 1 = v_x := (hout509 1 rfl).trans e296
                          have e520 : f505 2 = v_y := (hout509 2 rfl).trans e297
                          have e521 : f505 3 = (Value.pointer (some ⟨b1, 0, none⟩)) := (hout509 3 rfl).trans e298
                          have e522 : f505 8 = u12 := (hout509 8 rfl).trans e299
                          have e523 : f505 9 = (Value.int .i64 (k18 : Int)) := (hout509 9 rfl).trans e300
                          have e524 : f505 10 = (Value.int .i64 (k40 : Int)) := (hout509 10 rfl).trans e301
                          have e525 : f505 11 = (Value.int .i64 x65) := (hout509 11 rfl).trans e302
                          refine WL.val (Value.pointer (some (elA u12 (x65).toNat))) _ (op_idx sl_25 (St.rep (t := (Ty.sl (Ty.i .i64))) hS513 0 rfl) e514 e515 ha350 hb351) rfl ?_
                          refine WL.storeEl (flat_i .i64) hS513 (k := 0) rfl sz_2 rfl e517 (lt_of_idx ha350 hb351) ⟨rfl, hr518⟩ ?_
                          intro wd526 hS527
                          replace hS527 : St wd2 wd526 [(Ty.sl (Ty.i .i64)).at u12 ((x64).set (x65).toNat (w64 (x349 + (w64 ((w64 (x182 * x228)) * x144)))))] := hS527
                          refine WL.nil ?_
                          show W _ _ _ _ _ _
                          refine W.seq (W.region ?_)
                          refine WL.val u12 _ (op_move e522) rfl ?_
                          refine WL.val (Value.int .i64 x65) _ (op_move e525) rfl ?_
                          obtain ⟨x528, hx531, hb70⟩ := bs hb70
                          obtain ⟨ha529, hb530, hx531⟩ := idx_some hx531
                          refine WL.val (Value.pointer (some (elA u12 (x65).toNat))) _ (op_idx sl_25 (St.rep (t := (Ty.sl (Ty.i .i64))) hS527 0 rfl) rfl rfl ha529 hb530) rfl ?_
                          obtain ⟨u532, hc533, hr534⟩ := repSl.el (St.rep (t := (Ty.sl (Ty.i .i64))) hS527 0 rfl) hx531
                          obtain ⟨rfl, hr534⟩ := hr534
                          refine WL.val (Value.int .i64 x528) _ (op_load one_2 rfl hc533) rfl ?_
                          refine WL.val (Value.bool (decide (x528 > (1000000000000 : Int)))) _ (op_gtr rfl rfl) rfl ?_
                          refine WL.nil ?_
                          show W _ _ _ _ _ _
                          refine W.cond (decide (x528 > (1000000000000 : Int))) rfl (fun hc535 => ?_) (fun hc535 => ?_)
                          · replace hb70 := ip hb70 hc535
                            refine W.seq (W.region ?_)
                            refine WL.val (Value.slice none 0 0) _ (op_assign rfl) rfl ?_
                            refine WL.val (Value.bool false) _ (op_assign rfl) rfl ?_
                            refine WL.nil ?_
                            show W _ _ _ _ _ _
                            refine W.ret ?_
                            obtain rfl := Option.some.inj hb70
                            obtain rfl := hret73 _ rfl
                            replace hb46 := onRes_ret hb46
                            obtain rfl := Option.some.inj hb46
                            obtain rfl := hret49 _ rfl
                            replace hb24 := onRes_ret hb24
                            obtain rfl := Option.some.inj hb24
                            obtain rfl := hret27 _ rfl
                            replace h := onRes_ret h
                            obtain rfl := Option.some.inj h
                            show FinP _ _ _ _ _ _ _
                            exact FinP.ret _ (res2 rfl rfl rfl) ⟨(Value.slice none 0 0), rfl, (Ext.trans hE7 hS527.ext), (St.out (St.pick (St.addNil (Ty.i .i64) hS527) [1] rfl) (hE7))⟩
                          · replace hb70 := inegb hb70 hc535
                            refine W.skip ?_
                            show W _ _ _ _ _ _
                            refine W.region ?_
                            refine WL.val (Value.int .i64 x65) _ (op_move e525) rfl ?_
                            refine WL.val (Value.int .i64 (w64 (x65 + (1 : Int)))) _ (op_add rfl rfl) rfl ?_
                            refine WL.val (Value.int .i64 (w64 (x65 + (1 : Int)))) _ (op_assign rfl) rfl ?_
                            refine WL.nil ?_
                            obtain rfl := Option.some.inj hb70
                            show ∃ s, _ = Ctl.next s ∧ _
                            exact ⟨_, rfl, e519, e520, e521, e522, e523, e524, rfl, (inR_wrap _ _), hS527⟩
                · replace hb70 := inegb hb70 hc128
                  refine W.exit ?_
                  obtain rfl := Option.some.inj hb70
                  show _ = _ ∧ _
                  exact ⟨rfl, _, hbrk72 _ rfl, hf119, hf120, hf121, hf122, hf123, hf124, hS127⟩
          · rintro f538 wd539 ⟨s541, rfl, hq540⟩
            replace hb46 := onRes_fin hb46
            obtain ⟨x542, x543⟩ := s541
            replace hq540 : f538 1 = v_x ∧ f538 2 = v_y ∧ f538 3 = (Value.pointer (some ⟨b1, 0, none⟩)) ∧ f538 8 = u12 ∧ f538 9 = (Value.int .i64 (k18 : Int)) ∧ f538 10 = (Value.int .i64 (k40 : Int)) ∧ St wd2 wd539 [(Ty.sl (Ty.i .i64)).at u12 x542] := hq540
            replace hb46 : (_ : Option _) = _ := hb46
            dsimp only at hb46
            obtain ⟨hf544, hf545, hf546, hf547, hf548, hf549, hS550⟩ := hq540
            show W _ _ _ _ _ _
            refine W.region ?_
            refine WL.val (Value.int .i64 (k40 : Int)) _ (op_move hf549) rfl ?_
            refine WL.val (Value.int .i64 (w64 ((k40 : Int) + (1 : Int)))) _ (op_add rfl rfl) rfl ?_
            refine WL.val (Value.int .i64 (w64 ((k40 : Int) + (1 : Int)))) _ (op_assign rfl) rfl ?_
            refine WL.nil ?_
            obtain rfl := Option.some.inj hb46
            show ∃ s, _ = Ctl.next s ∧ _
            exact ⟨_, rfl, hf544, hf545, hf546, hf547, hf548, (ctr_next hl59 hr58), (ctr_rng hl59 hr58), hS550⟩
        · intro x558 f553 wd554 hs555 hI556
          replace hI556 : f553 1 = v_x ∧ f553 2 = v_y ∧ f553 3 = (Value.pointer (some ⟨b1, 0, none⟩)) ∧ f553 8 = u12 ∧ f553 9 = (Value.int .i64 (k18 : Int)) ∧ f553 10 = Value.int .i64 (((y).length : Nat) : Int) ∧ InR .i64 (((y).length : Nat) : Int) ∧ St wd2 wd554 [(Ty.sl (Ty.i .i64)).at u12 x558] := hI556
          obtain ⟨hf559, hf560, hf561, hf562, hf563, hf564, hr565, hS566⟩ := hI556
          refine W.seq (W.seq (W.region ?_))
          refine WL.val (Value.int .i64 (((y).length : Nat) : Int)) _ (op_move hf564) rfl ?_
          refine WL.val v_y _ (op_move hf560) rfl ?_
          have hr567 := inR_len (Ty.lift _ (Ext.trans hE7 hS566.ext) r_y)
          refine WL.val (Value.int .i64 ((y).length : Int)) _ (op_lenL sl_25 (Ty.lift _ (Ext.trans hE7 hS566.ext) r_y) rfl) rfl ?_
          refine WL.val (Value.bool (decide ((((y).length : Nat) : Int) < ((y).length : Int)))) _ (op_lss rfl rfl) rfl ?_
          have hl568 : ¬ (((y).length : Nat) : Int) < ((y).length : Int) := by omega
          refine WL.nil ?_
          show W _ _ _ _ _ _
          refine W.condF (decide ((((y).length : Nat) : Int) < ((y).length : Int))) rfl (decide_eq_false hl568) ?_
          refine W.exit ?_
          show _ = _ ∧ _
          exact ⟨rfl, _, hs555, hf559, hf560, hf561, hf562, hf563, hS566⟩
      · rintro f569 wd570 ⟨x573, rfl, hq571⟩
        replace hb24 := onRes_fin hb24
        replace hq571 : f569 1 = v_x ∧ f569 2 = v_y ∧ f569 3 = (Value.pointer (some ⟨b1, 0, none⟩)) ∧ f569 8 = u12 ∧ f569 9 = (Value.int .i64 (k18 : Int)) ∧ St wd2 wd570 [(Ty.sl (Ty.i .i64)).at u12 x573] := hq571
        obtain ⟨hf574, hf575, hf576, hf577, hf578, hS579⟩ := hq571
        show W _ _ _ _ _ _
        refine W.region ?_
        refine WL.val (Value.int .i64 (k18 : Int)) _ (op_move hf578) rfl ?_
        refine WL.val (Value.int .i64 (w64 ((k18 : Int) + (1 : Int)))) _ (op_add rfl rfl) rfl ?_
        refine WL.val (Value.int .i64 (w64 ((k18 : Int) + (1 : Int)))) _ (op_assign rfl) rfl ?_
        refine WL.nil ?_
        obtain rfl := Option.some.inj hb24
        show ∃ s, _ = Ctl.next s ∧ _
        exact ⟨_, rfl, hf574, hf575, hf576, hf577, (ctr_next hl36 hr35), (ctr_rng hl36 hr35), hS579⟩
    · intro x587 f582 wd583 hs584 hI585
      replace hI585 : f582 1 = v_x ∧ f582 2 = v_y ∧ f582 3 = (Value.pointer (some ⟨b1, 0, none⟩)) ∧ f582 8 = u12 ∧ f582 9 = Value.int .i64 (((x).length : Nat) : Int) ∧ InR .i64 (((x).length : Nat) : Int) ∧ St wd2 wd583 [(Ty.sl (Ty.i .i64)).at u12 x587] := hI585
      obtain ⟨hf588, hf589, hf590, hf591, hf592, hr593, hS594⟩ := hI585
      refine W.seq (W.seq (W.region ?_))
      refine WL.val (Value.int .i64 (((x).length : Nat) : Int)) _ (op_move hf592) rfl ?_
      refine WL.val v_x _ (op_move hf588) rfl ?_
      have hr595 := inR_len (Ty.lift _ (Ext.trans hE7 hS594.ext) r_x)
      refine WL.val (Value.int .i64 ((x).length : Int)) _ (op_lenL sl_25 (Ty.lift _ (Ext.trans hE7 hS594.ext) r_x) rfl) rfl ?_
      refine WL.val (Value.bool (decide ((((x).length : Nat) : Int) < ((x).length : Int)))) _ (op_lss rfl rfl) rfl ?_
      have hl596 : ¬ (((x).length : Nat) : Int) < ((x).length : Int) := by omega
      refine WL.nil ?_
      show W _ _ _ _ _ _
      refine W.condF (decide ((((x).length : Nat) : Int) < ((x).length : Int))) rfl (decide_eq_false hl596) ?_
      refine W.exit ?_
      show _ = _ ∧ _
      exact ⟨rfl, _, hs584, hf591, hS594⟩
  · rintro f597 wd598 ⟨x601, rfl, hq599⟩
    replace h := onRes_fin h
    replace hq599 : f597 8 = u12 ∧ St wd2 wd598 [(Ty.sl (Ty.i .i64)).at u12 x601] := hq599
    obtain ⟨hf602, hS603⟩ := hq599
    show W _ _ _ _ _ _
    refine W.seq (W.region ?_)
    refine WL.val u12 _ (op_move hf602) rfl ?_
    refine WL.val u12 _ (op_assign rfl) rfl ?_
    refine WL.val (Value.bool true) _ (op_assign rfl) rfl ?_
    refine WL.nil ?_
    show W _ _ _ _ _ _
    refine W.ret ?_
    obtain rfl := Option.some.inj h
    show FinP _ _ _ _ _ _ _
    exact FinP.ret _ (res2 rfl rfl rfl) ⟨u12, rfl, (Ext.trans hE7 hS603.ext), (St.out (St.pick hS603 [0] rfl) (hE7))⟩

theorem c_spec_l15Number {w : World} {r_Table : (List (List (List Int)))} {v_r_Table : Value} {genus : Int} {labels : (List Int)} {v_labels : Value} (r_r_Table : (Ty.sl (Ty.sl (Ty.sl (Ty.i .i64)))).rep w v_r_Table r_Table) (r_genus : InR .i64 genus) (r_labels : (Ty.sl (Ty.i .i64)).rep w v_labels labels) {res : Int × Bool} (h : p_spec_l15Number r_Table genus labels  = some res) :
    Ret Try.prog 35 #[(Value.agg #[v_r_Table]), (Value.int .i64 genus), v_labels] w (fun v w' => v = (Value.tuple #[Value.int .i64 res.1, Value.bool res.2]) ∧ InR .i64 res.1 ∧ Ext w w') := by
  unfold p_spec_l15Number at h
  have hS0 : St w w [] := St.start w
  refine Ret.start (fn := Try.f35) Try.func35 rfl 57 rfl rfl ?_
  refine W.seq (W.region ?_)
  refine WL.box hS0 rfl (cs := [v_r_Table]) rfl rfl ?_
  intro b1 wd2 hS3 he4 hx5
  replace hS3 : St w wd2 [bx b1 [v_r_Table]] := hS3
  have hx6 := St.boxAt hS3 0 rfl
  have hE7 : Ext w wd2 := hS3.ext
  have hS8 : St wd2 wd2 [] := St.start wd2
  refine WL.val (Value.int .i64 (0 : Int)) _ (op_assign rfl) rfl ?_
  refine WL.val (Value.bool false) _ (op_assign rfl) rfl ?_
  refine WL.nil ?_
  show W _ _ _ _ _ _
  refine W.seq ?_
  obtain ⟨x26, hx27, h⟩ := bs h
  refine W.drawR mixo 3 [] [fun _ v S w' => v = (Value.agg #[v_r_Table]), fun _ v S w' => SepS S w' [(Ty.sl (Ty.i .i64)).at v x26], fun _ v S w' => v = (Value.agg #[v_r_Table])] (by kernel_rfl) (by kernel_rfl) ⟨⟨fun _ _ _ _ _ _ h => h, fun _ _ _ _ _ _ h => h⟩, ⟨fun _ _ _ _ _ he h => SepS.extend he h, fun _ _ _ _ _ _ h => h⟩, ⟨fun _ _ _ _ _ _ h => h, fun _ _ _ _ _ _ h => h⟩, trivial⟩ ⟨?_, ?_, ?_, trivial⟩ ?_
  · refine ObX.op rfl ?_
    intro f9 wd10 he11 hout12 hphi13
    have hS14 : St wd2 wd10 [] := St.extend hS8 he11
    have e15 : f9 3 = (Value.pointer (some ⟨b1, 0, none⟩)) := (hout12 3 rfl).trans rfl
    exact OpX.val (Value.agg #[v_r_Table]) wd10 rfl (op_loadBox st_29 e15 (BoxAt.lift hS14.ext hx6) rfl rfl) (Ext.refl _) rfl
  · refine ObX.op rfl ?_
    intro f16 wd17 he18 hout19 hphi20
    have hS21 : St wd2 wd17 [] := St.extend hS8 he18
    obtain ⟨S22, hS23, hf24⟩ := hphi20 0 15 _ rfl rfl rfl
    have e25 : f16 15 = (Value.agg #[v_r_Table]) := hf24
    refine OpX.call rfl (op_call fn_63 (args2 e25 rfl)) (Ret.mono (c_spec_l03One (Ty.lift _ (Ext.trans hE7 hS21.ext) r_r_Table) (inR_i64.2 (show (-9223372036854775808 : Int) ≤ 0 ∧ (0 : Int) ≤ 9223372036854775807 from by decide)) hx27) ?_)
    rintro u28 wd29 ⟨_, rfl, he30, hs31⟩
    exact ⟨he30, _, newS _ _, (Sep.new hs31)⟩
  · refine ObX.op rfl ?_
    intro f32 wd33 he34 hout35 hphi36
    have hS37 : St wd2 wd33 [] := St.extend hS8 he34
    have e38 : f32 3 = (Value.pointer (some ⟨b1, 0, none⟩)) := (hout35 3 rfl).trans rfl
    exact OpX.val (Value.agg #[v_r_Table]) wd33 rfl (op_loadBox st_29 e38 (BoxAt.lift hS37.ext hx6) rfl rfl) (Ext.refl _) rfl
  · intro f39 wd40 Ss41 he42 hout43 hSn44 hSd45 hphi46
    show WL _ _ _ _ _ _ _
    have hS47 : St wd2 wd40 [] := St.extend hS8 he42
    have e48 : SepS (Ss41 1) wd40 [(Ty.sl (Ty.i .i64)).at (f39 16) x26] := hphi46 1 16 _ (by decide) rfl rfl
    have e49 : f39 17 = (Value.agg #[v_r_Table]) := hphi46 2 17 _ (by decide) rfl rfl
    have e50 : f39 1 = (Value.int .i64 genus) := (hout43 1 rfl).trans rfl
    have e51 : f39 2 = v_labels := (hout43 2 rfl).trans rfl
    have e52 : f39 3 = (Value.pointer (some ⟨b1, 0, none⟩)) := (hout43 3 rfl).trans rfl
    have hS53 := St.joinS hS8 he42 hSn44 (SepS.consS hSd45 rfl e48 SepS.nilS)
    replace hS53 : St wd2 wd40 [(Ty.sl (Ty.i .i64)).at (f39 16) x26] := hS53
    obtain ⟨x54, hx55, h⟩ := bs h
    refine WL.call _ (op_call fn_64 (args1 e49)) (c_spec_l15Handle (Ty.lift _ (Ext.trans hE7 hS53.ext) r_r_Table) hx55) rfl ?_
    rintro u56 wd57 ⟨_, rfl, he58, hs59⟩
    have hS60 := St.join hS53 he58 hs59
    replace hS60 : St wd2 wd57 [(Ty.sl (Ty.i .i64)).at (f39 16) x26, (Ty.sl (Ty.i .i64)).at u56 x54] := hS60
    refine WL.val (f39 16) _ (op_assign rfl) rfl ?_
    refine WL.val u56 _ (op_assign rfl) rfl ?_
    refine WL.nil ?_
    show W _ _ _ _ _ _
    refine W.seq (W.seq (W.region ?_))
    refine WL.val (Value.int .i64 (0 : Int)) _ (op_assign rfl) rfl ?_
    refine WL.nil ?_
    show W _ _ _ _ _ _
    obtain ⟨res61, hres62, h⟩ := bs h
    refine W.blockLoop (fun fq wq => ∃ s, res61 = Res.fin s ∧ ∃ (uu0 : Value), fq 1 = (Value.int .i64 genus) ∧ fq 3 = (Value.pointer (some ⟨b1, 0, none⟩)) ∧ fq 8 = uu0 ∧ fq 9 = u56 ∧ St wd2 wq [(Ty.sl (Ty.i .i64)).at u56 x54, (Ty.sl (Ty.i .i64)).at uu0 s]) ?_ ?_
    · refine W.forN (fun k (s : (List Int)) fq wq => ∃ (uu0 : Value), fq 1 = (Value.int .i64 genus) ∧ fq 2 = v_labels ∧ fq 3 = (Value.pointer (some ⟨b1, 0, none⟩)) ∧ fq 8 = uu0 ∧ fq 9 = u56 ∧ fq 10 = Value.int .i64 (k : Int) ∧ InR .i64 (k : Int) ∧ St wd2 wq [(Ty.sl (Ty.i .i64)).at u56 x54, (Ty.sl (Ty.i .i64)).at uu0 s]) hres62 ⟨(f39 16), e50, e51, e52, rfl, rfl, rfl, (inR_i64.2 (show (-9223372036854775808 : Int) ≤ 0 ∧ (0 : Int) ≤ 9223372036854775807 from by decide)), (St.pick hS60 [1, 0] rfl)⟩ ?_ ?_
      · intro k63 x64 ct65 f66 wd67 hk68 hb69 hI70 hbrk71 hret72
        replace hI70 : ∃ (uu0 : Value), f66 1 = (Value.int .i64 genus) ∧ f66 2 = v_labels ∧ f66 3 = (Value.pointer (some ⟨b1, 0, none⟩)) ∧ f66 8 = uu0 ∧ f66 9 = u56 ∧ f66 10 = Value.int .i64 (k63 : Int) ∧ InR .i64 (k63 : Int) ∧ St wd2 wd67 [(Ty.sl (Ty.i .i64)).at u56 x54, (Ty.sl (Ty.i .i64)).at uu0 x64] := hI70
        replace hb69 : p_spec_l15Number_L1 labels r_Table k63 x64 = some ct65 := hb69
        unfold p_spec_l15Number_L1 at hb69
        obtain ⟨u73, hf74, hf75, hf76, hf77, hf78, hf79, hr80, hS81⟩ := hI70
        refine W.seq (W.seq (W.region ?_))
        refine WL.val (Value.int .i64 (k63 : Int)) _ (op_move hf79) rfl ?_
        refine WL.val v_labels _ (op_move hf75) rfl ?_
        have hr82 := inR_len (Ty.lift _ (Ext.trans hE7 hS81.ext) r_labels)
        refine WL.val (Value.int .i64 ((labels).length : Int)) _ (op_lenL sl_25 (Ty.lift _ (Ext.trans hE7 hS81.ext) r_labels) rfl) rfl ?_
        refine WL.val (Value.bool (decide ((k63 : Int) < ((labels).length : Int)))) _ (op_lss rfl rfl) rfl ?_
        have hl83 : (k63 : Int) < ((labels).length : Int) := by omega
        refine WL.nil ?_
        show W _ _ _ _ _ _
        refine W.condT (decide ((k63 : Int) < ((labels).length : Int))) rfl (decide_eq_true hl83) ?_
        refine W.skip ?_
        show W _ _ _ _ _ _
        refine W.seq ?_
        refine W.block ?_
        refine W.seq ?_
        obtain ⟨x135, hx138, hb69⟩ := bs hb69
        obtain ⟨ha136, hb137, hx138⟩ := idx_some hx138
        obtain ⟨u149, hc150, hr151⟩ := repSl.el r_labels hx138
        obtain ⟨rfl, hr151⟩ := hr151
        obtain ⟨x167, hx168, hb69⟩ := bs hb69
        obtain ⟨x191, hx192, hb69⟩ := bs hb69
        refine W.drawR mixo 13 [] [fun _ v S w' => v = (Value.agg #[v_r_Table]), fun _ v _ _ => v = u73, fun _ v S w' => v = (Value.agg #[v_r_Table]), fun _ v _ _ => v = v_labels, fun _ v _ _ => v = (Value.int .i64 (k63 : Int)) ∧ InR .i64 (k63 : Int), fun _ v _ _ => v = (Value.pointer (some (elA v_labels ((k63 : Int)).toNat))), fun _ v _ _ => v = (Value.int .i64 x135) ∧ InR .i64 x135, fun _ v S w' => SepS S w' [(Ty.sl (Ty.i .i64)).at v x167], fun _ v S w' => ∃ (uu0 : Value), v = (Value.tuple #[uu0, (Value.bool x191.2)]) ∧ SepS S w' [(Ty.sl (Ty.i .i64)).at uu0 x191.1], fun f v _ _ => v = f 34, fun f v _ _ => tupGet (f 25) 0 = some v, fun _ v _ _ => v = (Value.bool x191.2), fun f v _ _ => v = f 35] (by kernel_rfl) (by kernel_rfl) ⟨⟨fun _ _ _ _ _ _ h => h, fun _ _ _ _ _ _ h => h⟩, ⟨fun _ _ _ _ _ _ h => h, fun _ _ _ _ _ _ h => h⟩, ⟨fun _ _ _ _ _ _ h => h, fun _ _ _ _ _ _ h => h⟩, ⟨fun _ _ _ _ _ _ h => h, fun _ _ _ _ _ _ h => h⟩, ⟨fun _ _ _ _ _ _ h => h, fun _ _ _ _ _ _ h => h⟩, ⟨fun _ _ _ _ _ _ h => h, fun _ _ _ _ _ _ h => h⟩, ⟨fun _ _ _ _ _ _ h => h, fun _ _ _ _ _ _ h => h⟩, ⟨fun _ _ _ _ _ he h => SepS.extend he h, fun _ _ _ _ _ _ h => h⟩, ⟨fun _ _ _ _ _ he ⟨uu0, h0, r0⟩ => ⟨uu0, h0, SepS.extend he r0⟩, fun _ _ _ _ _ _ h => h⟩, ⟨fun _ _ _ _ _ _ h => h, fun _ _ _ _ _ hf h => h.trans (hf 8 34 rfl rfl)⟩, ⟨fun _ _ _ _ _ _ h => h, fun _ _ _ _ _ hf h => (congrArg (fun x => tupGet x 0) (hf 9 25 rfl rfl)).symm.trans h⟩, ⟨fun _ _ _ _ _ _ h => h, fun _ _ _ _ _ _ h => h⟩, ⟨fun _ _ _ _ _ _ h => h, fun _ _ _ _ _ hf h => h.trans (hf 10 35 rfl rfl)⟩, trivial⟩ ⟨?_, ?_, ?_, ?_, ?_, ?_, ?_, ?_, ?_, ?_, ?_, ?_, ?_, trivial⟩ ?_
        · refine ObX.op rfl ?_
          intro f85 wd86 he87 hout88 hphi89
          have hS90 : St wd2 wd86 [(Ty.sl (Ty.i .i64)).at u56 x54, (Ty.sl (Ty.i .i64)).at u73 x64] := St.extend hS81 he87
          have e91 : f85 3 = (Value.pointer (some ⟨b1, 0, none⟩)) := (hout88 3 rfl).trans hf76
          exact OpX.val (Value.agg #[v_r_Table]) wd86 rfl (op_loadBox st_29 e91 (BoxAt.lift hS90.ext hx6) rfl rfl) (Ext.refl _) rfl
        · refine ObX.op rfl ?_
          intro f92 wd93 he94 hout95 hphi96
          have hS97 : St wd2 wd93 [(Ty.sl (Ty.i .i64)).at u56 x54, (Ty.sl (Ty.i .i64)).at u73 x64] := St.extend hS81 he94
          have e98 : f92 8 = u73 := (hout95 8 rfl).trans hf77
          exact OpX.val u73 wd93 rfl (op_move e98) (Ext.refl _) rfl
        · refine ObX.op rfl ?_
          intro f99 wd100 he101 hout102 hphi103
          have hS104 : St wd2 wd100 [(Ty.sl (Ty.i .i64)).at u56 x54, (Ty.sl (Ty.i .i64)).at u73 x64] := St.extend hS81 he101
          have e105 : f99 3 = (Value.pointer (some ⟨b1, 0, none⟩)) := (hout102 3 rfl).trans hf76
          exact OpX.val (Value.agg #[v_r_Table]) wd100 rfl (op_loadBox st_29 e105 (BoxAt.lift hS104.ext hx6) rfl rfl) (Ext.refl _) rfl
        · refine ObX.op rfl ?_
          intro f106 wd107 he108 hout109 hphi110
          have hS111 : St wd2 wd107 [(Ty.sl (Ty.i .i64)).at u56 x54, (Ty.sl (Ty.i .i64)).at u73 x64] := St.extend hS81 he108
          have e112 : f106 2 = v_labels := (hout109 2 rfl).trans hf75
          exact OpX.val v_labels wd107 rfl (op_move e112) (Ext.refl _) rfl
        · refine ObX.op rfl ?_
          intro f113 wd114 he115 hout116 hphi117
          have hS118 : St wd2 wd114 [(Ty.sl (Ty.i .i64)).at u56 x54, (Ty.sl (Ty.i .i64)).at u73 x64] := St.extend hS81 he115
          have e119 : f113 10 = (Value.int .i64 (k63 : Int)) := (hout116 10 rfl).trans hf79
          exact OpX.val (Value.int .i64 (k63 : Int)) wd114 rfl (op_move e119) (Ext.refl _) ⟨rfl, hr80⟩
        · refine ObX.op rfl ?_
          intro f120 wd121 he122 hout123 hphi124
          have hS125 : St wd2 wd121 [(Ty.sl (Ty.i .i64)).at u56 x54, (Ty.sl (Ty.i .i64)).at u73 x64] := St.extend hS81 he122
          obtain ⟨S126, hS127, hf128⟩ := hphi124 3 29 _ rfl rfl rfl
          have e129 : f120 29 = v_labels := hf128
          obtain ⟨S130, hS131, hf132⟩ := hphi124 4 30 _ rfl rfl rfl
          obtain ⟨e133, hr134⟩ : f120 30 = (Value.int .i64 (k63 : Int)) ∧ InR .i64 (k63 : Int) := hf132
          exact OpX.val (Value.pointer (some (elA v_labels ((k63 : Int)).toNat))) wd121 rfl (op_idx sl_25 (Ty.lift _ (Ext.trans hE7 hS125.ext) r_labels) e129 e133 ha136 hb137) (Ext.refl _) rfl
        · refine ObX.op rfl ?_
          intro f139 wd140 he141 hout142 hphi143
          have hS144 : St wd2 wd140 [(Ty.sl (Ty.i .i64)).at u56 x54, (Ty.sl (Ty.i .i64)).at u73 x64] := St.extend hS81 he141
          obtain ⟨S145, hS146, hf147⟩ := hphi143 5 31 _ rfl rfl rfl
          have e148 : f139 31 = (Value.pointer (some (elA v_labels ((k63 : Int)).toNat))) := hf147
          exact OpX.val (Value.int .i64 x135) wd140 rfl (op_load one_2 e148 (Ext.cell (Ext.trans hE7 hS144.ext) hc150)) (Ext.refl _) ⟨rfl, hr151⟩
        · refine ObX.op rfl ?_
          intro f152 wd153 he154 hout155 hphi156
          have hS157 : St wd2 wd153 [(Ty.sl (Ty.i .i64)).at u56 x54, (Ty.sl (Ty.i .i64)).at u73 x64] := St.extend hS81 he154
          obtain ⟨S158, hS159, hf160⟩ := hphi156 2 28 _ rfl rfl rfl
          have e161 : f152 28 = (Value.agg #[v_r_Table]) := hf160
          obtain ⟨S162, hS163, hf164⟩ := hphi156 6 32 _ rfl rfl rfl
          obtain ⟨e165, hr166⟩ : f152 32 = (Value.int .i64 x135) ∧ InR .i64 x135 := hf164
          refine OpX.call rfl (op_call fn_63 (args2 e161 e165)) (Ret.mono (c_spec_l03One (Ty.lift _ (Ext.trans hE7 hS157.ext) r_r_Table) hr166 hx168) ?_)
          rintro u169 wd170 ⟨_, rfl, he171, hs172⟩
          exact ⟨he171, _, newS _ _, (Sep.new hs172)⟩
        · refine ObX.op rfl ?_
          intro f173 wd174 he175 hout176 hphi177
          have hS178 : St wd2 wd174 [(Ty.sl (Ty.i .i64)).at u56 x54, (Ty.sl (Ty.i .i64)).at u73 x64] := St.extend hS81 he175
          obtain ⟨S179, hS180, hf181⟩ := hphi177 0 26 _ rfl rfl rfl
          have e182 : f173 26 = (Value.agg #[v_r_Table]) := hf181
          obtain ⟨S183, hS184, hf185⟩ := hphi177 1 27 _ rfl rfl rfl
          have e186 : f173 27 = u73 := hf185
          obtain ⟨S187, hS188, hf189⟩ := hphi177 7 33 _ rfl rfl rfl
          have e190 : SepS S187 wd174 [(Ty.sl (Ty.i .i64)).at (f173 33) x167] := hf189
          refine OpX.call rfl (op_call fn_65 (args3 e182 e186 rfl)) (Ret.mono (c_spec_l15Times (Ty.lift _ (Ext.trans hE7 hS178.ext) r_r_Table) (St.rep (t := (Ty.sl (Ty.i .i64))) hS178 1 rfl) (SepS.rep (t := (Ty.sl (Ty.i .i64))) e190 0 rfl) hx192) ?_)
          rintro _ wd194 ⟨u193, rfl, he195, hs196⟩
          exact ⟨he195, _, newS _ _, ⟨u193, rfl, (Sep.new hs196)⟩⟩
        · refine ObX.op rfl ?_
          intro f197 wd198 he199 hout200 hphi201
          have hS202 : St wd2 wd198 [(Ty.sl (Ty.i .i64)).at u56 x54, (Ty.sl (Ty.i .i64)).at u73 x64] := St.extend hS81 he199
          obtain ⟨S203, hS204, hf205⟩ := hphi201 8 34 _ rfl rfl rfl
          obtain ⟨u207, e206, e206s⟩ := hf205
          exact OpX.val (f197 34) wd198 rfl (op_move rfl) (Ext.refl _) rfl
        · refine ObX.op rfl ?_
          intro f208 wd209 he210 hout211 hphi212
          have hS213 : St wd2 wd209 [(Ty.sl (Ty.i .i64)).at u56 x54, (Ty.sl (Ty.i .i64)).at u73 x64] := St.extend hS81 he210
          obtain ⟨S217, hS218, hf219⟩ := hphi212 8 34 _ rfl rfl rfl
          obtain ⟨u221, e220, e220s⟩ := hf219
          obtain ⟨S214, hS215, hf216⟩ := hphi212 9 25 _ rfl rfl rfl
          have e222 : f208 25 = (Value.tuple #[u221, (Value.bool x191.2)]) := Eq.trans hf216 e220
          exact OpX.val u221 wd209 rfl (op_extract e222 rfl) (Ext.refl _) (congrArg (fun x => tupGet x 0) e222)
        · refine ObX.op rfl ?_
          intro f223 wd224 he225 hout226 hphi227
          have hS228 : St wd2 wd224 [(Ty.sl (Ty.i .i64)).at u56 x54, (Ty.sl (Ty.i .i64)).at u73 x64] := St.extend hS81 he225
          obtain ⟨S232, hS233, hf234⟩ := hphi227 8 34 _ rfl rfl rfl
          obtain ⟨u236, e235, e235s⟩ := hf234
          obtain ⟨S229, hS230, hf231⟩ := hphi227 9 25 _ rfl rfl rfl
          have e237 : f223 25 = (Value.tuple #[u236, (Value.bool x191.2)]) := Eq.trans hf231 e235
          exact OpX.val (Value.bool x191.2) wd224 rfl (op_extract e237 rfl) (Ext.refl _) rfl
        · refine ObX.op rfl ?_
          intro f238 wd239 he240 hout241 hphi242
          have hS243 : St wd2 wd239 [(Ty.sl (Ty.i .i64)).at u56 x54, (Ty.sl (Ty.i .i64)).at u73 x64] := St.extend hS81 he240
          obtain ⟨S250, hS251, hf252⟩ := hphi242 8 34 _ rfl rfl rfl
          obtain ⟨u254, e253, e253s⟩ := hf252
          obtain ⟨S247, hS248, hf249⟩ := hphi242 9 25 _ rfl rfl rfl
          have e255 : f238 25 = (Value.tuple #[u254, (Value.bool x191.2)]) := Eq.trans hf249 e253
          obtain ⟨S244, hS245, hf246⟩ := hphi242 10 35 _ rfl rfl rfl
          have e256 : f238 35 = u254 := Option.some.inj (Eq.trans (Eq.symm hf246) (congrArg (fun x => tupGet x 0) e255))
          exact OpX.val (f238 35) wd239 rfl (op_assign rfl) (Ext.refl _) rfl
        · intro f257 wd258 Ss259 he260 hout261 hSn262 hSd263 hphi264
          show WL _ _ _ _ _ _ _
          have hS265 : St wd2 wd258 [(Ty.sl (Ty.i .i64)).at u56 x54, (Ty.sl (Ty.i .i64)).at u73 x64] := St.extend hS81 he260
          obtain ⟨u267, e266, e266s⟩ := hphi264 8 34 _ (by decide) rfl rfl
          have e268 : f257 25 = (Value.tuple #[u267, (Value.bool x191.2)]) := Eq.trans (hphi264 9 25 _ (by decide) rfl rfl) e266
          have e269 : f257 35 = u267 := Option.some.inj (Eq.trans (Eq.symm (hphi264 10 35 _ (by decide) rfl rfl)) (congrArg (fun x => tupGet x 0) e268))
          have e270 : f257 36 = (Value.bool x191.2) := hphi264 11 36 _ (by decide) rfl rfl
          have e271 : f257 11 = u267 := Eq.trans (hphi264 12 11 _ (by decide) rfl rfl) e269
          have e272 : f257 1 = (Value.int .i64 genus) := (hout261 1 rfl).trans hf74
          have e273 : f257 2 = v_labels := (hout261 2 rfl).trans hf75
          have e274 : f257 3 = (Value.pointer (some ⟨b1, 0, none⟩)) := (hout261 3 rfl).trans hf76
          have e275 : f257 9 = u56 := (hout261 9 rfl).trans hf78
          have e276 : f257 10 = (Value.int .i64 (k63 : Int)) := (hout261 10 rfl).trans hf79
          have hS277 := St.joinS hS81 he260 hSn262 (SepS.consS hSd263 rfl e266s SepS.nilS)
          replace hS277 : St wd2 wd258 [(Ty.sl (Ty.i .i64)).at u56 x54, (Ty.sl (Ty.i .i64)).at u73 x64, (Ty.sl (Ty.i .i64)).at u267 x191.1] := hS277
          refine WL.val (Value.bool x191.2) _ (op_assign e270) rfl ?_
          refine WL.nil ?_
          show W _ _ _ _ _ _
          refine W.seq (W.seq (W.region ?_))
          refine WL.val (Value.bool x191.2) _ (op_move rfl) rfl ?_
          refine WL.val (Value.bool (!x191.2)) _ (op_not rfl) rfl ?_
          refine WL.nil ?_
          show W _ _ _ _ _ _
          refine W.cond (!x191.2) rfl (fun hc278 => ?_) (fun hc278 => ?_)
          · replace hb69 := ip hb69 hc278
            refine W.seq (W.region ?_)
            refine WL.val (Value.int .i64 (0 : Int)) _ (op_assign rfl) rfl ?_
            refine WL.val (Value.bool false) _ (op_assign rfl) rfl ?_
            refine WL.nil ?_
            show W _ _ _ _ _ _
            refine W.ret ?_
            obtain rfl := Option.some.inj hb69
            obtain rfl := hret72 _ rfl
            replace h := onRes_ret h
            obtain rfl := Option.some.inj h
            show FinP _ _ _ _ _ _ _
            exact FinP.ret _ (res2 rfl rfl rfl) ⟨rfl, (inR_i64.2 (show (-9223372036854775808 : Int) ≤ 0 ∧ (0 : Int) ≤ 9223372036854775807 from by decide)), (Ext.trans hE7 hS277.ext)⟩
          · replace hb69 := inegb hb69 hc278
            refine W.skip ?_
            show W _ _ _ _ _ _
            refine W.region ?_
            refine WL.val u267 _ (op_move e271) rfl ?_
            refine WL.val u267 _ (op_assign rfl) rfl ?_
            refine WL.nil ?_
            show W _ _ _ _ _ _
            refine W.region ?_
            refine WL.val (Value.int .i64 (k63 : Int)) _ (op_move e276) rfl ?_
            refine WL.val (Value.int .i64 (w64 ((k63 : Int) + (1 : Int)))) _ (op_add rfl rfl) rfl ?_
            refine WL.val (Value.int .i64 (w64 ((k63 : Int) + (1 : Int)))) _ (op_assign rfl) rfl ?_
            refine WL.nil ?_
            obtain rfl := Option.some.inj hb69
            show ∃ s, _ = Ctl.next s ∧ _
            exact ⟨_, rfl, u267, e272, e273, e274, rfl, e275, (ctr_next hl83 hr82), (ctr_rng hl83 hr82), (St.pick hS277 [0, 2] rfl)⟩
      · intro x286 f281 wd282 hs283 hI284
        replace hI284 : ∃ (uu0 : Value), f281 1 = (Value.int .i64 genus) ∧ f281 2 = v_labels ∧ f281 3 = (Value.pointer (some ⟨b1, 0, none⟩)) ∧ f281 8 = uu0 ∧ f281 9 = u56 ∧ f281 10 = Value.int .i64 (((labels).length : Nat) : Int) ∧ InR .i64 (((labels).length : Nat) : Int) ∧ St wd2 wd282 [(Ty.sl (Ty.i .i64)).at u56 x54, (Ty.sl (Ty.i .i64)).at uu0 x286] := hI284
        obtain ⟨u287, hf288, hf289, hf290, hf291, hf292, hf293, hr294, hS295⟩ := hI284
        refine W.seq (W.seq (W.region ?_))
        refine WL.val (Value.int .i64 (((labels).length : Nat) : Int)) _ (op_move hf293) rfl ?_
        refine WL.val v_labels _ (op_move hf289) rfl ?_
        have hr296 := inR_len (Ty.lift _ (Ext.trans hE7 hS295.ext) r_labels)
        refine WL.val (Value.int .i64 ((labels).length : Int)) _ (op_lenL sl_25 (Ty.lift _ (Ext.trans hE7 hS295.ext) r_labels) rfl) rfl ?_
        refine WL.val (Value.bool (decide ((((labels).length : Nat) : Int) < ((labels).length : Int)))) _ (op_lss rfl rfl) rfl ?_
        have hl297 : ¬ (((labels).length : Nat) : Int) < ((labels).length : Int) := by omega
        refine WL.nil ?_
        show W _ _ _ _ _ _
        refine W.condF (decide ((((labels).length : Nat) : Int) < ((labels).length : Int))) rfl (decide_eq_false hl297) ?_
        refine W.exit ?_
        show _ = _ ∧ _
        exact ⟨rfl, _, hs283, u287, hf288, hf290, hf291, hf292, hS295⟩
    · rintro f298 wd299 ⟨x302, rfl, hq300⟩
      replace h := onRes_fin h
      replace hq300 : ∃ (uu0 : Value), f298 1 = (Value.int .i64 genus) ∧ f298 3 = (Value.pointer (some ⟨b1, 0, none⟩)) ∧ f298 8 = uu0 ∧ f298 9 = u56 ∧ St wd2 wd299 [(Ty.sl (Ty.i .i64)).at u56 x54, (Ty.sl (Ty.i .i64)).at uu0 x302] := hq300
      obtain ⟨u303, hf304, hf305, hf306, hf307, hS308⟩ := hq300
      show W _ _ _ _ _ _
      refine W.seq ?_
      obtain ⟨res309, hres310, h⟩ := bs h
      refine W.blockLoop (fun fq wq => ∃ s, res309 = Res.fin s ∧ ∃ (uu0 : Value), fq 8 = uu0 ∧ St wd2 wq [(Ty.sl (Ty.i .i64)).at uu0 s.1]) ?_ ?_
      · refine W.whileC (fun (s : (List Int) × Int) fq wq => ∃ (uu0 : Value), fq 1 = Value.int .i64 s.2 ∧ InR .i64 s.2 ∧ fq 3 = (Value.pointer (some ⟨b1, 0, none⟩)) ∧ fq 8 = uu0 ∧ fq 9 = u56 ∧ St wd2 wq [(Ty.sl (Ty.i .i64)).at u56 x54, (Ty.sl (Ty.i .i64)).at uu0 s.1]) hres310 ⟨u303, hf304, r_genus, hf305, hf306, hf307, hS308⟩ ?_
        intro s340 ct314 f315 wd316 hb318 hI319 hbrk320 hret321
        obtain ⟨x312, x313⟩ := s340
        replace hI319 : ∃ (uu0 : Value), f315 1 = Value.int .i64 x313 ∧ InR .i64 x313 ∧ f315 3 = (Value.pointer (some ⟨b1, 0, none⟩)) ∧ f315 8 = uu0 ∧ f315 9 = u56 ∧ St wd2 wd316 [(Ty.sl (Ty.i .i64)).at u56 x54, (Ty.sl (Ty.i .i64)).at uu0 x312] := hI319
        replace hb318 : p_spec_l15Number_L2 r_Table x54  x312 x313 = some ct314 := hb318
        unfold p_spec_l15Number_L2 at hb318
        obtain ⟨u322, hf323, hr324, hf325, hf326, hf327, hS328⟩ := hI319
        refine W.seq (W.seq (W.region ?_))
        refine WL.val (Value.int .i64 x313) _ (op_move hf323) rfl ?_
        refine WL.val (Value.bool (decide (x313 > (0 : Int)))) _ (op_gtr rfl rfl) rfl ?_
        refine WL.nil ?_
        show W _ _ _ _ _ _
        refine W.cond (decide (x313 > (0 : Int))) rfl (fun hc329 => ?_) (fun hc329 => ?_)
        · replace hb318 := ip hb318 hc329
          refine W.skip ?_
          show W _ _ _ _ _ _
          refine W.seq ?_
          refine W.block ?_
          refine W.seq (W.region ?_)
          refine WL.val (Value.agg #[v_r_Table]) _ (op_loadBox st_29 hf325 (BoxAt.lift hS328.ext hx6) rfl rfl) rfl ?_
          refine WL.val u322 _ (op_move hf326) rfl ?_
          refine WL.val u56 _ (op_move hf327) rfl ?_
          obtain ⟨x331, hx332, hb318⟩ := bs hb318
          refine WL.call _ (op_call fn_65 (args3 rfl rfl rfl)) (c_spec_l15Times (Ty.lift _ (Ext.trans hE7 hS328.ext) r_r_Table) (St.rep (t := (Ty.sl (Ty.i .i64))) hS328 1 rfl) (St.rep (t := (Ty.sl (Ty.i .i64))) hS328 0 rfl) hx332) rfl ?_
          rintro _ wd334 ⟨u333, rfl, he335, hs336⟩
          have hS337 := St.join hS328 he335 hs336
          replace hS337 : St wd2 wd334 [(Ty.sl (Ty.i .i64)).at u56 x54, (Ty.sl (Ty.i .i64)).at u322 x312, (Ty.sl (Ty.i .i64)).at u333 x331.1] := hS337
          refine WL.val (Value.tuple #[u333, (Value.bool x331.2)]) _ (op_move rfl) rfl ?_
          refine WL.val u333 _ (op_extract rfl rfl) rfl ?_
          refine WL.val (Value.bool x331.2) _ (op_extract rfl rfl) rfl ?_
          refine WL.val u333 _ (op_assign rfl) rfl ?_
          refine WL.val (Value.bool x331.2) _ (op_assign rfl) rfl ?_
          refine WL.nil ?_
          show W _ _ _ _ _ _
          refine W.seq (W.seq (W.region ?_))
          refine WL.val (Value.bool x331.2) _ (op_move rfl) rfl ?_
          refine WL.val (Value.bool (!x331.2)) _ (op_not rfl) rfl ?_
          refine WL.nil ?_
          show W _ _ _ _ _ _
          refine W.cond (!x331.2) rfl (fun hc338 => ?_) (fun hc338 => ?_)
          · replace hb318 := ip hb318 hc338
            refine W.seq (W.region ?_)
            refine WL.val (Value.int .i64 (0 : Int)) _ (op_assign rfl) rfl ?_
            refine WL.val (Value.bool false) _ (op_assign rfl) rfl ?_
            refine WL.nil ?_
            show W _ _ _ _ _ _
            refine W.ret ?_
            obtain rfl := Option.some.inj hb318
            obtain rfl := hret321 _ rfl
            replace h := onRes_ret h
            obtain rfl := Option.some.inj h
            show FinP _ _ _ _ _ _ _
            exact FinP.ret _ (res2 rfl rfl rfl) ⟨rfl, (inR_i64.2 (show (-9223372036854775808 : Int) ≤ 0 ∧ (0 : Int) ≤ 9223372036854775807 from by decide)), (Ext.trans hE7 hS337.ext)⟩
          · replace hb318 := inegb hb318 hc338
            refine W.skip ?_
            show W _ _ _ _ _ _
            refine W.region ?_
            refine WL.val u333 _ (op_move rfl) rfl ?_
            refine WL.val u333 _ (op_assign rfl) rfl ?_
            refine WL.nil ?_
            show W _ _ _ _ _ _
            refine W.region ?_
            refine WL.val (Value.int .i64 x313) _ (op_move hf323) rfl ?_
            refine WL.val (Value.int .i64 (w64 (x313 - (1 : Int)))) _ (op_sub rfl rfl) rfl ?_
            refine WL.val (Value.int .i64 (w64 (x313 - (1 : Int)))) _ (op_assign rfl) rfl ?_
            refine WL.nil ?_
            obtain rfl := Option.some.inj hb318
            show ∃ s, _ = Ctl.next s ∧ _
            exact ⟨_, rfl, u333, rfl, (inR_wrap _ _), hf325, rfl, hf327, (St.pick hS337 [0, 2] rfl)⟩
        · replace hb318 := inegb hb318 hc329
          refine W.exit ?_
          obtain rfl := Option.some.inj hb318
          show _ = _ ∧ _
          exact ⟨rfl, _, hbrk320 _ rfl, u322, hf326, (St.pick hS328 [1] rfl)⟩
      · rintro f341 wd342 ⟨s344, rfl, hq343⟩
        replace h := onRes_fin h
        obtain ⟨x345, x346⟩ := s344
        replace hq343 : ∃ (uu0 : Value), f341 8 = uu0 ∧ St wd2 wd342 [(Ty.sl (Ty.i .i64)).at uu0 x345] := hq343
        replace h : (_ : Option _) = _ := h
        dsimp only at h
        obtain ⟨u347, hf348, hS349⟩ := hq343
        show W _ _ _ _ _ _
        refine W.seq (W.region ?_)
        refine WL.val u347 _ (op_move hf348) rfl ?_
        obtain ⟨x350, hx353, h⟩ := bs h
        obtain ⟨ha351, hb352, hx353⟩ := idx_some hx353
        refine WL.val (Value.pointer (some (elA u347 ((0 : Int)).toNat))) _ (op_idx sl_25 (St.rep (t := (Ty.sl (Ty.i .i64))) hS349 0 rfl) rfl rfl ha351 hb352) rfl ?_
        obtain ⟨u354, hc355, hr356⟩ := repSl.el (St.rep (t := (Ty.sl (Ty.i .i64))) hS349 0 rfl) hx353
        obtain ⟨rfl, hr356⟩ := hr356
        refine WL.val (Value.int .i64 x350) _ (op_load one_2 rfl hc355) rfl ?_
        refine WL.val (Value.int .i64 x350) _ (op_assign rfl) rfl ?_
        refine WL.val (Value.bool true) _ (op_assign rfl) rfl ?_
        refine WL.nil ?_
        show W _ _ _ _ _ _
        refine W.ret ?_
        obtain rfl := Option.some.inj h
        show FinP _ _ _ _ _ _ _
        exact FinP.ret _ (res2 rfl rfl rfl) ⟨rfl, hr356, (Ext.trans hE7 hS349.ext)⟩

theorem c_impl_within {w : World} {n : Int} {low : Int} {high : Int} (r_n : InR .i64 n) (r_low : InR .i64 low) (r_high : InR .i64 high) {res : Bool} (h : p_impl_within n low high  = some res) :
    Ret Try.prog 38 #[(Value.int .i64 n), (Value.int .i64 low), (Value.int .i64 high)] w (fun v w' => v = Value.bool res ∧ Ext w w') := by
  unfold p_impl_within at h
  have hS0 : St w w [] := St.start w
  refine Ret.start (fn := Try.f38) Try.func38 rfl 15 rfl rfl ?_
  refine W.seq (W.region ?_)
  refine WL.val (Value.bool false) _ (op_assign rfl) rfl ?_
  refine WL.nil ?_
  show W _ _ _ _ _ _
  refine W.seq (W.region ?_)
  refine WL.val (Value.int .i64 n) _ (op_move rfl) rfl ?_
  refine WL.val (Value.int .i64 low) _ (op_move rfl) rfl ?_
  refine WL.val (Value.bool (decide (n ≥ low))) _ (op_geq rfl rfl) rfl ?_
  refine WL.val (Value.bool (decide (n ≥ low))) _ (op_move rfl) rfl ?_
  refine WL.cut 4 (fun fq wq => fq 14 = (Value.bool ((decide (n ≥ low)) && (decide (n ≤ high)))) ∧ St w wq []) ?_ ?_
  · rcases Bool.eq_false_or_eq_true (decide (n ≥ low)) with hc1 | hc1
    · refine WL.grun rfl (bool_of rfl hc1) ?_
      refine WL.val (Value.int .i64 n) _ (op_move rfl) rfl ?_
      refine WL.grun rfl (bool_of rfl hc1) ?_
      refine WL.val (Value.int .i64 high) _ (op_move rfl) rfl ?_
      refine WL.grun rfl (bool_of rfl hc1) ?_
      refine WL.val (Value.bool (decide (n ≤ high))) _ (op_leq rfl rfl) rfl ?_
      refine WL.val (Value.bool (decide (n ≤ high))) _ (op_pick_t (evb_of rfl hc1) rfl) rfl ?_
      refine WL.nil ?_
      exact ⟨rfl, (andT hc1), hS0⟩
    · refine WL.gskip rfl (bool_of rfl hc1) rfl ?_
      refine WL.gskip rfl (bool_of rfl hc1) rfl ?_
      refine WL.gskip rfl (bool_of rfl hc1) rfl ?_
      refine WL.val (Value.bool false) _ (op_pick_f (evb_of rfl hc1) rfl) rfl ?_
      refine WL.nil ?_
      exact ⟨rfl, (andF hc1), hS0⟩
  · intro f2 wd3 hq4
    obtain ⟨hf5, hS6⟩ := hq4
    refine WL.val (Value.bool ((decide (n ≥ low)) && (decide (n ≤ high)))) _ (op_assign hf5) rfl ?_
    refine WL.nil ?_
    show W _ _ _ _ _ _
    refine W.ret ?_
    obtain rfl := Option.some.inj h
    show FinP _ _ _ _ _ _ _
    exact FinP.ret _ (res1 rfl rfl) ⟨rfl, hS6.ext⟩

theorem c_impl_allWithin_c1 {w : World} {n : Int} {b_c0 : Nat} {c0 : Int} {b_c1 : Nat} {c1 : Int} (r_n : InR .i64 n) (k_c0 : BoxAt w b_c0 [(Value.int .i64 c0)]) (r_c0 : InR .i64 c0) (k_c1 : BoxAt w b_c1 [(Value.int .i64 c1)]) (r_c1 : InR .i64 c1) {res : Bool} (h : p_impl_allWithin_c1 n c0 c1 = some res) :
    Ret Try.prog 86 #[(Value.int .i64 n), (Value.pointer (some ⟨b_c0, 0, none⟩)), (Value.pointer (some ⟨b_c1, 0, none⟩))] w (fun v w' => v = Value.bool res ∧ Ext w w') := by
  unfold p_impl_allWithin_c1 at h
  have hS0 : St w w [] := St.start w
  refine Ret.start (fn := Try.f86) Try.func86 rfl 10 rfl rfl ?_
  refine W.seq (W.region ?_)
  refine WL.val (Value.bool false) _ (op_assign rfl) rfl ?_
  refine WL.nil ?_
  show W _ _ _ _ _ _
  refine W.seq (W.region ?_)
  refine WL.val (Value.int .i64 n) _ (op_move rfl) rfl ?_
  refine WL.val (Value.int .i64 c0) _ (op_load one_2 rfl (BoxAt.cell (BoxAt.lift hS0.ext k_c0) rfl)) rfl ?_
  refine WL.val (Value.int .i64 c1) _ (op_load one_2 rfl (BoxAt.cell (BoxAt.lift hS0.ext k_c1) rfl)) rfl ?_
  obtain ⟨x1, hx2, h⟩ := bs h
  refine WL.call _ (op_call fn_38 (args3 rfl rfl rfl)) (c_impl_within r_n r_c0 r_c1 hx2) rfl ?_
  rintro _ wd3 ⟨rfl, he4⟩
  have hS6 := St.extend hS0 he4
  replace hS6 : St w wd3 [] := hS6
  refine WL.val (Value.bool (!x1)) _ (op_not rfl) rfl ?_
  refine WL.val (Value.bool (!x1)) _ (op_assign rfl) rfl ?_
  refine WL.nil ?_
  show W _ _ _ _ _ _
  refine W.ret ?_
  obtain rfl := Option.some.inj h
  show FinP _ _ _ _ _ _ _
  exact FinP.ret _ (res1 rfl rfl) ⟨rfl, hS6.ext⟩

theorem c_slices_IndexFunc_Lint64_int64 {w : World} {s1 : (List Int)} {v_s1 : Value} {f1 : Int → Option Bool} {v_f1 : Value} (r_s1 : (Ty.sl (Ty.i .i64)).rep w v_s1 s1) (r_f1 : FnT_i_to_b Try.prog v_f1 w f1) {res : Int} (h : p_slices_IndexFunc_Lint64_int64 s1 f1  = some res) :
    Ret Try.prog 102 #[v_s1, v_f1] w (fun v w' => v = Value.int .i64 res ∧ InR .i64 res ∧ Ext w w') := by
  unfold p_slices_IndexFunc_Lint64_int64 at h
  have hS0 : St w w [] := St.start w
  have q_f1 := r_f1
  obtain ⟨g_f1, fst_f1, cap_f1, eq_f1, ok_f1, call_f1⟩ := q_f1
  subst eq_f1
  refine Ret.start (fn := Try.f102) Try.func102 rfl 19 rfl rfl ?_
  refine W.seq (W.region ?_)
  refine WL.val (Value.int .i64 (0 : Int)) _ (op_assign rfl) rfl ?_
  refine WL.nil ?_
  show W _ _ _ _ _ _
  refine W.seq (W.seq (W.region ?_))
  refine WL.val v_s1 _ (op_move rfl) rfl ?_
  have hr1 := inR_len (Ty.lift _ hS0.ext r_s1)
  refine WL.val (Value.int .i64 ((s1).length : Int)) _ (op_lenL sl_25 (Ty.lift _ hS0.ext r_s1) rfl) rfl ?_
  refine WL.val (Value.int .i64 (0 : Int)) _ (op_move rfl) rfl ?_
  refine WL.nil ?_
  show W _ _ _ _ _ _
  obtain ⟨res2, hres3, h⟩ := bs h
  refine W.blockLoop (fun fq wq => ∃ s, res2 = Res.fin s ∧ St w wq []) ?_ ?_
  · refine W.forN (fun k (s : Unit) fq wq => fq 0 = v_s1 ∧ fq 1 = (Value.func (.func g_f1) fst_f1 cap_f1) ∧ fq 7 = (Value.int .i64 ((s1).length : Int)) ∧ fq 8 = Value.int .i64 (k : Int) ∧ InR .i64 (k : Int) ∧ St w wq []) hres3 ⟨rfl, rfl, rfl, rfl, (inR_i64.2 (show (-9223372036854775808 : Int) ≤ 0 ∧ (0 : Int) ≤ 9223372036854775807 from by decide)), hS0⟩ ?_ ?_
    · intro k4 s36 ct5 f6 wd7 hk8 hb9 hI10 hbrk11 hret12
      obtain ⟨⟩ := s36
      replace hI10 : f6 0 = v_s1 ∧ f6 1 = (Value.func (.func g_f1) fst_f1 cap_f1) ∧ f6 7 = (Value.int .i64 ((s1).length : Int)) ∧ f6 8 = Value.int .i64 (k4 : Int) ∧ InR .i64 (k4 : Int) ∧ St w wd7 [] := hI10
      replace hb9 : p_slices_IndexFunc_Lint64_int64_L1 s1 f1 k4  = some ct5 := hb9
      unfold p_slices_IndexFunc_Lint64_int64_L1 at hb9
      obtain ⟨hf13, hf14, hf15, hf16, hr17, hS18⟩ := hI10
      refine W.seq (W.region ?_)
      refine WL.val (Value.bool (decide ((k4 : Int) < ((s1).length : Int)))) _ (op_lss hf16 hf15) rfl ?_
      have hl19 : (k4 : Int) < ((s1).length : Int) := by omega
      refine WL.nil ?_
      show W _ _ _ _ _ _
      refine W.seq ?_
      refine W.condT (decide ((k4 : Int) < ((s1).length : Int))) rfl (decide_eq_true hl19) ?_
      refine W.skip ?_
      show W _ _ _ _ _ _
      refine W.seq ?_
      refine W.block ?_
      refine W.seq (W.region ?_)
      refine WL.val (Value.int .i64 (k4 : Int)) _ (op_move hf16) rfl ?_
      refine WL.val (Value.int .i64 (k4 : Int)) _ (op_assign rfl) rfl ?_
      refine WL.nil ?_
      show W _ _ _ _ _ _
      refine W.seq (W.region ?_)
      refine WL.val (Value.func (.func g_f1) fst_f1 cap_f1) _ (op_move hf14) rfl ?_
      refine WL.val v_s1 _ (op_move hf13) rfl ?_
      refine WL.val (Value.int .i64 (k4 : Int)) _ (op_move rfl) rfl ?_
      obtain ⟨x21, hx24, hb9⟩ := bs hb9
      obtain ⟨ha22, hb23, hx24⟩ := idx_some hx24
      refine WL.val (Value.pointer (some (elA v_s1 ((k4 : Int)).toNat))) _ (op_idx sl_25 (Ty.lift _ hS18.ext r_s1) rfl rfl ha22 hb23) rfl ?_
      obtain ⟨u25, hc26, hr27⟩ := repSl.el r_s1 hx24
      obtain ⟨rfl, hr27⟩ := hr27
      refine WL.val (Value.int .i64 x21) _ (op_load one_2 rfl (Ext.cell hS18.ext hc26)) rfl ?_
      obtain ⟨x28, hx29, hb9⟩ := bs hb9
      refine WL.call _ (op_callV rfl ok_f1 (args1 rfl)) (call_f1 wd7 x21 x28 hS18.ext hr27 hx29) rfl ?_
      rintro _ wd30 ⟨rfl, he31⟩
      have hS33 := St.extend hS18 he31
      refine WL.nil ?_
      show W _ _ _ _ _ _
      refine W.cond x28 rfl (fun hc34 => ?_) (fun hc34 => ?_)
      · replace hb9 := ip hb9 hc34
        refine W.seq (W.region ?_)
        refine WL.val (Value.int .i64 (k4 : Int)) _ (op_move rfl) rfl ?_
        refine WL.val (Value.int .i64 (k4 : Int)) _ (op_assign rfl) rfl ?_
        refine WL.nil ?_
        show W _ _ _ _ _ _
        refine W.ret ?_
        obtain rfl := Option.some.inj hb9
        obtain rfl := hret12 _ rfl
        replace h := onRes_ret h
        obtain rfl := Option.some.inj h
        show FinP _ _ _ _ _ _ _
        exact FinP.ret _ (res1 rfl rfl) ⟨rfl, hr17, hS33.ext⟩
      · replace hb9 := inegb hb9 hc34
        refine W.skip ?_
        show W _ _ _ _ _ _
        refine W.region ?_
        refine WL.val (Value.int .i64 (w64 ((k4 : Int) + (1 : Int)))) _ (op_add hf16 rfl) rfl ?_
        refine WL.val (Value.int .i64 (w64 ((k4 : Int) + (1 : Int)))) _ (op_move rfl) rfl ?_
        refine WL.nil ?_
        obtain rfl := Option.some.inj hb9
        show ∃ s, _ = Ctl.next s ∧ _
        exact ⟨_, rfl, hf13, hf14, hf15, (ctr_next hl19 hr1), (ctr_rng hl19 hr1), hS33⟩
    · intro s41 f37 wd38 hs39 hI40
      obtain ⟨⟩ := s41
      replace hI40 : f37 0 = v_s1 ∧ f37 1 = (Value.func (.func g_f1) fst_f1 cap_f1) ∧ f37 7 = (Value.int .i64 ((s1).length : Int)) ∧ f37 8 = Value.int .i64 (((s1).length : Nat) : Int) ∧ InR .i64 (((s1).length : Nat) : Int) ∧ St w wd38 [] := hI40
      obtain ⟨hf42, hf43, hf44, hf45, hr46, hS47⟩ := hI40
      refine W.seq (W.region ?_)
      refine WL.val (Value.bool (decide ((((s1).length : Nat) : Int) < ((s1).length : Int)))) _ (op_lss hf45 hf44) rfl ?_
      have hl48 : ¬ (((s1).length : Nat) : Int) < ((s1).length : Int) := by omega
      refine WL.nil ?_
      show W _ _ _ _ _ _
      refine W.seq ?_
      refine W.condF (decide ((((s1).length : Nat) : Int) < ((s1).length : Int))) rfl (decide_eq_false hl48) ?_
      refine W.exit ?_
      show _ = _ ∧ _
      exact ⟨rfl, _, hs39, hS47⟩
  · rintro f49 wd50 ⟨s52, rfl, hq51⟩
    replace h := onRes_fin h
    obtain ⟨⟩ := s52
    replace hq51 : St w wd50 [] := hq51
    have hS53 := hq51
    show W _ _ _ _ _ _
    refine W.seq (W.region ?_)
    refine WL.val (Value.int .i64 (-1 : Int)) _ (op_assign rfl) rfl ?_
    refine WL.nil ?_
    show W _ _ _ _ _ _
    refine W.ret ?_
    obtain rfl := Option.some.inj h
    show FinP _ _ _ _ _ _ _
    exact FinP.ret _ (res1 rfl rfl) ⟨rfl, (inR_i64.2 (show (-9223372036854775808 : Int) ≤ -1 ∧ (-1 : Int) ≤ 9223372036854775807 from by decide)), hS53.ext⟩

theorem c_slices_ContainsFunc_Lint64_int64 {w : World} {s1 : (List Int)} {v_s1 : Value} {f1 : Int → Option Bool} {v_f1 : Value} (r_s1 : (Ty.sl (Ty.i .i64)).rep w v_s1 s1) (r_f1 : FnT_i_to_b Try.prog v_f1 w f1) {res : Bool} (h : p_slices_ContainsFunc_Lint64_int64 s1 f1  = some res) :
    Ret Try.prog 85 #[v_s1, v_f1] w (fun v w' => v = Value.bool res ∧ Ext w w') := by
  unfold p_slices_ContainsFunc_Lint64_int64 at h
  have hS0 : St w w [] := St.start w
  have q_f1 := r_f1
  obtain ⟨g_f1, fst_f1, cap_f1, eq_f1, ok_f1, call_f1⟩ := q_f1
  subst eq_f1
  refine Ret.start (fn := Try.f85) Try.func85 rfl 9 rfl rfl ?_
  refine W.seq (W.region ?_)
  refine WL.val (Value.bool false) _ (op_assign rfl) rfl ?_
  refine WL.nil ?_
  show W _ _ _ _ _ _
  refine W.seq (W.region ?_)
  refine WL.val v_s1 _ (op_move rfl) rfl ?_
  refine WL.val (Value.func (.func g_f1) fst_f1 cap_f1) _ (op_move rfl) rfl ?_
  obtain ⟨x1, hx2, h⟩ := bs h
  refine WL.call _ (op_call fn_102 (args2 rfl rfl)) (c_slices_IndexFunc_Lint64_int64 (Ty.lift _ hS0.ext r_s1) (FnT_i_to_b.lift hS0.ext r_f1) hx2) rfl ?_
  rintro _ wd4 ⟨rfl, hr3, he5⟩
  have hS7 := St.extend hS0 he5
  replace hS7 : St w wd4 [] := hS7
  refine WL.val (Value.bool (decide (x1 ≥ (0 : Int)))) _ (op_geq rfl rfl) rfl ?_
  refine WL.val (Value.bool (decide (x1 ≥ (0 : Int)))) _ (op_assign rfl) rfl ?_
  refine WL.nil ?_
  show W _ _ _ _ _ _
  refine W.ret ?_
  obtain rfl := Option.some.inj h
  show FinP _ _ _ _ _ _ _
  exact FinP.ret _ (res1 rfl rfl) ⟨rfl, hS7.ext⟩

theorem c_impl_allWithin {w : World} {list : (List Int)} {v_list : Value} {low : Int} {high : Int} (r_list : (Ty.sl (Ty.i .i64)).rep w v_list list) (r_low : InR .i64 low) (r_high : InR .i64 high) {res : Bool} (h : p_impl_allWithin list low high  = some res) :
    Ret Try.prog 66 #[v_list, (Value.int .i64 low), (Value.int .i64 high)] w (fun v w' => v = Value.bool res ∧ Ext w w') := by
  unfold p_impl_allWithin at h
  have hS0 : St w w [] := St.start w
  refine Ret.start (fn := Try.f66) Try.func66 rfl 11 rfl rfl ?_
  refine W.seq (W.region ?_)
  refine WL.box hS0 rfl (cs := [(Value.int .i64 low)]) rfl rfl ?_
  intro b1 wd2 hS3 he4 hx5
  replace hS3 : St w wd2 [bx b1 [(Value.int .i64 low)]] := hS3
  have hx6 := St.boxAt hS3 0 rfl
  have hE7 : Ext w wd2 := hS3.ext
  have hS8 : St wd2 wd2 [] := St.start wd2
  refine WL.box hS8 rfl (cs := [(Value.int .i64 high)]) rfl rfl ?_
  intro b9 wd10 hS11 he12 hx13
  replace hS11 : St wd2 wd10 [bx b9 [(Value.int .i64 high)]] := hS11
  have hx14 := St.boxAt hS11 0 rfl
  have hE15 : Ext w wd10 := (Ext.trans hE7 hS11.ext)
  have hE16 : Ext wd2 wd10 := hS11.ext
  have hS17 : St wd10 wd10 [] := St.start wd10
  refine WL.val (Value.bool false) _ (op_assign rfl) rfl ?_
  refine WL.nil ?_
  show W _ _ _ _ _ _
  refine W.seq (W.region ?_)
  refine WL.val v_list _ (op_move rfl) rfl ?_
  refine WL.val (Value.func (.func 86) #[] #[(Value.pointer (some ⟨b1, 0, none⟩)), (Value.pointer (some ⟨b9, 0, none⟩))]) _ (op_makeFunc (va := #[]) (vb := #[(Value.pointer (some ⟨b1, 0, none⟩)), (Value.pointer (some ⟨b9, 0, none⟩))]) args0 (args2 rfl rfl)) rfl ?_
  obtain ⟨x22, hx23, h⟩ := bs h
  refine WL.call _ (op_call fn_85 (args2 rfl rfl)) (c_slices_ContainsFunc_Lint64_int64 (Ty.lift _ (Ext.trans hE15 hS17.ext) r_list) (⟨86, #[], #[(Value.pointer (some ⟨b1, 0, none⟩)), (Value.pointer (some ⟨b9, 0, none⟩))], rfl, fn_86, fun wd18 a0_19 r20 he19 ra0_19 hq21 => c_impl_allWithin_c1 ra0_19 (BoxAt.lift (Ext.trans (Ext.trans hE16 hS17.ext) he19) hx6) r_low (BoxAt.lift (Ext.trans hS17.ext he19) hx14) r_high hq21⟩) hx23) rfl ?_
  rintro _ wd24 ⟨rfl, he25⟩
  have hS27 := St.extend hS17 he25
  replace hS27 : St wd10 wd24 [] := hS27
  refine WL.val (Value.bool (!x22)) _ (op_not rfl) rfl ?_
  refine WL.val (Value.bool (!x22)) _ (op_assign rfl) rfl ?_
  refine WL.nil ?_
  show W _ _ _ _ _ _
  refine W.ret ?_
  obtain rfl := Option.some.inj h
  show FinP _ _ _ _ _ _ _
  exact FinP.ret _ (res1 rfl rfl) ⟨rfl, (Ext.trans hE15 hS27.ext)⟩

theorem c_impl_isCube_c1 {w : World} {row : (List Int)} {v_row : Value} {b_c0 : Nat} {c0 : Int} (r_row : (Ty.sl (Ty.i .i64)).rep w v_row row) (k_c0 : BoxAt w b_c0 [(Value.int .i64 c0)]) (r_c0 : InR .i64 c0) {res : Bool} (h : p_impl_isCube_c1 row c0 = some res) :
    Ret Try.prog 89 #[v_row, (Value.pointer (some ⟨b_c0, 0, none⟩))] w (fun v w' => v = Value.bool res ∧ Ext w w') := by
  unfold p_impl_isCube_c1 at h
  have hS0 : St w w [] := St.start w
  refine Ret.start (fn := Try.f89) Try.func89 rfl 13 rfl rfl ?_
  refine W.seq (W.region ?_)
  refine WL.val (Value.bool false) _ (op_assign rfl) rfl ?_
  refine WL.nil ?_
  show W _ _ _ _ _ _
  refine W.seq (W.region ?_)
  refine WL.val v_row _ (op_move rfl) rfl ?_
  have hr1 := inR_len (Ty.lift _ hS0.ext r_row)
  refine WL.val (Value.int .i64 ((row).length : Int)) _ (op_lenL sl_25 (Ty.lift _ hS0.ext r_row) rfl) rfl ?_
  refine WL.val (Value.int .i64 c0) _ (op_load one_3 rfl (BoxAt.cell (BoxAt.lift hS0.ext k_c0) rfl)) rfl ?_
  refine WL.val (Value.bool (((row).length : Int) != c0)) _ (op_neq rfl rfl) rfl ?_
  refine WL.val (Value.bool (((row).length : Int) != c0)) _ (op_move rfl) rfl ?_
  obtain ⟨x3, hj4, h⟩ := bs h
  refine WL.cut 4 (fun fq wq => fq 12 = Value.bool x3 ∧ St w wq []) ?_ ?_
  · rcases Bool.eq_false_or_eq_true (((row).length : Int) != c0) with hc2 | hc2
    · replace hj4 := ip hj4 hc2
      refine WL.gskip rfl (bool_of rfl hc2) rfl ?_
      refine WL.gskip rfl (bool_of rfl hc2) rfl ?_
      refine WL.gskip rfl (bool_of rfl hc2) rfl ?_
      refine WL.val (Value.bool true) _ (op_pick_t (evb_of rfl hc2) rfl) rfl ?_
      refine WL.nil ?_
      obtain rfl := Option.some.inj hj4
      exact ⟨rfl, rfl, hS0⟩
    · replace hj4 := inegb hj4 hc2
      refine WL.grun rfl (bool_of rfl hc2) ?_
      refine WL.val v_row _ (op_move rfl) rfl ?_
      refine WL.grun rfl (bool_of rfl hc2) ?_
      obtain ⟨x8, hx9, hj4⟩ := bs hj4
      refine WL.call _ (op_call fn_66 (args3 rfl rfl rfl)) (c_impl_allWithin (Ty.lift _ hS0.ext r_row) (inR_i64.2 (show (-9223372036854775808 : Int) ≤ 0 ∧ (0 : Int) ≤ 9223372036854775807 from by decide)) (inR_i64.2 (show (-9223372036854775808 : Int) ≤ 1000 ∧ (1000 : Int) ≤ 9223372036854775807 from by decide)) hx9) rfl ?_
      rintro _ wd10 ⟨rfl, he11⟩
      have hS13 := St.extend hS0 he11
      replace hS13 : St w wd10 [] := hS13
      refine WL.grun rfl (bool_of rfl hc2) ?_
      refine WL.val (Value.bool (!x8)) _ (op_not rfl) rfl ?_
      refine WL.val (Value.bool (!x8)) _ (op_pick_f (evb_of rfl hc2) rfl) rfl ?_
      refine WL.nil ?_
      obtain rfl := Option.some.inj hj4
      exact ⟨rfl, rfl, hS13⟩
  · intro f5 wd6 hq7
    obtain ⟨hf14, hS15⟩ := hq7
    refine WL.val (Value.bool x3) _ (op_assign hf14) rfl ?_
    refine WL.nil ?_
    show W _ _ _ _ _ _
    refine W.ret ?_
    obtain rfl := Option.some.inj h
    show FinP _ _ _ _ _ _ _
    exact FinP.ret _ (res1 rfl rfl) ⟨rfl, hS15.ext⟩

theorem c_slices_IndexFunc_LLint64_Lint64 {w : World} {s1 : (List (List Int))} {v_s1 : Value} {f1 : (List Int) → Option Bool} {v_f1 : Value} (r_s1 : (Ty.sl (Ty.sl (Ty.i .i64))).rep w v_s1 s1) (r_f1 : FnT_li_to_b Try.prog v_f1 w f1) {res : Int} (h : p_slices_IndexFunc_LLint64_Lint64 s1 f1  = some res) :
    Ret Try.prog 103 #[v_s1, v_f1] w (fun v w' => v = Value.int .i64 res ∧ InR .i64 res ∧ Ext w w') := by
  unfold p_slices_IndexFunc_LLint64_Lint64 at h
  have hS0 : St w w [] := St.start w
  have q_f1 := r_f1
  obtain ⟨g_f1, fst_f1, cap_f1, eq_f1, ok_f1, call_f1⟩ := q_f1
  subst eq_f1
  refine Ret.start (fn := Try.f103) Try.func103 rfl 19 rfl rfl ?_
  refine W.seq (W.region ?_)
  refine WL.val (Value.int .i64 (0 : Int)) _ (op_assign rfl) rfl ?_
  refine WL.nil ?_
  show W _ _ _ _ _ _
  refine W.seq (W.seq (W.region ?_))
  refine WL.val v_s1 _ (op_move rfl) rfl ?_
  have hr1 := inR_len (Ty.lift _ hS0.ext r_s1)
  refine WL.val (Value.int .i64 ((s1).length : Int)) _ (op_lenL sl_40 (Ty.lift _ hS0.ext r_s1) rfl) rfl ?_
  refine WL.val (Value.int .i64 (0 : Int)) _ (op_move rfl) rfl ?_
  refine WL.nil ?_
  show W _ _ _ _ _ _
  obtain ⟨res2, hres3, h⟩ := bs h
  refine W.blockLoop (fun fq wq => ∃ s, res2 = Res.fin s ∧ St w wq []) ?_ ?_
  · refine W.forN (fun k (s : Unit) fq wq => fq 0 = v_s1 ∧ fq 1 = (Value.func (.func g_f1) fst_f1 cap_f1) ∧ fq 7 = (Value.int .i64 ((s1).length : Int)) ∧ fq 8 = Value.int .i64 (k : Int) ∧ InR .i64 (k : Int) ∧ St w wq []) hres3 ⟨rfl, rfl, rfl, rfl, (inR_i64.2 (show (-9223372036854775808 : Int) ≤ 0 ∧ (0 : Int) ≤ 9223372036854775807 from by decide)), hS0⟩ ?_ ?_
    · intro k4 s36 ct5 f6 wd7 hk8 hb9 hI10 hbrk11 hret12
      obtain ⟨⟩ := s36
      replace hI10 : f6 0 = v_s1 ∧ f6 1 = (Value.func (.func g_f1) fst_f1 cap_f1) ∧ f6 7 = (Value.int .i64 ((s1).length : Int)) ∧ f6 8 = Value.int .i64 (k4 : Int) ∧ InR .i64 (k4 : Int) ∧ St w wd7 [] := hI10
      replace hb9 : p_slices_IndexFunc_LLint64_Lint64_L1 s1 f1 k4  = some ct5 := hb9
      unfold p_slices_IndexFunc_LLint64_Lint64_L1 at hb9
      obtain ⟨hf13, hf14, hf15, hf16, hr17, hS18⟩ := hI10
      refine W.seq (W.region ?_)
      refine WL.val (Value.bool (decide ((k4 : Int) < ((s1).length : Int)))) _ (op_lss hf16 hf15) rfl ?_
      have hl19 : (k4 : Int) < ((s1).length : Int) := by omega
      refine WL.nil ?_
      show W _ _ _ _ _ _
      refine W.seq ?_
      refine W.condT (decide ((k4 : Int) < ((s1).length : Int))) rfl (decide_eq_true hl19) ?_
      refine W.skip ?_
      show W _ _ _ _ _ _
      refine W.seq ?_
      refine W.block ?_
      refine W.seq (W.region ?_)
      refine WL.val (Value.int .i64 (k4 : Int)) _ (op_move hf16) rfl ?_
      refine WL.val (Value.int .i64 (k4 : Int)) _ (op_assign rfl) rfl ?_
      refine WL.nil ?_
      show W _ _ _ _ _ _
      refine W.seq (W.region ?_)
      refine WL.val (Value.func (.func g_f1) fst_f1 cap_f1) _ (op_move hf14) rfl ?_
      refine WL.val v_s1 _ (op_move hf13) rfl ?_
      refine WL.val (Value.int .i64 (k4 : Int)) _ (op_move rfl) rfl ?_
      obtain ⟨x21, hx24, hb9⟩ := bs hb9
      obtain ⟨ha22, hb23, hx24⟩ := idx_some hx24
      refine WL.val (Value.pointer (some (elA v_s1 ((k4 : Int)).toNat))) _ (op_idx sl_40 (Ty.lift _ hS18.ext r_s1) rfl rfl ha22 hb23) rfl ?_
      obtain ⟨u25, hc26, hr27⟩ := repSl.el r_s1 hx24
      refine WL.val u25 _ (op_load one_25 rfl (Ext.cell hS18.ext hc26)) rfl ?_
      obtain ⟨x28, hx29, hb9⟩ := bs hb9
      refine WL.call _ (op_callV rfl ok_f1 (args1 rfl)) (call_f1 wd7 u25 x21 x28 hS18.ext (Ty.lift _ hS18.ext hr27) hx29) rfl ?_
      rintro _ wd30 ⟨rfl, he31⟩
      have hS33 := St.extend hS18 he31
      refine WL.nil ?_
      show W _ _ _ _ _ _
      refine W.cond x28 rfl (fun hc34 => ?_) (fun hc34 => ?_)
      · replace hb9 := ip hb9 hc34
        refine W.seq (W.region ?_)
        refine WL.val (Value.int .i64 (k4 : Int)) _ (op_move rfl) rfl ?_
        refine WL.val (Value.int .i64 (k4 : Int)) _ (op_assign rfl) rfl ?_
        refine WL.nil ?_
        show W _ _ _ _ _ _
        refine W.ret ?_
        obtain rfl := Option.some.inj hb9
        obtain rfl := hret12 _ rfl
        replace h := onRes_ret h
        obtain rfl := Option.some.inj h
        show FinP _ _ _ _ _ _ _
        exact FinP.ret _ (res1 rfl rfl) ⟨rfl, hr17, hS33.ext⟩
      · replace hb9 := inegb hb9 hc34
        refine W.skip ?_
        show W _ _ _ _ _ _
        refine W.region ?_
        refine WL.val (Value.int .i64 (w64 ((k4 : Int) + (1 : Int)))) _ (op_add hf16 rfl) rfl ?_
        refine WL.val (Value.int .i64 (w64 ((k4 : Int) + (1 : Int)))) _ (op_move rfl) rfl ?_
        refine WL.nil ?_
        obtain rfl := Option.some.inj hb9
        show ∃ s, _ = Ctl.next s ∧ _
        exact ⟨_, rfl, hf13, hf14, hf15, (ctr_next hl19 hr1), (ctr_rng hl19 hr1), hS33⟩
    · intro s41 f37 wd38 hs39 hI40
      obtain ⟨⟩ := s41
      replace hI40 : f37 0 = v_s1 ∧ f37 1 = (Value.func (.func g_f1) fst_f1 cap_f1) ∧ f37 7 = (Value.int .i64 ((s1).length : Int)) ∧ f37 8 = Value.int .i64 (((s1).length : Nat) : Int) ∧ InR .i64 (((s1).length : Nat) : Int) ∧ St w wd38 [] := hI40
      obtain ⟨hf42, hf43, hf44, hf45, hr46, hS47⟩ := hI40
      refine W.seq (W.region ?_)
      refine WL.val (Value.bool (decide ((((s1).length : Nat) : Int) < ((s1).length : Int)))) _ (op_lss hf45 hf44) rfl ?_
      have hl48 : ¬ (((s1).length : Nat) : Int) < ((s1).length : Int) := by omega
      refine WL.nil ?_
      show W _ _ _ _ _ _
      refine W.seq ?_
      refine W.condF (decide ((((s1).length : Nat) : Int) < ((s1).length : Int))) rfl (decide_eq_false hl48) ?_
      refine W.exit ?_
      show _ = _ ∧ _
      exact ⟨rfl, _, hs39, hS47⟩
  · rintro f49 wd50 ⟨s52, rfl, hq51⟩
    replace h := onRes_fin h
    obtain ⟨⟩ := s52
    replace hq51 : St w wd50 [] := hq51
    have hS53 := hq51
    show W _ _ _ _ _ _
    refine W.seq (W.region ?_)
    refine WL.val (Value.int .i64 (-1 : Int)) _ (op_assign rfl) rfl ?_
    refine WL.nil ?_
    show W _ _ _ _ _ _
    refine W.ret ?_
    obtain rfl := Option.some.inj h
    show FinP _ _ _ _ _ _ _
    exact FinP.ret _ (res1 rfl rfl) ⟨rfl, (inR_i64.2 (show (-9223372036854775808 : Int) ≤ -1 ∧ (-1 : Int) ≤ 9223372036854775807 from by decide)), hS53.ext⟩

theorem c_slices_ContainsFunc_LLint64_Lint64 {w : World} {s1 : (List (List Int))} {v_s1 : Value} {f1 : (List Int) → Option Bool} {v_f1 : Value} (r_s1 : (Ty.sl (Ty.sl (Ty.i .i64))).rep w v_s1 s1) (r_f1 : FnT_li_to_b Try.prog v_f1 w f1) {res : Bool} (h : p_slices_ContainsFunc_LLint64_Lint64 s1 f1  = some res) :
    Ret Try.prog 88 #[v_s1, v_f1] w (fun v w' => v = Value.bool res ∧ Ext w w') := by
  unfold p_slices_ContainsFunc_LLint64_Lint64 at h
  have hS0 : St w w [] := St.start w
  have q_f1 := r_f1
  obtain ⟨g_f1, fst_f1, cap_f1, eq_f1, ok_f1, call_f1⟩ := q_f1
  subst eq_f1
  refine Ret.start (fn := Try.f88) Try.func88 rfl 9 rfl rfl ?_
  refine W.seq (W.region ?_)
  refine WL.val (Value.bool false) _ (op_assign rfl) rfl ?_
  refine WL.nil ?_
  show W _ _ _ _ _ _
  refine W.seq (W.region ?_)
  refine WL.val v_s1 _ (op_move rfl) rfl ?_
  refine WL.val (Value.func (.func g_f1) fst_f1 cap_f1) _ (op_move rfl) rfl ?_
  obtain ⟨x1, hx2, h⟩ := bs h
  refine WL.call _ (op_call fn_103 (args2 rfl rfl)) (c_slices_IndexFunc_LLint64_Lint64 (Ty.lift _ hS0.ext r_s1) (FnT_li_to_b.lift hS0.ext r_f1) hx2) rfl ?_
  rintro _ wd4 ⟨rfl, hr3, he5⟩
  have hS7 := St.extend hS0 he5
  replace hS7 : St w wd4 [] := hS7
  refine WL.val (Value.bool (decide (x1 ≥ (0 : Int)))) _ (op_geq rfl rfl) rfl ?_
  refine WL.val (Value.bool (decide (x1 ≥ (0 : Int)))) _ (op_assign rfl) rfl ?_
  refine WL.nil ?_
  show W _ _ _ _ _ _
  refine W.ret ?_
  obtain rfl := Option.some.inj h
  show FinP _ _ _ _ _ _ _
  exact FinP.ret _ (res1 rfl rfl) ⟨rfl, hS7.ext⟩

theorem c_impl_isCube {w : World} {r_Table : (List (List (List Int)))} {v_r_Table : Value} (r_r_Table : (Ty.sl (Ty.sl (Ty.sl (Ty.i .i64)))).rep w v_r_Table r_Table) {res : Bool} (h : p_impl_isCube r_Table  = some res) :
    Ret Try.prog 75 #[(Value.agg #[v_r_Table])] w (fun v w' => v = Value.bool res ∧ Ext w w') := by
  unfold p_impl_isCube at h
  have hS0 : St w w [] := St.start w
  refine Ret.start (fn := Try.f75) Try.func75 rfl 32 rfl rfl ?_
  refine W.seq (W.region ?_)
  refine WL.box hS0 rfl (cs := [v_r_Table]) rfl rfl ?_
  intro b1 wd2 hS3 he4 hx5
  replace hS3 : St w wd2 [bx b1 [v_r_Table]] := hS3
  have hx6 := St.boxAt hS3 0 rfl
  have hE7 : Ext w wd2 := hS3.ext
  have hS8 : St wd2 wd2 [] := St.start wd2
  refine WL.val (Value.bool false) _ (op_assign rfl) rfl ?_
  refine WL.nil ?_
  show W _ _ _ _ _ _
  refine W.seq (W.region ?_)
  refine WL.val (Value.pointer (some ⟨b1, 0, none⟩)) _ (op_fieldAddr fd_29_0 rfl) rfl ?_
  refine WL.val v_r_Table _ (op_load one_22 rfl (BoxAt.cell (BoxAt.lift hS8.ext hx6) rfl)) rfl ?_
  have hr9 := inR_len (Ty.lift _ (Ext.trans hE7 hS8.ext) r_r_Table)
  refine WL.val (Value.int .i64 ((r_Table).length : Int)) _ (op_lenL sl_22 (Ty.lift _ (Ext.trans hE7 hS8.ext) r_r_Table) rfl) rfl ?_
  refine WL.alloc hS8 ze_3 (cs := [(Value.int .i64 (0 : Int))]) rfl rfl ?_
  intro b10 wd11 hS12 he13
  replace hS12 : St wd2 wd11 [bx b10 [(Value.int .i64 (0 : Int))]] := hS12
  refine WL.storeBox [(Value.int .i64 ((r_Table).length : Int))] hS12 (k := 0) rfl rfl rfl (us := [(Value.int .i64 ((r_Table).length : Int))]) rfl sz_3 rfl rfl (all_cons rfl all_nil) rfl ?_
  intro wd14 hS15
  replace hS15 : St wd2 wd14 [bx b10 [(Value.int .i64 ((r_Table).length : Int))]] := hS15
  refine WL.nil ?_
  show W _ _ _ _ _ _
  refine W.seq (W.seq (W.region ?_))
  refine WL.val (Value.pointer (some ⟨b1, 0, none⟩)) _ (op_fieldAddr fd_29_0 rfl) rfl ?_
  refine WL.val v_r_Table _ (op_load one_22 rfl (BoxAt.cell (BoxAt.lift hS15.ext hx6) rfl)) rfl ?_
  have hr16 := inR_len (Ty.lift _ (Ext.trans hE7 hS15.ext) r_r_Table)
  refine WL.val (Value.int .i64 ((r_Table).length : Int)) _ (op_lenL sl_22 (Ty.lift _ (Ext.trans hE7 hS15.ext) r_r_Table) rfl) rfl ?_
  refine WL.val (Value.int .i64 (0 : Int)) _ (op_move rfl) rfl ?_
  refine WL.nil ?_
  show W _ _ _ _ _ _
  obtain ⟨res17, hres18, h⟩ := bs h
  refine W.blockLoop (fun fq wq => ∃ s, res17 = Res.fin s ∧ fq 3 = (Value.pointer (some ⟨b10, 0, none⟩)) ∧ St wd2 wq [bx b10 [(Value.int .i64 ((r_Table).length : Int))]]) ?_ ?_
  · refine W.forN (fun k (s : Unit) fq wq => fq 3 = (Value.pointer (some ⟨b10, 0, none⟩)) ∧ fq 10 = v_r_Table ∧ fq 11 = (Value.int .i64 ((r_Table).length : Int)) ∧ fq 12 = Value.int .i64 (k : Int) ∧ InR .i64 (k : Int) ∧ St wd2 wq [bx b10 [(Value.int .i64 ((r_Table).length : Int))]]) hres18 ⟨rfl, rfl, rfl, rfl, (inR_i64.2 (show (-9223372036854775808 : Int) ≤ 0 ∧ (0 : Int) ≤ 9223372036854775807 from by decide)), hS15⟩ ?_ ?_
    · intro k19 s68 ct20 f21 wd22 hk23 hb24 hI25 hbrk26 hret27
      obtain ⟨⟩ := s68
      replace hI25 : f21 3 = (Value.pointer (some ⟨b10, 0, none⟩)) ∧ f21 10 = v_r_Table ∧ f21 11 = (Value.int .i64 ((r_Table).length : Int)) ∧ f21 12 = Value.int .i64 (k19 : Int) ∧ InR .i64 (k19 : Int) ∧ St wd2 wd22 [bx b10 [(Value.int .i64 ((r_Table).length : Int))]] := hI25
      replace hb24 : p_impl_isCube_L1 r_Table k19  = some ct20 := hb24
      unfold p_impl_isCube_L1 at hb24
      obtain ⟨hf28, hf29, hf30, hf31, hr32, hS33⟩ := hI25
      refine W.seq (W.region ?_)
      refine WL.val (Value.bool (decide ((k19 : Int) < ((r_Table).length : Int)))) _ (op_lss hf31 hf30) rfl ?_
      have hl34 : (k19 : Int) < ((r_Table).length : Int) := by omega
      refine WL.nil ?_
      show W _ _ _ _ _ _
      refine W.seq ?_
      refine W.condT (decide ((k19 : Int) < ((r_Table).length : Int))) rfl (decide_eq_true hl34) ?_
      refine W.skip ?_
      show W _ _ _ _ _ _
      refine W.seq ?_
      refine W.block ?_
      refine W.seq (W.region ?_)
      obtain ⟨x36, hx39, hb24⟩ := bs hb24
      obtain ⟨ha37, hb38, hx39⟩ := idx_some hx39
      refine WL.val (Value.pointer (some (elA v_r_Table ((k19 : Int)).toNat))) _ (op_idx sl_22 (Ty.lift _ (Ext.trans hE7 hS33.ext) r_r_Table) hf29 hf31 ha37 hb38) rfl ?_
      obtain ⟨u40, hc41, hr42⟩ := repSl.el r_r_Table hx39
      refine WL.val u40 _ (op_load one_40 rfl (Ext.cell (Ext.trans hE7 hS33.ext) hc41)) rfl ?_
      refine WL.val u40 _ (op_assign rfl) rfl ?_
      refine WL.nil ?_
      show W _ _ _ _ _ _
      refine W.seq (W.region ?_)
      refine WL.val u40 _ (op_move rfl) rfl ?_
      have hr43 := inR_len (Ty.lift _ (Ext.trans hE7 hS33.ext) hr42)
      refine WL.val (Value.int .i64 ((x36).length : Int)) _ (op_lenL sl_40 (Ty.lift _ (Ext.trans hE7 hS33.ext) hr42) rfl) rfl ?_
      refine WL.val (Value.int .i64 ((r_Table).length : Int)) _ (op_load one_3 hf28 (BoxAt.cell (St.boxAt hS33 0 rfl) rfl)) rfl ?_
      refine WL.val (Value.bool (((x36).length : Int) != ((r_Table).length : Int))) _ (op_neq rfl rfl) rfl ?_
      refine WL.val (Value.bool (((x36).length : Int) != ((r_Table).length : Int))) _ (op_move rfl) rfl ?_
      obtain ⟨x45, hj46, hb24⟩ := bs hb24
      refine WL.cut 4 (fun fq wq => fq 3 = (Value.pointer (some ⟨b10, 0, none⟩)) ∧ fq 10 = v_r_Table ∧ fq 11 = (Value.int .i64 ((r_Table).length : Int)) ∧ fq 12 = (Value.int .i64 (k19 : Int)) ∧ fq 24 = Value.bool x45 ∧ St wd2 wq [bx b10 [(Value.int .i64 ((r_Table).length : Int))]]) ?_ ?_
      · rcases Bool.eq_false_or_eq_true (((x36).length : Int) != ((r_Table).length : Int)) with hc44 | hc44
        · replace hj46 := ip hj46 hc44
          refine WL.gskip rfl (bool_of rfl hc44) rfl ?_
          refine WL.gskip rfl (bool_of rfl hc44) rfl ?_
          refine WL.gskip rfl (bool_of rfl hc44) rfl ?_
          refine WL.val (Value.bool true) _ (op_pick_t (evb_of rfl hc44) rfl) rfl ?_
          refine WL.nil ?_
          obtain rfl := Option.some.inj hj46
          exact ⟨rfl, hf28, hf29, hf30, hf31, rfl, hS33⟩
        · replace hj46 := inegb hj46 hc44
          refine WL.grun rfl (bool_of rfl hc44) ?_
          refine WL.val u40 _ (op_move rfl) rfl ?_
          refine WL.grun rfl (bool_of rfl hc44) ?_
          refine WL.val (Value.func (.func 89) #[] #[(Value.pointer (some ⟨b10, 0, none⟩))]) _ (op_makeFunc (va := #[]) (vb := #[(Value.pointer (some ⟨b10, 0, none⟩))]) args0 (args1 hf28)) rfl ?_
          refine WL.grun rfl (bool_of rfl hc44) ?_
          obtain ⟨x54, hx55, hj46⟩ := bs hj46
          refine WL.call _ (op_call fn_88 (args2 rfl rfl)) (c_slices_ContainsFunc_LLint64_Lint64 (Ty.lift _ (Ext.trans hE7 hS33.ext) hr42) (⟨89, #[], #[(Value.pointer (some ⟨b10, 0, none⟩))], rfl, fn_89, fun wd50 u0_51 a0_51 r52 he51 ra0_51 hq53 => c_impl_isCube_c1 ra0_51 (BoxAt.lift he51 (St.boxAt hS33 0 rfl)) hr9 hq53⟩) hx55) rfl ?_
          rintro _ wd56 ⟨rfl, he57⟩
          have hS59 := St.extend hS33 he57
          replace hS59 : St wd2 wd56 [bx b10 [(Value.int .i64 ((r_Table).length : Int))]] := hS59
          refine WL.val (Value.bool x54) _ (op_pick_f (evb_of rfl hc44) rfl) rfl ?_
          refine WL.nil ?_
          obtain rfl := Option.some.inj hj46
          exact ⟨rfl, hf28, hf29, hf30, hf31, rfl, hS59⟩
      · intro f47 wd48 hq49
        obtain ⟨hf60, hf61, hf62, hf63, hf64, hS65⟩ := hq49
        refine WL.nil ?_
        show W _ _ _ _ _ _
        refine W.cond x45 hf64 (fun hc66 => ?_) (fun hc66 => ?_)
        · replace hb24 := ip hb24 hc66
          refine W.seq (W.region ?_)
          refine WL.val (Value.bool false) _ (op_assign rfl) rfl ?_
          refine WL.nil ?_
          show W _ _ _ _ _ _
          refine W.ret ?_
          obtain rfl := Option.some.inj hb24
          obtain rfl := hret27 _ rfl
          replace h := onRes_ret h
          obtain rfl := Option.some.inj h
          show FinP _ _ _ _ _ _ _
          exact FinP.ret _ (res1 rfl rfl) ⟨rfl, (Ext.trans hE7 hS65.ext)⟩
        · replace hb24 := inegb hb24 hc66
          refine W.skip ?_
          show W _ _ _ _ _ _
          refine W.region ?_
          refine WL.val (Value.int .i64 (w64 ((k19 : Int) + (1 : Int)))) _ (op_add hf63 rfl) rfl ?_
          refine WL.val (Value.int .i64 (w64 ((k19 : Int) + (1 : Int)))) _ (op_move rfl) rfl ?_
          refine WL.nil ?_
          obtain rfl := Option.some.inj hb24
          show ∃ s, _ = Ctl.next s ∧ _
          exact ⟨_, rfl, hf60, hf61, hf62, (ctr_next hl34 hr16), (ctr_rng hl34 hr16), hS65⟩
    · intro s73 f69 wd70 hs71 hI72
      obtain ⟨⟩ := s73
      replace hI72 : f69 3 = (Value.pointer (some ⟨b10, 0, none⟩)) ∧ f69 10 = v_r_Table ∧ f69 11 = (Value.int .i64 ((r_Table).length : Int)) ∧ f69 12 = Value.int .i64 (((r_Table).length : Nat) : Int) ∧ InR .i64 (((r_Table).length : Nat) : Int) ∧ St wd2 wd70 [bx b10 [(Value.int .i64 ((r_Table).length : Int))]] := hI72
      obtain ⟨hf74, hf75, hf76, hf77, hr78, hS79⟩ := hI72
      refine W.seq (W.region ?_)
      refine WL.val (Value.bool (decide ((((r_Table).length : Nat) : Int) < ((r_Table).length : Int)))) _ (op_lss hf77 hf76) rfl ?_
      have hl80 : ¬ (((r_Table).length : Nat) : Int) < ((r_Table).length : Int) := by omega
      refine WL.nil ?_
      show W _ _ _ _ _ _
      refine W.seq ?_
      refine W.condF (decide ((((r_Table).length : Nat) : Int) < ((r_Table).length : Int))) rfl (decide_eq_false hl80) ?_
      refine W.exit ?_
      show _ = _ ∧ _
      exact ⟨rfl, _, hs71, hf74, hS79⟩
  · rintro f81 wd82 ⟨s84, rfl, hq83⟩
    replace h := onRes_fin h
    obtain ⟨⟩ := s84
    replace hq83 : f81 3 = (Value.pointer (some ⟨b10, 0, none⟩)) ∧ St wd2 wd82 [bx b10 [(Value.int .i64 ((r_Table).length : Int))]] := hq83
    obtain ⟨hf85, hS86⟩ := hq83
    show W _ _ _ _ _ _
    refine W.seq (W.region ?_)
    refine WL.val (Value.int .i64 ((r_Table).length : Int)) _ (op_load one_3 hf85 (BoxAt.cell (St.boxAt hS86 0 rfl) rfl)) rfl ?_
    refine WL.val (Value.bool (decide (((r_Table).length : Int) ≥ (1 : Int)))) _ (op_geq rfl rfl) rfl ?_
    refine WL.val (Value.bool (decide (((r_Table).length : Int) ≥ (1 : Int)))) _ (op_move rfl) rfl ?_
    refine WL.cut 3 (fun fq wq => fq 31 = (Value.bool ((decide (((r_Table).length : Int) ≥ (1 : Int))) && (decide (((r_Table).length : Int) ≤ (16 : Int))))) ∧ St wd2 wq []) ?_ ?_
    · rcases Bool.eq_false_or_eq_true (decide (((r_Table).length : Int) ≥ (1 : Int))) with hc87 | hc87
      · refine WL.grun rfl (bool_of rfl hc87) ?_
        refine WL.val (Value.int .i64 ((r_Table).length : Int)) _ (op_load one_3 hf85 (BoxAt.cell (St.boxAt hS86 0 rfl) rfl)) rfl ?_
        refine WL.grun rfl (bool_of rfl hc87) ?_
        refine WL.val (Value.bool (decide (((r_Table).length : Int) ≤ (16 : Int)))) _ (op_leq rfl rfl) rfl ?_
        refine WL.val (Value.bool (decide (((r_Table).length : Int) ≤ (16 : Int)))) _ (op_pick_t (evb_of rfl hc87) rfl) rfl ?_
        refine WL.nil ?_
        exact ⟨rfl, (andT hc87), (St.pick hS86 [] rfl)⟩
      · refine WL.gskip rfl (bool_of rfl hc87) rfl ?_
        refine WL.gskip rfl (bool_of rfl hc87) rfl ?_
        refine WL.val (Value.bool false) _ (op_pick_f (evb_of rfl hc87) rfl) rfl ?_
        refine WL.nil ?_
        exact ⟨rfl, (andF hc87), (St.pick hS86 [] rfl)⟩
    · intro f88 wd89 hq90
      obtain ⟨hf91, hS92⟩ := hq90
      refine WL.val (Value.bool ((decide (((r_Table).length : Int) ≥ (1 : Int))) && (decide (((r_Table).length : Int) ≤ (16 : Int))))) _ (op_assign hf91) rfl ?_
      refine WL.nil ?_
      show W _ _ _ _ _ _
      refine W.ret ?_
      obtain rfl := Option.some.inj h
      show FinP _ _ _ _ _ _ _
      exact FinP.ret _ (res1 rfl rfl) ⟨rfl, (Ext.trans hE7 hS92.ext)⟩

theorem c_impl_delta {w : World} {i : Int} {k1 : Int} (r_i : InR .i64 i) (r_k1 : InR .i64 k1) {res : Int} (h : p_impl_delta i k1  = some res) :
    Ret Try.prog 104 #[(Value.int .i64 i), (Value.int .i64 k1)] w (fun v w' => v = Value.int .i64 res ∧ InR .i64 res ∧ Ext w w') := by
  unfold p_impl_delta at h
  have hS0 : St w w [] := St.start w
  refine Ret.start (fn := Try.f104) Try.func104 rfl 8 rfl rfl ?_
  refine W.seq (W.region ?_)
  refine WL.val (Value.int .i64 (0 : Int)) _ (op_assign rfl) rfl ?_
  refine WL.nil ?_
  show W _ _ _ _ _ _
  refine W.seq (W.seq (W.region ?_))
  refine WL.val (Value.int .i64 i) _ (op_move rfl) rfl ?_
  refine WL.val (Value.int .i64 k1) _ (op_move rfl) rfl ?_
  refine WL.val (Value.bool (i == k1)) _ (op_eql rfl rfl) rfl ?_
  refine WL.nil ?_
  show W _ _ _ _ _ _
  refine W.cond (i == k1) rfl (fun hc1 => ?_) (fun hc1 => ?_)
  · replace h := ip h hc1
    refine W.seq (W.region ?_)
    refine WL.val (Value.int .i64 (1 : Int)) _ (op_assign rfl) rfl ?_
    refine WL.nil ?_
    show W _ _ _ _ _ _
    refine W.ret ?_
    obtain rfl := Option.some.inj h
    show FinP _ _ _ _ _ _ _
    exact FinP.ret _ (res1 rfl rfl) ⟨rfl, (inR_i64.2 (show (-9223372036854775808 : Int) ≤ 1 ∧ (1 : Int) ≤ 9223372036854775807 from by decide)), hS0.ext⟩
  · replace h := inegb h hc1
    refine W.skip ?_
    show W _ _ _ _ _ _
    refine W.seq (W.region ?_)
    refine WL.val (Value.int .i64 (0 : Int)) _ (op_assign rfl) rfl ?_
    refine WL.nil ?_
    show W _ _ _ _ _ _
    refine W.ret ?_
    obtain rfl := Option.some.inj h
    show FinP _ _ _ _ _ _ _
    exact FinP.ret _ (res1 rfl rfl) ⟨rfl, (inR_i64.2 (show (-9223372036854775808 : Int) ≤ 0 ∧ (0 : Int) ≤ 9223372036854775807 from by decide)), hS0.ext⟩

theorem c_impl_Ring_unitFault {w : World} {r_Table : (List (List (List Int)))} {v_r_Table : Value} (r_r_Table : (Ty.sl (Ty.sl (Ty.sl (Ty.i .i64)))).rep w v_r_Table r_Table) {res : (List Int)} (h : p_impl_Ring_unitFault r_Table  = some res) :
    Ret Try.prog 90 #[(Value.agg #[v_r_Table])] w (fun v w' => ∃ (u0 : Value), v = u0 ∧ NilIff u0 res ∧ Ext w w' ∧ Sep w.heap.size w' [(Ty.sl (Ty.i .i64)).at u0 res]) := by
  unfold p_impl_Ring_unitFault at h
  have hS0 : St w w [] := St.start w
  refine Ret.start (fn := Try.f90) Try.func90 rfl 52 rfl rfl ?_
  refine W.seq (W.region ?_)
  refine WL.box hS0 rfl (cs := [v_r_Table]) rfl rfl ?_
  intro b1 wd2 hS3 he4 hx5
  replace hS3 : St w wd2 [bx b1 [v_r_Table]] := hS3
  have hx6 := St.boxAt hS3 0 rfl
  have hE7 : Ext w wd2 := hS3.ext
  have hS8 : St wd2 wd2 [] := St.start wd2
  refine WL.val (Value.slice none 0 0) _ (op_assign rfl) rfl ?_
  refine WL.nil ?_
  show W _ _ _ _ _ _
  refine W.seq (W.seq (W.region ?_))
  refine WL.val (Value.pointer (some ⟨b1, 0, none⟩)) _ (op_fieldAddr fd_29_0 rfl) rfl ?_
  refine WL.val v_r_Table _ (op_load one_22 rfl (BoxAt.cell (BoxAt.lift hS8.ext hx6) rfl)) rfl ?_
  have hr9 := inR_len (Ty.lift _ (Ext.trans hE7 hS8.ext) r_r_Table)
  refine WL.val (Value.int .i64 ((r_Table).length : Int)) _ (op_lenL sl_22 (Ty.lift _ (Ext.trans hE7 hS8.ext) r_r_Table) rfl) rfl ?_
  refine WL.val (Value.int .i64 (0 : Int)) _ (op_move rfl) rfl ?_
  refine WL.nil ?_
  show W _ _ _ _ _ _
  obtain ⟨res10, hres11, h⟩ := bs h
  refine W.blockLoop (fun fq wq => ∃ s, res10 = Res.fin s ∧ St wd2 wq []) ?_ ?_
  · refine W.forN (fun k (s : Unit) fq wq => fq 1 = (Value.pointer (some ⟨b1, 0, none⟩)) ∧ fq 7 = (Value.int .i64 ((r_Table).length : Int)) ∧ fq 8 = Value.int .i64 (k : Int) ∧ InR .i64 (k : Int) ∧ St wd2 wq []) hres11 ⟨rfl, rfl, rfl, (inR_i64.2 (show (-9223372036854775808 : Int) ≤ 0 ∧ (0 : Int) ≤ 9223372036854775807 from by decide)), hS8⟩ ?_ ?_
    · intro k12 s672 ct13 f14 wd15 hk16 hb17 hI18 hbrk19 hret20
      obtain ⟨⟩ := s672
      replace hI18 : f14 1 = (Value.pointer (some ⟨b1, 0, none⟩)) ∧ f14 7 = (Value.int .i64 ((r_Table).length : Int)) ∧ f14 8 = Value.int .i64 (k12 : Int) ∧ InR .i64 (k12 : Int) ∧ St wd2 wd15 [] := hI18
      replace hb17 : p_impl_Ring_unitFault_L1 r_Table k12  = some ct13 := hb17
      unfold p_impl_Ring_unitFault_L1 at hb17
      obtain ⟨hf21, hf22, hf23, hr24, hS25⟩ := hI18
      refine W.seq (W.region ?_)
      refine WL.val (Value.bool (decide ((k12 : Int) < ((r_Table).length : Int)))) _ (op_lss hf23 hf22) rfl ?_
      have hl26 : (k12 : Int) < ((r_Table).length : Int) := by omega
      refine WL.nil ?_
      show W _ _ _ _ _ _
      refine W.seq ?_
      refine W.condT (decide ((k12 : Int) < ((r_Table).length : Int))) rfl (decide_eq_true hl26) ?_
      refine W.skip ?_
      show W _ _ _ _ _ _
      refine W.seq ?_
      refine W.block ?_
      refine W.seq (W.region ?_)
      refine WL.val (Value.int .i64 (k12 : Int)) _ (op_move hf23) rfl ?_
      refine WL.val (Value.int .i64 (k12 : Int)) _ (op_assign rfl) rfl ?_
      refine WL.nil ?_
      show W _ _ _ _ _ _
      refine W.seq (W.region ?_)
      refine WL.val (Value.pointer (some ⟨b1, 0, none⟩)) _ (op_fieldAddr fd_29_0 hf21) rfl ?_
      refine WL.val v_r_Table _ (op_load one_22 rfl (BoxAt.cell (BoxAt.lift hS25.ext hx6) rfl)) rfl ?_
      have hr28 := inR_len (Ty.lift _ (Ext.trans hE7 hS25.ext) r_r_Table)
      refine WL.val (Value.int .i64 ((r_Table).length : Int)) _ (op_lenL sl_22 (Ty.lift _ (Ext.trans hE7 hS25.ext) r_r_Table) rfl) rfl ?_
      refine WL.val (Value.int .i64 (0 : Int)) _ (op_move rfl) rfl ?_
      refine WL.nil ?_
      show W _ _ _ _ _ _
      obtain ⟨res29, hres30, hb17⟩ := bs hb17
      refine W.blockLoop (fun fq wq => ∃ s, res29 = Res.fin s ∧ fq 1 = (Value.pointer (some ⟨b1, 0, none⟩)) ∧ fq 7 = (Value.int .i64 ((r_Table).length : Int)) ∧ fq 8 = (Value.int .i64 (k12 : Int)) ∧ St wd2 wq []) ?_ ?_
      · refine W.forN (fun k (s : Unit) fq wq => fq 1 = (Value.pointer (some ⟨b1, 0, none⟩)) ∧ fq 3 = (Value.int .i64 (k12 : Int)) ∧ fq 7 = (Value.int .i64 ((r_Table).length : Int)) ∧ fq 8 = (Value.int .i64 (k12 : Int)) ∧ fq 13 = (Value.int .i64 ((r_Table).length : Int)) ∧ fq 14 = Value.int .i64 (k : Int) ∧ InR .i64 (k : Int) ∧ St wd2 wq []) hres30 ⟨hf21, rfl, hf22, hf23, rfl, rfl, (inR_i64.2 (show (-9223372036854775808 : Int) ≤ 0 ∧ (0 : Int) ≤ 9223372036854775807 from by decide)), hS25⟩ ?_ ?_
        · intro k31 s648 ct32 f33 wd34 hk35 hb36 hI37 hbrk38 hret39
          obtain ⟨⟩ := s648
          replace hI37 : f33 1 = (Value.pointer (some ⟨b1, 0, none⟩)) ∧ f33 3 = (Value.int .i64 (k12 : Int)) ∧ f33 7 = (Value.int .i64 ((r_Table).length : Int)) ∧ f33 8 = (Value.int .i64 (k12 : Int)) ∧ f33 13 = (Value.int .i64 ((r_Table).length : Int)) ∧ f33 14 = Value.int .i64 (k31 : Int) ∧ InR .i64 (k31 : Int) ∧ St wd2 wd34 [] := hI37
          replace hb36 : p_impl_Ring_unitFault_L2 r_Table k12 k31  = some ct32 := hb36
          unfold p_impl_Ring_unitFault_L2 at hb36
          obtain ⟨hf40, hf41, hf42, hf43, hf44, hf45, hr46, hS47⟩ := hI37
          refine W.seq (W.region ?_)
          refine WL.val (Value.bool (decide ((k31 : Int) < ((r_Table).length : Int)))) _ (op_lss hf45 hf44) rfl ?_
          have hl48 : (k31 : Int) < ((r_Table).length : Int) := by omega
          refine WL.nil ?_
          show W _ _ _ _ _ _
          refine W.seq ?_
          refine W.condT (decide ((k31 : Int) < ((r_Table).length : Int))) rfl (decide_eq_true hl48) ?_
          refine W.skip ?_
          show W _ _ _ _ _ _
          refine W.seq ?_
          refine W.block ?_
          refine W.seq (W.region ?_)
          refine WL.val (Value.int .i64 (k31 : Int)) _ (op_move hf45) rfl ?_
          refine WL.val (Value.int .i64 (k31 : Int)) _ (op_assign rfl) rfl ?_
          refine WL.nil ?_
          show W _ _ _ _ _ _
          refine W.seq ?_
          obtain ⟨x77, hx80, hb36⟩ := bs hb36
          obtain ⟨ha78, hb79, hx80⟩ := idx_some hx80
          obtain ⟨u91, hc92, hr93⟩ := repSl.el r_r_Table hx80
          obtain ⟨x116, hx119, hb36⟩ := bs hb36
          obtain ⟨ha117, hb118, hx119⟩ := idx_some hx119
          obtain ⟨u130, hc131, hr132⟩ := repSl.el hr93 hx119
          obtain ⟨x155, hx158, hb36⟩ := bs hb36
          obtain ⟨ha156, hb157, hx158⟩ := idx_some hx158
          obtain ⟨u169, hc170, hr171⟩ := repSl.el hr132 hx158
          obtain ⟨rfl, hr171⟩ := hr171
          obtain ⟨x202, hx203, hb36⟩ := bs hb36
          obtain ⟨x234, hj235, hb36⟩ := bs hb36
          refine W.cutCode (fun fq wq => fq 1 = (Value.pointer (some ⟨b1, 0, none⟩)) ∧ fq 3 = (Value.int .i64 (k12 : Int)) ∧ fq 4 = (Value.int .i64 (k31 : Int)) ∧ fq 7 = (Value.int .i64 ((r_Table).length : Int)) ∧ fq 8 = (Value.int .i64 (k12 : Int)) ∧ fq 13 = (Value.int .i64 ((r_Table).length : Int)) ∧ fq 14 = (Value.int .i64 (k31 : Int)) ∧ fq 46 = Value.bool x234 ∧ St wd2 wq []) ?_ ?_
          · rcases Bool.eq_false_or_eq_true (x155 != x202) with hc236 | hc236
            · replace hj235 := ip hj235 hc236
              refine W.drawR mixo 28 [] [fun _ v _ _ => v = (Value.pointer (some ⟨b1, 0, none⟩)), fun _ v _ _ => v = v_r_Table, fun _ v _ _ => v = (Value.pointer (some (elA v_r_Table ((0 : Int)).toNat))), fun _ v _ _ => v = u91, fun _ v _ _ => v = (Value.int .i64 (k12 : Int)) ∧ InR .i64 (k12 : Int), fun _ v _ _ => v = (Value.pointer (some (elA u91 ((k12 : Int)).toNat))), fun _ v _ _ => v = u130, fun _ v _ _ => v = (Value.int .i64 (k31 : Int)) ∧ InR .i64 (k31 : Int), fun _ v _ _ => v = (Value.pointer (some (elA u130 ((k31 : Int)).toNat))), fun _ v _ _ => v = (Value.int .i64 x155) ∧ InR .i64 x155, fun _ v _ _ => v = (Value.int .i64 (k12 : Int)) ∧ InR .i64 (k12 : Int), fun _ v _ _ => v = (Value.int .i64 (k31 : Int)) ∧ InR .i64 (k31 : Int), fun _ v _ _ => v = (Value.int .i64 x202) ∧ InR .i64 x202, fun _ v _ _ => v = (Value.bool (x155 != x202)), fun _ v _ _ => v = (Value.bool (x155 != x202)), fun _ v _ _ => v = undef, fun _ v _ _ => v = undef, fun _ v _ _ => v = undef, fun _ v _ _ => v = undef, fun _ v _ _ => v = undef, fun _ v _ _ => v = undef, fun _ v _ _ => v = undef, fun _ v _ _ => v = undef, fun _ v _ _ => v = undef, fun _ v _ _ => v = undef, fun _ v _ _ => v = undef, fun _ v _ _ => v = undef, fun _ v _ _ => v = undef] (by kernel_rfl) (by kernel_rfl) ⟨⟨fun _ _ _ _ _ _ h => h, fun _ _ _ _ _ _ h => h⟩, ⟨fun _ _ _ _ _ _ h => h, fun _ _ _ _ _ _ h => h⟩, ⟨fun _ _ _ _ _ _ h => h, fun _ _ _ _ _ _ h => h⟩, ⟨fun _ _ _ _ _ _ h => h, fun _ _ _ _ _ _ h => h⟩, ⟨fun _ _ _ _ _ _ h => h, fun _ _ _ _ _ _ h => h⟩, ⟨fun _ _ _ _ _ _ h => h, fun _ _ _ _ _ _ h => h⟩, ⟨fun _ _ _ _ _ _ h => h, fun _ _ _ _ _ _ h => h⟩, ⟨fun _ _ _ _ _ _ h => h, fun _ _ _ _ _ _ h => h⟩, ⟨fun _ _ _ _ _ _ h => h, fun _ _ _ _ _ _ h => h⟩, ⟨fun _ _ _ _ _ _ h => h, fun _ _ _ _ _ _ h => h⟩, ⟨fun _ _ _ _ _ _ h => h, fun _ _ _ _ _ _ h => h⟩, ⟨fun _ _ _ _ _ _ h => h, fun _ _ _ _ _ _ h => h⟩, ⟨fun _ _ _ _ _ _ h => h, fun _ _ _ _ _ _ h => h⟩, ⟨fun _ _ _ _ _ _ h => h, fun _ _ _ _ _ _ h => h⟩, ⟨fun _ _ _ _ _ _ h => h, fun _ _ _ _ _ _ h => h⟩, ⟨fun _ _ _ _ _ _ h => h, fun _ _ _ _ _ _ h => h⟩, ⟨fun _ _ _ _ _ _ h => h, fun _ _ _ _ _ _ h => h⟩, ⟨fun _ _ _ _ _ _ h => h, fun _ _ _ _ _ _ h => h⟩, ⟨fun _ _ _ _ _ _ h => h, fun _ _ _ _ _ _ h => h⟩, ⟨fun _ _ _ _ _ _ h => h, fun _ _ _ _ _ _ h => h⟩, ⟨fun _ _ _ _ _ _ h => h, fun _ _ _ _ _ _ h => h⟩, ⟨fun _ _ _ _ _ _ h => h, fun _ _ _ _ _ _ h => h⟩, ⟨fun _ _ _ _ _ _ h => h, fun _ _ _ _ _ _ h => h⟩, ⟨fun _ _ _ _ _ _ h => h, fun _ _ _ _ _ _ h => h⟩, ⟨fun _ _ _ _ _ _ h => h, fun _ _ _ _ _ _ h => h⟩, ⟨fun _ _ _ _ _ _ h => h, fun _ _ _ _ _ _ h => h⟩, ⟨fun _ _ _ _ _ _ h => h, fun _ _ _ _ _ _ h => h⟩, ⟨fun _ _ _ _ _ _ h => h, fun _ _ _ _ _ _ h => h⟩, trivial⟩ ⟨?_, ?_, ?_, ?_, ?_, ?_, ?_, ?_, ?_, ?_, ?_, ?_, ?_, ?_, ?_, ?_, ?_, ?_, ?_, ?_, ?_, ?_, ?_, ?_, ?_, ?_, ?_, ?_, trivial⟩ ?_
              · refine ObX.op rfl ?_
                intro f50 wd51 he52 hout53 hphi54
                have hS55 : St wd2 wd51 [] := St.extend hS47 he52
                have e56 : f50 1 = (Value.pointer (some ⟨b1, 0, none⟩)) := (hout53 1 rfl).trans hf40
                exact OpX.val (Value.pointer (some ⟨b1, 0, none⟩)) wd51 rfl (op_fieldAddr fd_29_0 e56) (Ext.refl _) rfl
              · refine ObX.op rfl ?_
                intro f57 wd58 he59 hout60 hphi61
                have hS62 : St wd2 wd58 [] := St.extend hS47 he59
                obtain ⟨S63, hS64, hf65⟩ := hphi61 0 17 _ rfl rfl rfl
                have e66 : f57 17 = (Value.pointer (some ⟨b1, 0, none⟩)) := hf65
                exact OpX.val v_r_Table wd58 rfl (op_load one_22 e66 (BoxAt.cell (BoxAt.lift hS62.ext hx6) rfl)) (Ext.refl _) rfl
              · refine ObX.op rfl ?_
                intro f67 wd68 he69 hout70 hphi71
                have hS72 : St wd2 wd68 [] := St.extend hS47 he69
                obtain ⟨S73, hS74, hf75⟩ := hphi71 1 18 _ rfl rfl rfl
                have e76 : f67 18 = v_r_Table := hf75
                exact OpX.val (Value.pointer (some (elA v_r_Table ((0 : Int)).toNat))) wd68 rfl (op_idx sl_22 (Ty.lift _ (Ext.trans hE7 hS72.ext) r_r_Table) e76 rfl ha78 hb79) (Ext.refl _) rfl
              · refine ObX.op rfl ?_
                intro f81 wd82 he83 hout84 hphi85
                have hS86 : St wd2 wd82 [] := St.extend hS47 he83
                obtain ⟨S87, hS88, hf89⟩ := hphi85 2 19 _ rfl rfl rfl
                have e90 : f81 19 = (Value.pointer (some (elA v_r_Table ((0 : Int)).toNat))) := hf89
                exact OpX.val u91 wd82 rfl (op_load one_40 e90 (Ext.cell (Ext.trans hE7 hS86.ext) hc92)) (Ext.refl _) rfl
              · refine ObX.op rfl ?_
                intro f94 wd95 he96 hout97 hphi98
                have hS99 : St wd2 wd95 [] := St.extend hS47 he96
                have e100 : f94 3 = (Value.int .i64 (k12 : Int)) := (hout97 3 rfl).trans hf41
                exact OpX.val (Value.int .i64 (k12 : Int)) wd95 rfl (op_move e100) (Ext.refl _) ⟨rfl, hr24⟩
              · refine ObX.op rfl ?_
                intro f101 wd102 he103 hout104 hphi105
                have hS106 : St wd2 wd102 [] := St.extend hS47 he103
                obtain ⟨S107, hS108, hf109⟩ := hphi105 3 20 _ rfl rfl rfl
                have e110 : f101 20 = u91 := hf109
                obtain ⟨S111, hS112, hf113⟩ := hphi105 4 21 _ rfl rfl rfl
                obtain ⟨e114, hr115⟩ : f101 21 = (Value.int .i64 (k12 : Int)) ∧ InR .i64 (k12 : Int) := hf113
                exact OpX.val (Value.pointer (some (elA u91 ((k12 : Int)).toNat))) wd102 rfl (op_idx sl_40 (Ty.lift _ (Ext.trans hE7 hS106.ext) hr93) e110 e114 ha117 hb118) (Ext.refl _) rfl
              · refine ObX.op rfl ?_
                intro f120 wd121 he122 hout123 hphi124
                have hS125 : St wd2 wd121 [] := St.extend hS47 he122
                obtain ⟨S126, hS127, hf128⟩ := hphi124 5 22 _ rfl rfl rfl
                have e129 : f120 22 = (Value.pointer (some (elA u91 ((k12 : Int)).toNat))) := hf128
                exact OpX.val u130 wd121 rfl (op_load one_25 e129 (Ext.cell (Ext.trans hE7 hS125.ext) hc131)) (Ext.refl _) rfl
              · refine ObX.op rfl ?_
                intro f133 wd134 he135 hout136 hphi137
                have hS138 : St wd2 wd134 [] := St.extend hS47 he135
                have e139 : f133 4 = (Value.int .i64 (k31 : Int)) := (hout136 4 rfl).trans rfl
                exact OpX.val (Value.int .i64 (k31 : Int)) wd134 rfl (op_move e139) (Ext.refl _) ⟨rfl, hr46⟩
              · refine ObX.op rfl ?_
                intro f140 wd141 he142 hout143 hphi144
                have hS145 : St wd2 wd141 [] := St.extend hS47 he142
                obtain ⟨S146, hS147, hf148⟩ := hphi144 6 23 _ rfl rfl rfl
                have e149 : f140 23 = u130 := hf148
                obtain ⟨S150, hS151, hf152⟩ := hphi144 7 24 _ rfl rfl rfl
                obtain ⟨e153, hr154⟩ : f140 24 = (Value.int .i64 (k31 : Int)) ∧ InR .i64 (k31 : Int) := hf152
                exact OpX.val (Value.pointer (some (elA u130 ((k31 : Int)).toNat))) wd141 rfl (op_idx sl_25 (Ty.lift _ (Ext.trans hE7 hS145.ext) hr132) e149 e153 ha156 hb157) (Ext.refl _) rfl
              · refine ObX.op rfl ?_
                intro f159 wd160 he161 hout162 hphi163
                have hS164 : St wd2 wd160 [] := St.extend hS47 he161
                obtain ⟨S165, hS166, hf167⟩ := hphi163 8 25 _ rfl rfl rfl
                have e168 : f159 25 = (Value.pointer (some (elA u130 ((k31 : Int)).toNat))) := hf167
                exact OpX.val (Value.int .i64 x155) wd160 rfl (op_load one_2 e168 (Ext.cell (Ext.trans hE7 hS164.ext) hc170)) (Ext.refl _) ⟨rfl, hr171⟩
              · refine ObX.op rfl ?_
                intro f172 wd173 he174 hout175 hphi176
                have hS177 : St wd2 wd173 [] := St.extend hS47 he174
                have e178 : f172 3 = (Value.int .i64 (k12 : Int)) := (hout175 3 rfl).trans hf41
                exact OpX.val (Value.int .i64 (k12 : Int)) wd173 rfl (op_move e178) (Ext.refl _) ⟨rfl, hr24⟩
              · refine ObX.op rfl ?_
                intro f179 wd180 he181 hout182 hphi183
                have hS184 : St wd2 wd180 [] := St.extend hS47 he181
                have e185 : f179 4 = (Value.int .i64 (k31 : Int)) := (hout182 4 rfl).trans rfl
                exact OpX.val (Value.int .i64 (k31 : Int)) wd180 rfl (op_move e185) (Ext.refl _) ⟨rfl, hr46⟩
              · refine ObX.op rfl ?_
                intro f186 wd187 he188 hout189 hphi190
                have hS191 : St wd2 wd187 [] := St.extend hS47 he188
                obtain ⟨S192, hS193, hf194⟩ := hphi190 10 27 _ rfl rfl rfl
                obtain ⟨e195, hr196⟩ : f186 27 = (Value.int .i64 (k12 : Int)) ∧ InR .i64 (k12 : Int) := hf194
                obtain ⟨S197, hS198, hf199⟩ := hphi190 11 28 _ rfl rfl rfl
                obtain ⟨e200, hr201⟩ : f186 28 = (Value.int .i64 (k31 : Int)) ∧ InR .i64 (k31 : Int) := hf199
                refine OpX.call rfl (op_call fn_104 (args2 e195 e200)) (Ret.mono (c_impl_delta hr196 hr201 hx203) ?_)
                rintro _ wd205 ⟨rfl, hr204, he206⟩
                exact ⟨he206, _, noS _ _, ⟨rfl, hr204⟩⟩
              · refine ObX.op rfl ?_
                intro f208 wd209 he210 hout211 hphi212
                have hS213 : St wd2 wd209 [] := St.extend hS47 he210
                obtain ⟨S214, hS215, hf216⟩ := hphi212 9 26 _ rfl rfl rfl
                obtain ⟨e217, hr218⟩ : f208 26 = (Value.int .i64 x155) ∧ InR .i64 x155 := hf216
                obtain ⟨S219, hS220, hf221⟩ := hphi212 12 29 _ rfl rfl rfl
                obtain ⟨e222, hr223⟩ : f208 29 = (Value.int .i64 x202) ∧ InR .i64 x202 := hf221
                exact OpX.val (Value.bool (x155 != x202)) wd209 rfl (op_neq e217 e222) (Ext.refl _) rfl
              · refine ObX.op rfl ?_
                intro f224 wd225 he226 hout227 hphi228
                have hS229 : St wd2 wd225 [] := St.extend hS47 he226
                obtain ⟨S230, hS231, hf232⟩ := hphi228 13 30 _ rfl rfl rfl
                have e233 : f224 30 = (Value.bool (x155 != x202)) := hf232
                exact OpX.val (Value.bool (x155 != x202)) wd225 rfl (op_move e233) (Ext.refl _) rfl
              · refine ObX.op rfl ?_
                intro f237 wd238 he239 hout240 hphi241
                obtain ⟨S242, hS243, hf244⟩ := hphi241 14 31 _ rfl rfl rfl
                have e245 : f237 31 = (Value.bool (x155 != x202)) := hf244
                exact OpX.skip (wanted_skip rfl rfl e245 hc236) rfl
              · refine ObX.op rfl ?_
                intro f246 wd247 he248 hout249 hphi250
                obtain ⟨S251, hS252, hf253⟩ := hphi250 14 31 _ rfl rfl rfl
                have e254 : f246 31 = (Value.bool (x155 != x202)) := hf253
                exact OpX.skip (wanted_skip rfl rfl e254 hc236) rfl
              · refine ObX.op rfl ?_
                intro f255 wd256 he257 hout258 hphi259
                obtain ⟨S260, hS261, hf262⟩ := hphi259 14 31 _ rfl rfl rfl
                have e263 : f255 31 = (Value.bool (x155 != x202)) := hf262
                exact OpX.skip (wanted_skip rfl rfl e263 hc236) rfl
              · refine ObX.op rfl ?_
                intro f264 wd265 he266 hout267 hphi268
                obtain ⟨S269, hS270, hf271⟩ := hphi268 14 31 _ rfl rfl rfl
                have e272 : f264 31 = (Value.bool (x155 != x202)) := hf271
                exact OpX.skip (wanted_skip rfl rfl e272 hc236) rfl
              · refine ObX.op rfl ?_
                intro f273 wd274 he275 hout276 hphi277
                obtain ⟨S278, hS279, hf280⟩ := hphi277 14 31 _ rfl rfl rfl
                have e281 : f273 31 = (Value.bool (x155 != x202)) := hf280
                exact OpX.skip (wanted_skip rfl rfl e281 hc236) rfl
              · refine ObX.op rfl ?_
                intro f282 wd283 he284 hout285 hphi286
                obtain ⟨S287, hS288, hf289⟩ := hphi286 14 31 _ rfl rfl rfl
                have e290 : f282 31 = (Value.bool (x155 != x202)) := hf289
                exact OpX.skip (wanted_skip rfl rfl e290 hc236) rfl
              · refine ObX.op rfl ?_
                intro f291 wd292 he293 hout294 hphi295
                obtain ⟨S296, hS297, hf298⟩ := hphi295 14 31 _ rfl rfl rfl
                have e299 : f291 31 = (Value.bool (x155 != x202)) := hf298
                exact OpX.skip (wanted_skip rfl rfl e299 hc236) rfl
              · refine ObX.op rfl ?_
                intro f300 wd301 he302 hout303 hphi304
                obtain ⟨S305, hS306, hf307⟩ := hphi304 14 31 _ rfl rfl rfl
                have e308 : f300 31 = (Value.bool (x155 != x202)) := hf307
                exact OpX.skip (wanted_skip rfl rfl e308 hc236) rfl
              · refine ObX.op rfl ?_
                intro f309 wd310 he311 hout312 hphi313
                obtain ⟨S314, hS315, hf316⟩ := hphi313 14 31 _ rfl rfl rfl
                have e317 : f309 31 = (Value.bool (x155 != x202)) := hf316
                exact OpX.skip (wanted_skip rfl rfl e317 hc236) rfl
              · refine ObX.op rfl ?_
                intro f318 wd319 he320 hout321 hphi322
                obtain ⟨S323, hS324, hf325⟩ := hphi322 14 31 _ rfl rfl rfl
                have e326 : f318 31 = (Value.bool (x155 != x202)) := hf325
                exact OpX.skip (wanted_skip rfl rfl e326 hc236) rfl
              · refine ObX.op rfl ?_
                intro f327 wd328 he329 hout330 hphi331
                obtain ⟨S332, hS333, hf334⟩ := hphi331 14 31 _ rfl rfl rfl
                have e335 : f327 31 = (Value.bool (x155 != x202)) := hf334
                exact OpX.skip (wanted_skip rfl rfl e335 hc236) rfl
              · refine ObX.op rfl ?_
                intro f336 wd337 he338 hout339 hphi340
                obtain ⟨S341, hS342, hf343⟩ := hphi340 14 31 _ rfl rfl rfl
                have e344 : f336 31 = (Value.bool (x155 != x202)) := hf343
                exact OpX.skip (wanted_skip rfl rfl e344 hc236) rfl
              · refine ObX.op rfl ?_
                intro f345 wd346 he347 hout348 hphi349
                obtain ⟨S350, hS351, hf352⟩ := hphi349 14 31 _ rfl rfl rfl
                have e353 : f345 31 = (Value.bool (x155 != x202)) := hf352
                exact OpX.skip (wanted_skip rfl rfl e353 hc236) rfl
              · intro f354 wd355 Ss356 he357 hout358 hSn359 hSd360 hphi361
                show WL _ _ _ _ _ _ _
                have hS362 : St wd2 wd355 [] := St.extend hS47 he357
                have e363 : f354 31 = (Value.bool (x155 != x202)) := hphi361 14 31 _ (by decide) rfl rfl
                have e364 : f354 32 = undef := hphi361 15 32 _ (by decide) rfl rfl
                have e365 : f354 33 = undef := hphi361 16 33 _ (by decide) rfl rfl
                have e366 : f354 34 = undef := hphi361 17 34 _ (by decide) rfl rfl
                have e367 : f354 35 = undef := hphi361 18 35 _ (by decide) rfl rfl
                have e368 : f354 36 = undef := hphi361 19 36 _ (by decide) rfl rfl
                have e369 : f354 37 = undef := hphi361 20 37 _ (by decide) rfl rfl
                have e370 : f354 38 = undef := hphi361 21 38 _ (by decide) rfl rfl
                have e371 : f354 39 = undef := hphi361 22 39 _ (by decide) rfl rfl
                have e372 : f354 40 = undef := hphi361 23 40 _ (by decide) rfl rfl
                have e373 : f354 41 = undef := hphi361 24 41 _ (by decide) rfl rfl
                have e374 : f354 42 = undef := hphi361 25 42 _ (by decide) rfl rfl
                have e375 : f354 43 = undef := hphi361 26 43 _ (by decide) rfl rfl
                have e376 : f354 44 = undef := hphi361 27 44 _ (by decide) rfl rfl
                have e377 : f354 1 = (Value.pointer (some ⟨b1, 0, none⟩)) := (hout358 1 rfl).trans hf40
                have e378 : f354 3 = (Value.int .i64 (k12 : Int)) := (hout358 3 rfl).trans hf41
                have e379 : f354 4 = (Value.int .i64 (k31 : Int)) := (hout358 4 rfl).trans rfl
                have e380 : f354 7 = (Value.int .i64 ((r_Table).length : Int)) := (hout358 7 rfl).trans hf42
                have e381 : f354 8 = (Value.int .i64 (k12 : Int)) := (hout358 8 rfl).trans hf43
                have e382 : f354 13 = (Value.int .i64 ((r_Table).length : Int)) := (hout358 13 rfl).trans hf44
                have e383 : f354 14 = (Value.int .i64 (k31 : Int)) := (hout358 14 rfl).trans hf45
                refine WL.gskip rfl (bool_of e363 hc236) rfl ?_
                refine WL.val (Value.bool true) _ (op_pick_t (evb_of e363 hc236) rfl) rfl ?_
                refine WL.nil ?_
                obtain rfl := Option.some.inj hj235
                exact ⟨e377, e378, e379, e380, e381, e382, e383, rfl, hS362⟩
            · replace hj235 := inegb hj235 hc236
              obtain ⟨x439, hx442, hj235⟩ := bs hj235
              obtain ⟨ha440, hb441, hx442⟩ := idx_some hx442
              obtain ⟨u457, hc458, hr459⟩ := repSl.el r_r_Table hx442
              obtain ⟨x474, hx477, hj235⟩ := bs hj235
              obtain ⟨ha475, hb476, hx477⟩ := idx_some hx477
              obtain ⟨u492, hc493, hr494⟩ := repSl.el hr459 hx477
              obtain ⟨x525, hx528, hj235⟩ := bs hj235
              obtain ⟨ha526, hb527, hx528⟩ := idx_some hx528
              obtain ⟨u543, hc544, hr545⟩ := repSl.el hr494 hx528
              obtain ⟨rfl, hr545⟩ := hr545
              obtain ⟨x588, hx589, hj235⟩ := bs hj235
              refine W.drawR mixo 28 [] [fun _ v _ _ => v = (Value.pointer (some ⟨b1, 0, none⟩)), fun _ v _ _ => v = v_r_Table, fun _ v _ _ => v = (Value.pointer (some (elA v_r_Table ((0 : Int)).toNat))), fun _ v _ _ => v = u91, fun _ v _ _ => v = (Value.int .i64 (k12 : Int)) ∧ InR .i64 (k12 : Int), fun _ v _ _ => v = (Value.pointer (some (elA u91 ((k12 : Int)).toNat))), fun _ v _ _ => v = u130, fun _ v _ _ => v = (Value.int .i64 (k31 : Int)) ∧ InR .i64 (k31 : Int), fun _ v _ _ => v = (Value.pointer (some (elA u130 ((k31 : Int)).toNat))), fun _ v _ _ => v = (Value.int .i64 x155) ∧ InR .i64 x155, fun _ v _ _ => v = (Value.int .i64 (k12 : Int)) ∧ InR .i64 (k12 : Int), fun _ v _ _ => v = (Value.int .i64 (k31 : Int)) ∧ InR .i64 (k31 : Int), fun _ v _ _ => v = (Value.int .i64 x202) ∧ InR .i64 x202, fun _ v _ _ => v = (Value.bool (x155 != x202)), fun _ v _ _ => v = (Value.bool (x155 != x202)), fun _ v _ _ => v = (Value.pointer (some ⟨b1, 0, none⟩)), fun _ v _ _ => v = v_r_Table, fun _ v _ _ => v = (Value.int .i64 (k12 : Int)) ∧ InR .i64 (k12 : Int), fun _ v _ _ => v = (Value.pointer (some (elA v_r_Table ((k12 : Int)).toNat))), fun _ v _ _ => v = u457, fun _ v _ _ => v = (Value.pointer (some (elA u457 ((0 : Int)).toNat))), fun _ v _ _ => v = u492, fun _ v _ _ => v = (Value.int .i64 (k31 : Int)) ∧ InR .i64 (k31 : Int), fun _ v _ _ => v = (Value.pointer (some (elA u492 ((k31 : Int)).toNat))), fun _ v _ _ => v = (Value.int .i64 x525) ∧ InR .i64 x525, fun _ v _ _ => v = (Value.int .i64 (k12 : Int)) ∧ InR .i64 (k12 : Int), fun _ v _ _ => v = (Value.int .i64 (k31 : Int)) ∧ InR .i64 (k31 : Int), fun _ v _ _ => v = (Value.int .i64 x588) ∧ InR .i64 x588] (by kernel_rfl) (by kernel_rfl) ⟨⟨fun _ _ _ _ _ _ h => h, fun _ _ _ _ _ _ h => h⟩, ⟨fun _ _ _ _ _ _ h => h, fun _ _ _ _ _ _ h => h⟩, ⟨fun _ _ _ _ _ _ h => h, fun _ _ _ _ _ _ h => h⟩, ⟨fun _ _ _ _ _ _ h => h, fun _ _ _ _ _ _ h => h⟩, ⟨fun _ _ _ _ _ _ h => h, fun _ _ _ _ _ _ h => h⟩, ⟨fun _ _ _ _ _ _ h => h, fun _ _ _ _ _ _ h => h⟩, ⟨fun _ _ _ _ _ _ h => h, fun _ _ _ _ _ _ h => h⟩, ⟨fun _ _ _ _ _ _ h => h, fun _ _ _ _ _ _ h => h⟩, ⟨fun _ _ _ _ _ _ h => h, fun _ _ _ _ _ _ h => h⟩, ⟨fun _ _ _ _ _ _ h => h, fun _ _ _ _ _ _ h => h⟩, ⟨fun _ _ _ _ _ _ h => h, fun _ _ _ _ _ _ h => h⟩, ⟨fun _ _ _ _ _ _ h => h, fun _ _ _ _ _ _ h => h⟩, ⟨fun _ _ _ _ _ _ h => h, fun _ _ _ _ _ _ h => h⟩, ⟨fun _ _ _ _ _ _ h => h, fun _ _ _ _ _ _ h => h⟩, ⟨fun _ _ _ _ _ _ h => h, fun _ _ _ _ _ _ h => h⟩, ⟨fun _ _ _ _ _ _ h => h, fun _ _ _ _ _ _ h => h⟩, ⟨fun _ _ _ _ _ _ h => h, fun _ _ _ _ _ _ h => h⟩, ⟨fun _ _ _ _ _ _ h => h, fun _ _ _ _ _ _ h => h⟩, ⟨fun _ _ _ _ _ _ h => h, fun _ _ _ _ _ _ h => h⟩, ⟨fun _ _ _ _ _ _ h => h, fun _ _ _ _ _ _ h => h⟩, ⟨fun _ _ _ _ _ _ h => h, fun _ _ _ _ _ _ h => h⟩, ⟨fun _ _ _ _ _ _ h => h, fun _ _ _ _ _ _ h => h⟩, ⟨fun _ _ _ _ _ _ h => h, fun _ _ _ _ _ _ h => h⟩, ⟨fun _ _ _ _ _ _ h => h, fun _ _ _ _ _ _ h => h⟩, ⟨fun _ _ _ _ _ _ h => h, fun _ _ _ _ _ _ h => h⟩, ⟨fun _ _ _ _ _ _ h => h, fun _ _ _ _ _ _ h => h⟩, ⟨fun _ _ _ _ _ _ h => h, fun _ _ _ _ _ _ h => h⟩, ⟨fun _ _ _ _ _ _ h => h, fun _ _ _ _ _ _ h => h⟩, trivial⟩ ⟨?_, ?_, ?_, ?_, ?_, ?_, ?_, ?_, ?_, ?_, ?_, ?_, ?_, ?_, ?_, ?_, ?_, ?_, ?_, ?_, ?_, ?_, ?_, ?_, ?_, ?_, ?_, ?_, trivial⟩ ?_
              · refine ObX.op rfl ?_
                intro f50 wd51 he52 hout53 hphi54
                have hS55 : St wd2 wd51 [] := St.extend hS47 he52
                have e56 : f50 1 = (Value.pointer (some ⟨b1, 0, none⟩)) := (hout53 1 rfl).trans hf40
                exact OpX.val (Value.pointer (some ⟨b1, 0, none⟩)) wd51 rfl (op_fieldAddr fd_29_0 e56) (Ext.refl _) rfl
              · refine ObX.op rfl ?_
                intro f57 wd58 he59 hout60 hphi61
                have hS62 : St wd2 wd58 [] := St.extend hS47 he59
                obtain ⟨S63, hS64, hf65⟩ := hphi61 0 17 _ rfl rfl rfl
                have e66 : f57 17 = (Value.pointer (some ⟨b1, 0, none⟩)) := hf65
                exact OpX.val v_r_Table wd58 rfl (op_load one_22 e66 (BoxAt.cell (BoxAt.lift hS62.ext hx6) rfl)) (Ext.refl _) rfl
              · refine ObX.op rfl ?_
                intro f67 wd68 he69 hout70 hphi71
                have hS72 : St wd2 wd68 [] := St.extend hS47 he69
                obtain ⟨S73, hS74, hf75⟩ := hphi71 1 18 _ rfl rfl rfl
                have e76 : f67 18 = v_r_Table := hf75
                exact OpX.val (Value.pointer (some (elA v_r_Table ((0 : Int)).toNat))) wd68 rfl (op_idx sl_22 (Ty.lift _ (Ext.trans hE7 hS72.ext) r_r_Table) e76 rfl ha78 hb79) (Ext.refl _) rfl
              · refine ObX.op rfl ?_
                intro f81 wd82 he83 hout84 hphi85
                have hS86 : St wd2 wd82 [] := St.extend hS47 he83
                obtain ⟨S87, hS88, hf89⟩ := hphi85 2 19 _ rfl rfl rfl
                have e90 : f81 19 = (Value.pointer (some (elA v_r_Table ((0 : Int)).toNat))) := hf89
                exact OpX.val u91 wd82 rfl (op_load one_40 e90 (Ext.cell (Ext.trans hE7 hS86.ext) hc92)) (Ext.refl _) rfl
              · refine ObX.op rfl ?_
                intro f94 wd95 he96 hout97 hphi98
                have hS99 : St wd2 wd95 [] := St.extend hS47 he96
                have e100 : f94 3 = (Value.int .i64 (k12 : Int)) := (hout97 3 rfl).trans hf41
                exact OpX.val (Value.int .i64 (k12 : Int)) wd95 rfl (op_move e100) (Ext.refl _) ⟨rfl, hr24⟩
              · refine ObX.op rfl ?_
                intro f101 wd102 he103 hout104 hphi105
                have hS106 : St wd2 wd102 [] := St.extend hS47 he103
                obtain ⟨S107, hS108, hf109⟩ := hphi105 3 20 _ rfl rfl rfl
                have e110 : f101 20 = u91 := hf109
                obtain ⟨S111, hS112, hf113⟩ := hphi105 4 21 _ rfl rfl rfl
                obtain ⟨e114, hr115⟩ : f101 21 = (Value.int .i64 (k12 : Int)) ∧ InR .i64 (k12 : Int) := hf113
                exact OpX.val (Value.pointer (some (elA u91 ((k12 : Int)).toNat))) wd102 rfl (op_idx sl_40 (Ty.lift _ (Ext.trans hE7 hS106.ext) hr93) e110 e114 ha117 hb118) (Ext.refl _) rfl
              · refine ObX.op rfl ?_
                intro f120 wd121 he122 hout123 hphi124
                have hS125 : St wd2 wd121 [] := St.extend hS47 he122
                obtain ⟨S126, hS127, hf128⟩ := hphi124 5 22 _ rfl rfl rfl
                have e129 : f120 22 = (Value.pointer (some (elA u91 ((k12 : Int)).toNat))) := hf128
                exact OpX.val u130 wd121 rfl (op_load one_25 e129 (Ext.cell (Ext.trans hE7 hS125.ext) hc131)) (Ext.refl _) rfl
              · refine ObX.op rfl ?_
                intro f133 wd134 he135 hout136 hphi137
                have hS138 : St wd2 wd134 [] := St.extend hS47 he135
                have e139 : f133 4 = (Value.int .i64 (k31 : Int)) := (hout136 4 rfl).trans rfl
                exact OpX.val (Value.int .i64 (k31 : Int)) wd134 rfl (op_move e139) (Ext.refl _) ⟨rfl, hr46⟩
              · refine ObX.op rfl ?_
                intro f140 wd141 he142 hout143 hphi144
                have hS145 : St wd2 wd141 [] := St.extend hS47 he142
                obtain ⟨S146, hS147, hf148⟩ := hphi144 6 23 _ rfl rfl rfl
                have e149 : f140 23 = u130 := hf148
                obtain ⟨S150, hS151, hf152⟩ := hphi144 7 24 _ rfl rfl rfl
                obtain ⟨e153, hr154⟩ : f140 24 = (Value.int .i64 (k31 : Int)) ∧ InR .i64 (k31 : Int) := hf152
                exact OpX.val (Value.pointer (some (elA u130 ((k31 : Int)).toNat))) wd141 rfl (op_idx sl_25 (Ty.lift _ (Ext.trans hE7 hS145.ext) hr132) e149 e153 ha156 hb157) (Ext.refl _) rfl
              · refine ObX.op rfl ?_
                intro f159 wd160 he161 hout162 hphi163
                have hS164 : St wd2 wd160 [] := St.extend hS47 he161
                obtain ⟨S165, hS166, hf167⟩ := hphi163 8 25 _ rfl rfl rfl
                have e168 : f159 25 = (Value.pointer (some (elA u130 ((k31 : Int)).toNat))) := hf167
                exact OpX.val (Value.int .i64 x155) wd160 rfl (op_load one_2 e168 (Ext.cell (Ext.trans hE7 hS164.ext) hc170)) (Ext.refl _) ⟨rfl, hr171⟩
              · refine ObX.op rfl ?_
                intro f172 wd173 he174 hout175 hphi176
                have hS177 : St wd2 wd173 [] := St.extend hS47 he174
                have e178 : f172 3 = (Value.int .i64 (k12 : Int)) := (hout175 3 rfl).trans hf41
                exact OpX.val (Value.int .i64 (k12 : Int)) wd173 rfl (op_move e178) (Ext.refl _) ⟨rfl, hr24⟩
              · refine ObX.op rfl ?_
                intro f179 wd180 he181 hout182 hphi183
                have hS184 : St wd2 wd180 [] := St.extend hS47 he181
                have e185 : f179 4 = (Value.int .i64 (k31 : Int)) := (hout182 4 rfl).trans rfl
                exact OpX.val (Value.int .i64 (k31 : Int)) wd180 rfl (op_move e185) (Ext.refl _) ⟨rfl, hr46⟩
              · refine ObX.op rfl ?_
                intro f186 wd187 he188 hout189 hphi190
                have hS191 : St wd2 wd187 [] := St.extend hS47 he188
                obtain ⟨S192, hS193, hf194⟩ := hphi190 10 27 _ rfl rfl rfl
                obtain ⟨e195, hr196⟩ : f186 27 = (Value.int .i64 (k12 : Int)) ∧ InR .i64 (k12 : Int) := hf194
                obtain ⟨S197, hS198, hf199⟩ := hphi190 11 28 _ rfl rfl rfl
                obtain ⟨e200, hr201⟩ : f186 28 = (Value.int .i64 (k31 : Int)) ∧ InR .i64 (k31 : Int) := hf199
                refine OpX.call rfl (op_call fn_104 (args2 e195 e200)) (Ret.mono (c_impl_delta hr196 hr201 hx203) ?_)
                rintro _ wd205 ⟨rfl, hr204, he206⟩
                exact ⟨he206, _, noS _ _, ⟨rfl, hr204⟩⟩
              · refine ObX.op rfl ?_
                intro f208 wd209 he210 hout211 hphi212
                have hS213 : St wd2 wd209 [] := St.extend hS47 he210
                obtain ⟨S214, hS215, hf216⟩ := hphi212 9 26 _ rfl rfl rfl
                obtain ⟨e217, hr218⟩ : f208 26 = (Value.int .i64 x155) ∧ InR .i64 x155 := hf216
                obtain ⟨S219, hS220, hf221⟩ := hphi212 12 29 _ rfl rfl rfl
                obtain ⟨e222, hr223⟩ : f208 29 = (Value.int .i64 x202) ∧ InR .i64 x202 := hf221
                exact OpX.val (Value.bool (x155 != x202)) wd209 rfl (op_neq e217 e222) (Ext.refl _) rfl
              · refine ObX.op rfl ?_
                intro f224 wd225 he226 hout227 hphi228
                have hS229 : St wd2 wd225 [] := St.extend hS47 he226
                obtain ⟨S230, hS231, hf232⟩ := hphi228 13 30 _ rfl rfl rfl
                have e233 : f224 30 = (Value.bool (x155 != x202)) := hf232
                exact OpX.val (Value.bool (x155 != x202)) wd225 rfl (op_move e233) (Ext.refl _) rfl
              · refine ObX.op rfl ?_
                intro f384 wd385 he386 hout387 hphi388
                have hS389 : St wd2 wd385 [] := St.extend hS47 he386
                have e390 : f384 1 = (Value.pointer (some ⟨b1, 0, none⟩)) := (hout387 1 rfl).trans hf40
                obtain ⟨S391, hS392, hf393⟩ := hphi388 14 31 _ rfl rfl rfl
                have e394 : f384 31 = (Value.bool (x155 != x202)) := hf393
                exact OpX.val (Value.pointer (some ⟨b1, 0, none⟩)) wd385 (wanted_run rfl rfl e394 hc236) (op_fieldAddr fd_29_0 e390) (Ext.refl _) rfl
              · refine ObX.op rfl ?_
                intro f395 wd396 he397 hout398 hphi399
                have hS400 : St wd2 wd396 [] := St.extend hS47 he397
                obtain ⟨S401, hS402, hf403⟩ := hphi399 14 31 _ rfl rfl rfl
                have e404 : f395 31 = (Value.bool (x155 != x202)) := hf403
                obtain ⟨S405, hS406, hf407⟩ := hphi399 15 32 _ rfl rfl rfl
                have e408 : f395 32 = (Value.pointer (some ⟨b1, 0, none⟩)) := hf407
                exact OpX.val v_r_Table wd396 (wanted_run rfl rfl e404 hc236) (op_load one_22 e408 (BoxAt.cell (BoxAt.lift hS400.ext hx6) rfl)) (Ext.refl _) rfl
              · refine ObX.op rfl ?_
                intro f409 wd410 he411 hout412 hphi413
                have hS414 : St wd2 wd410 [] := St.extend hS47 he411
                have e415 : f409 3 = (Value.int .i64 (k12 : Int)) := (hout412 3 rfl).trans hf41
                obtain ⟨S416, hS417, hf418⟩ := hphi413 14 31 _ rfl rfl rfl
                have e419 : f409 31 = (Value.bool (x155 != x202)) := hf418
                exact OpX.val (Value.int .i64 (k12 : Int)) wd410 (wanted_run rfl rfl e419 hc236) (op_move e415) (Ext.refl _) ⟨rfl, hr24⟩
              · refine ObX.op rfl ?_
                intro f420 wd421 he422 hout423 hphi424
                have hS425 : St wd2 wd421 [] := St.extend hS47 he422
                obtain ⟨S426, hS427, hf428⟩ := hphi424 14 31 _ rfl rfl rfl
                have e429 : f420 31 = (Value.bool (x155 != x202)) := hf428
                obtain ⟨S430, hS431, hf432⟩ := hphi424 16 33 _ rfl rfl rfl
                have e433 : f420 33 = v_r_Table := hf432
                obtain ⟨S434, hS435, hf436⟩ := hphi424 17 34 _ rfl rfl rfl
                obtain ⟨e437, hr438⟩ : f420 34 = (Value.int .i64 (k12 : Int)) ∧ InR .i64 (k12 : Int) := hf436
                exact OpX.val (Value.pointer (some (elA v_r_Table ((k12 : Int)).toNat))) wd421 (wanted_run rfl rfl e429 hc236) (op_idx sl_22 (Ty.lift _ (Ext.trans hE7 hS425.ext) r_r_Table) e433 e437 ha440 hb441) (Ext.refl _) rfl
              · refine ObX.op rfl ?_
                intro f443 wd444 he445 hout446 hphi447
                have hS448 : St wd2 wd444 [] := St.extend hS47 he445
                obtain ⟨S449, hS450, hf451⟩ := hphi447 14 31 _ rfl rfl rfl
                have e452 : f443 31 = (Value.bool (x155 != x202)) := hf451
                obtain ⟨S453, hS454, hf455⟩ := hphi447 18 35 _ rfl rfl rfl
                have e456 : f443 35 = (Value.pointer (some (elA v_r_Table ((k12 : Int)).toNat))) := hf455
                exact OpX.val u457 wd444 (wanted_run rfl rfl e452 hc236) (op_load one_40 e456 (Ext.cell (Ext.trans hE7 hS448.ext) hc458)) (Ext.refl _) rfl
              · refine ObX.op rfl ?_
                intro f460 wd461 he462 hout463 hphi464
                have hS465 : St wd2 wd461 [] := St.extend hS47 he462
                obtain ⟨S466, hS467, hf468⟩ := hphi464 14 31 _ rfl rfl rfl
                have e469 : f460 31 = (Value.bool (x155 != x202)) := hf468
                obtain ⟨S470, hS471, hf472⟩ := hphi464 19 36 _ rfl rfl rfl
                have e473 : f460 36 = u457 := hf472
                exact OpX.val (Value.pointer (some (elA u457 ((0 : Int)).toNat))) wd461 (wanted_run rfl rfl e469 hc236) (op_idx sl_40 (Ty.lift _ (Ext.trans hE7 hS465.ext) hr459) e473 rfl ha475 hb476) (Ext.refl _) rfl
              · refine ObX.op rfl ?_
                intro f478 wd479 he480 hout481 hphi482
                have hS483 : St wd2 wd479 [] := St.extend hS47 he480
                obtain ⟨S484, hS485, hf486⟩ := hphi482 14 31 _ rfl rfl rfl
                have e487 : f478 31 = (Value.bool (x155 != x202)) := hf486
                obtain ⟨S488, hS489, hf490⟩ := hphi482 20 37 _ rfl rfl rfl
                have e491 : f478 37 = (Value.pointer (some (elA u457 ((0 : Int)).toNat))) := hf490
                exact OpX.val u492 wd479 (wanted_run rfl rfl e487 hc236) (op_load one_25 e491 (Ext.cell (Ext.trans hE7 hS483.ext) hc493)) (Ext.refl _) rfl
              · refine ObX.op rfl ?_
                intro f495 wd496 he497 hout498 hphi499
                have hS500 : St wd2 wd496 [] := St.extend hS47 he497
                have e501 : f495 4 = (Value.int .i64 (k31 : Int)) := (hout498 4 rfl).trans rfl
                obtain ⟨S502, hS503, hf504⟩ := hphi499 14 31 _ rfl rfl rfl
                have e505 : f495 31 = (Value.bool (x155 != x202)) := hf504
                exact OpX.val (Value.int .i64 (k31 : Int)) wd496 (wanted_run rfl rfl e505 hc236) (op_move e501) (Ext.refl _) ⟨rfl, hr46⟩
              · refine ObX.op rfl ?_
                intro f506 wd507 he508 hout509 hphi510
                have hS511 : St wd2 wd507 [] := St.extend hS47 he508
                obtain ⟨S512, hS513, hf514⟩ := hphi510 14 31 _ rfl rfl rfl
                have e515 : f506 31 = (Value.bool (x155 != x202)) := hf514
                obtain ⟨S516, hS517, hf518⟩ := hphi510 21 38 _ rfl rfl rfl
                have e519 : f506 38 = u492 := hf518
                obtain ⟨S520, hS521, hf522⟩ := hphi510 22 39 _ rfl rfl rfl
                obtain ⟨e523, hr524⟩ : f506 39 = (Value.int .i64 (k31 : Int)) ∧ InR .i64 (k31 : Int) := hf522
                exact OpX.val (Value.pointer (some (elA u492 ((k31 : Int)).toNat))) wd507 (wanted_run rfl rfl e515 hc236) (op_idx sl_25 (Ty.lift _ (Ext.trans hE7 hS511.ext) hr494) e519 e523 ha526 hb527) (Ext.refl _) rfl
              · refine ObX.op rfl ?_
                intro f529 wd530 he531 hout532 hphi533
                have hS534 : St wd2 wd530 [] := St.extend hS47 he531
                obtain ⟨S535, hS536, hf537⟩ := hphi533 14 31 _ rfl rfl rfl
                have e538 : f529 31 = (Value.bool (x155 != x202)) := hf537
                obtain ⟨S539, hS540, hf541⟩ := hphi533 23 40 _ rfl rfl rfl
                have e542 : f529 40 = (Value.pointer (some (elA u492 ((k31 : Int)).toNat))) := hf541
                exact OpX.val (Value.int .i64 x525) wd530 (wanted_run rfl rfl e538 hc236) (op_load one_2 e542 (Ext.cell (Ext.trans hE7 hS534.ext) hc544)) (Ext.refl _) ⟨rfl, hr545⟩
              · refine ObX.op rfl ?_
                intro f546 wd547 he548 hout549 hphi550
                have hS551 : St wd2 wd547 [] := St.extend hS47 he548
                have e552 : f546 3 = (Value.int .i64 (k12 : Int)) := (hout549 3 rfl).trans hf41
                obtain ⟨S553, hS554, hf555⟩ := hphi550 14 31 _ rfl rfl rfl
                have e556 : f546 31 = (Value.bool (x155 != x202)) := hf555
                exact OpX.val (Value.int .i64 (k12 : Int)) wd547 (wanted_run rfl rfl e556 hc236) (op_move e552) (Ext.refl _) ⟨rfl, hr24⟩
              · refine ObX.op rfl ?_
                intro f557 wd558 he559 hout560 hphi561
                have hS562 : St wd2 wd558 [] := St.extend hS47 he559
                have e563 : f557 4 = (Value.int .i64 (k31 : Int)) := (hout560 4 rfl).trans rfl
                obtain ⟨S564, hS565, hf566⟩ := hphi561 14 31 _ rfl rfl rfl
                have e567 : f557 31 = (Value.bool (x155 != x202)) := hf566
                exact OpX.val (Value.int .i64 (k31 : Int)) wd558 (wanted_run rfl rfl e567 hc236) (op_move e563) (Ext.refl _) ⟨rfl, hr46⟩
              · refine ObX.op rfl ?_
                intro f568 wd569 he570 hout571 hphi572
                have hS573 : St wd2 wd569 [] := St.extend hS47 he570
                obtain ⟨S574, hS575, hf576⟩ := hphi572 14 31 _ rfl rfl rfl
                have e577 : f568 31 = (Value.bool (x155 != x202)) := hf576
                obtain ⟨S578, hS579, hf580⟩ := hphi572 25 42 _ rfl rfl rfl
                obtain ⟨e581, hr582⟩ : f568 42 = (Value.int .i64 (k12 : Int)) ∧ InR .i64 (k12 : Int) := hf580
                obtain ⟨S583, hS584, hf585⟩ := hphi572 26 43 _ rfl rfl rfl
                obtain ⟨e586, hr587⟩ : f568 43 = (Value.int .i64 (k31 : Int)) ∧ InR .i64 (k31 : Int) := hf585
                refine OpX.call (wanted_run rfl rfl e577 hc236) (op_call fn_104 (args2 e581 e586)) (Ret.mono (c_impl_delta hr582 hr587 hx589) ?_)
                rintro _ wd591 ⟨rfl, hr590, he592⟩
                exact ⟨he592, _, noS _ _, ⟨rfl, hr590⟩⟩
              · intro f594 wd595 Ss596 he597 hout598 hSn599 hSd600 hphi601
                show WL _ _ _ _ _ _ _
                have hS602 : St wd2 wd595 [] := St.extend hS47 he597
                have e603 : f594 31 = (Value.bool (x155 != x202)) := hphi601 14 31 _ (by decide) rfl rfl
                have e604 : f594 32 = (Value.pointer (some ⟨b1, 0, none⟩)) := hphi601 15 32 _ (by decide) rfl rfl
                have e605 : f594 33 = v_r_Table := hphi601 16 33 _ (by decide) rfl rfl
                obtain ⟨e606, hr607⟩ : f594 34 = (Value.int .i64 (k12 : Int)) ∧ InR .i64 (k12 : Int) := hphi601 17 34 _ (by decide) rfl rfl
                have e608 : f594 35 = (Value.pointer (some (elA v_r_Table ((k12 : Int)).toNat))) := hphi601 18 35 _ (by decide) rfl rfl
                have e609 : f594 36 = u457 := hphi601 19 36 _ (by decide) rfl rfl
                have e610 : f594 37 = (Value.pointer (some (elA u457 ((0 : Int)).toNat))) := hphi601 20 37 _ (by decide) rfl rfl
                have e611 : f594 38 = u492 := hphi601 21 38 _ (by decide) rfl rfl
                obtain ⟨e612, hr613⟩ : f594 39 = (Value.int .i64 (k31 : Int)) ∧ InR .i64 (k31 : Int) := hphi601 22 39 _ (by decide) rfl rfl
                have e614 : f594 40 = (Value.pointer (some (elA u492 ((k31 : Int)).toNat))) := hphi601 23 40 _ (by decide) rfl rfl
                obtain ⟨e615, hr616⟩ : f594 41 = (Value.int .i64 x525) ∧ InR .i64 x525 := hphi601 24 41 _ (by decide) rfl rfl
                obtain ⟨e617, hr618⟩ : f594 42 = (Value.int .i64 (k12 : Int)) ∧ InR .i64 (k12 : Int) := hphi601 25 42 _ (by decide) rfl rfl
                obtain ⟨e619, hr620⟩ : f594 43 = (Value.int .i64 (k31 : Int)) ∧ InR .i64 (k31 : Int) := hphi601 26 43 _ (by decide) rfl rfl
                obtain ⟨e621, hr622⟩ : f594 44 = (Value.int .i64 x588) ∧ InR .i64 x588 := hphi601 27 44 _ (by decide) rfl rfl
                have e623 : f594 1 = (Value.pointer (some ⟨b1, 0, none⟩)) := (hout598 1 rfl).trans hf40
                have e624 : f594 3 = (Value.int .i64 (k12 : Int)) := (hout598 3 rfl).trans hf41
                have e625 : f594 4 = (Value.int .i64 (k31 : Int)) := (hout598 4 rfl).trans rfl
                have e626 : f594 7 = (Value.int .i64 ((r_Table).length : Int)) := (hout598 7 rfl).trans hf42
                have e627 : f594 8 = (Value.int .i64 (k12 : Int)) := (hout598 8 rfl).trans hf43
                have e628 : f594 13 = (Value.int .i64 ((r_Table).length : Int)) := (hout598 13 rfl).trans hf44
                have e629 : f594 14 = (Value.int .i64 (k31 : Int)) := (hout598 14 rfl).trans hf45
                refine WL.grun rfl (bool_of e603 hc236) ?_
                refine WL.val (Value.bool (x525 != x588)) _ (op_neq e615 e621) rfl ?_
                refine WL.val (Value.bool (x525 != x588)) _ (op_pick_f (evb_of e603 hc236) rfl) rfl ?_
                refine WL.nil ?_
                obtain rfl := Option.some.inj hj235
                exact ⟨e623, e624, e625, e626, e627, e628, e629, rfl, hS602⟩
          · intro f630 wd631 hq632
            obtain ⟨hf633, hf634, hf635, hf636, hf637, hf638, hf639, hf640, hS641⟩ := hq632
            show W _ _ _ _ _ _
            refine W.cond x234 hf640 (fun hc642 => ?_) (fun hc642 => ?_)
            · replace hb36 := ip hb36 hc642
              refine W.seq (W.region ?_)
              refine WL.val (Value.int .i64 (k12 : Int)) _ (op_move hf634) rfl ?_
              refine WL.val (Value.int .i64 (k31 : Int)) _ (op_move hf635) rfl ?_
              refine WL.litFlat (t := (Ty.i .i64)) (flat_i .i64) [(Value.int .i64 (0 : Int)), (Value.int .i64 (k12 : Int)), (Value.int .i64 (k31 : Int))] [(0 : Int), (k12 : Int), (k31 : Int)] hS641 sl_25 rfl rfl (fillL rfl ⟨rfl, rfl, rfl, rfl, rfl, rfl, rfl, rfl, rfl, trivial⟩) rfl rfl (litL ⟨⟨rfl, (inR_i64.2 (show (-9223372036854775808 : Int) ≤ 0 ∧ (0 : Int) ≤ 9223372036854775807 from by decide))⟩, ⟨rfl, hr24⟩, ⟨rfl, hr46⟩, trivial⟩) rfl ?_
              intro u644 wd645 hS646 he647
              replace hS646 : St wd2 wd645 [(Ty.sl (Ty.i .i64)).at u644 ([(0 : Int), (k12 : Int), (k31 : Int)] : (List Int))] := hS646
              refine WL.val u644 _ (op_assign rfl) rfl ?_
              refine WL.nil ?_
              show W _ _ _ _ _ _
              refine W.ret ?_
              obtain rfl := Option.some.inj hb36
              obtain rfl := hret39 _ rfl
              replace hb17 := onRes_ret hb17
              obtain rfl := Option.some.inj hb17
              obtain rfl := hret20 _ rfl
              replace h := onRes_ret h
              obtain rfl := Option.some.inj h
              show FinP _ _ _ _ _ _ _
              exact FinP.ret _ (res1 rfl rfl) ⟨u644, rfl, (nil_cons), (Ext.trans hE7 hS646.ext), (St.out (St.pick hS646 [0] rfl) (hE7))⟩
            · replace hb36 := inegb hb36 hc642
              refine W.skip ?_
              show W _ _ _ _ _ _
              refine W.region ?_
              refine WL.val (Value.int .i64 (w64 ((k31 : Int) + (1 : Int)))) _ (op_add hf639 rfl) rfl ?_
              refine WL.val (Value.int .i64 (w64 ((k31 : Int) + (1 : Int)))) _ (op_move rfl) rfl ?_
              refine WL.nil ?_
              obtain rfl := Option.some.inj hb36
              show ∃ s, _ = Ctl.next s ∧ _
              exact ⟨_, rfl, hf633, hf634, hf636, hf637, hf638, (ctr_next hl48 hr28), (ctr_rng hl48 hr28), hS641⟩
        · intro s653 f649 wd650 hs651 hI652
          obtain ⟨⟩ := s653
          replace hI652 : f649 1 = (Value.pointer (some ⟨b1, 0, none⟩)) ∧ f649 3 = (Value.int .i64 (k12 : Int)) ∧ f649 7 = (Value.int .i64 ((r_Table).length : Int)) ∧ f649 8 = (Value.int .i64 (k12 : Int)) ∧ f649 13 = (Value.int .i64 ((r_Table).length : Int)) ∧ f649 14 = Value.int .i64 (((r_Table).length : Nat) : Int) ∧ InR .i64 (((r_Table).length : Nat) : Int) ∧ St wd2 wd650 [] := hI652
          obtain ⟨hf654, hf655, hf656, hf657, hf658, hf659, hr660, hS661⟩ := hI652
          refine W.seq (W.region ?_)
          refine WL.val (Value.bool (decide ((((r_Table).length : Nat) : Int) < ((r_Table).length : Int)))) _ (op_lss hf659 hf658) rfl ?_
          have hl662 : ¬ (((r_Table).length : Nat) : Int) < ((r_Table).length : Int) := by omega
          refine WL.nil ?_
          show W _ _ _ _ _ _
          refine W.seq ?_
          refine W.condF (decide ((((r_Table).length : Nat) : Int) < ((r_Table).length : Int))) rfl (decide_eq_false hl662) ?_
          refine W.exit ?_
          show _ = _ ∧ _
          exact ⟨rfl, _, hs651, hf654, hf656, hf657, hS661⟩
      · rintro f663 wd664 ⟨s666, rfl, hq665⟩
        replace hb17 := onRes_fin hb17
        obtain ⟨⟩ := s666
        replace hq665 : f663 1 = (Value.pointer (some ⟨b1, 0, none⟩)) ∧ f663 7 = (Value.int .i64 ((r_Table).length : Int)) ∧ f663 8 = (Value.int .i64 (k12 : Int)) ∧ St wd2 wd664 [] := hq665
        obtain ⟨hf667, hf668, hf669, hS670⟩ := hq665
        show W _ _ _ _ _ _
        refine W.region ?_
        refine WL.val (Value.int .i64 (w64 ((k12 : Int) + (1 : Int)))) _ (op_add hf669 rfl) rfl ?_
        refine WL.val (Value.int .i64 (w64 ((k12 : Int) + (1 : Int)))) _ (op_move rfl) rfl ?_
        refine WL.nil ?_
        obtain rfl := Option.some.inj hb17
        show ∃ s, _ = Ctl.next s ∧ _
        exact ⟨_, rfl, hf667, hf668, (ctr_next hl26 hr9), (ctr_rng hl26 hr9), hS670⟩
    · intro s677 f673 wd674 hs675 hI676
      obtain ⟨⟩ := s677
      replace hI676 : f673 1 = (Value.pointer (some ⟨b1, 0, none⟩)) ∧ f673 7 = (Value.int .i64 ((r_Table).length : Int)) ∧ f673 8 = Value.int .i64 (((r_Table).length : Nat) : Int) ∧ InR .i64 (((r_Table).length : Nat) : Int) ∧ St wd2 wd674 [] := hI676
      obtain ⟨hf678, hf679, hf680, hr681, hS682⟩ := hI676
      refine W.seq (W.region ?_)
      refine WL.val (Value.bool (decide ((((r_Table).length : Nat) : Int) < ((r_Table).length : Int)))) _ (op_lss hf680 hf679) rfl ?_
      have hl683 : ¬ (((r_Table).length : Nat) : Int) < ((r_Table).length : Int) := by omega
      refine WL.nil ?_
      show W _ _ _ _ _ _
      refine W.seq ?_
      refine W.condF (decide ((((r_Table).length : Nat) : Int) < ((r_Table).length : Int))) rfl (decide_eq_false hl683) ?_
      refine W.exit ?_
      show _ = _ ∧ _
      exact ⟨rfl, _, hs675, hS682⟩
  · rintro f684 wd685 ⟨s687, rfl, hq686⟩
    replace h := onRes_fin h
    obtain ⟨⟩ := s687
    replace hq686 : St wd2 wd685 [] := hq686
    have hS688 := hq686
    show W _ _ _ _ _ _
    refine W.seq (W.region ?_)
    refine WL.val (Value.slice none 0 0) _ (op_assign rfl) rfl ?_
    refine WL.nil ?_
    show W _ _ _ _ _ _
    refine W.ret ?_
    obtain rfl := Option.some.inj h
    show FinP _ _ _ _ _ _ _
    exact FinP.ret _ (res1 rfl rfl) ⟨(Value.slice none 0 0), rfl, (fun _ => ⟨0, 0, rfl⟩), (Ext.trans hE7 hS688.ext), (St.out (St.pick (St.addNil (Ty.i .i64) hS688) [0] rfl) (hE7))⟩

theorem c_impl_Ring_onlyOf {w : World} {r_Table : (List (List (List Int)))} {v_r_Table : Value} {i : Int} (r_r_Table : (Ty.sl (Ty.sl (Ty.sl (Ty.i .i64)))).rep w v_r_Table r_Table) (r_i : InR .i64 i) {res : Int} (h : p_impl_Ring_onlyOf r_Table i  = some res) :
    Ret Try.prog 80 #[(Value.agg #[v_r_Table]), (Value.int .i64 i)] w (fun v w' => v = Value.int .i64 res ∧ InR .i64 res ∧ Ext w w') := by
  unfold p_impl_Ring_onlyOf at h
  have hS0 : St w w [] := St.start w
  refine Ret.start (fn := Try.f80) Try.func80 rfl 34 rfl rfl ?_
  refine W.seq (W.region ?_)
  refine WL.box hS0 rfl (cs := [v_r_Table]) rfl rfl ?_
  intro b1 wd2 hS3 he4 hx5
  replace hS3 : St w wd2 [bx b1 [v_r_Table]] := hS3
  have hx6 := St.boxAt hS3 0 rfl
  have hE7 : Ext w wd2 := hS3.ext
  have hS8 : St wd2 wd2 [] := St.start wd2
  refine WL.val (Value.int .i64 (0 : Int)) _ (op_assign rfl) rfl ?_
  refine WL.nil ?_
  show W _ _ _ _ _ _
  refine W.seq (W.region ?_)
  refine WL.val (Value.int .i64 (-1 : Int)) _ (op_assign rfl) rfl ?_
  refine WL.nil ?_
  show W _ _ _ _ _ _
  refine W.seq (W.seq (W.region ?_))
  refine WL.val (Value.pointer (some ⟨b1, 0, none⟩)) _ (op_fieldAddr fd_29_0 rfl) rfl ?_
  refine WL.val v_r_Table _ (op_load one_22 rfl (BoxAt.cell (BoxAt.lift hS8.ext hx6) rfl)) rfl ?_
  refine WL.val (Value.int .i64 i) _ (op_move rfl) rfl ?_
  obtain ⟨x9, hx12, h⟩ := bs h
  obtain ⟨ha10, hb11, hx12⟩ := idx_some hx12
  refine WL.val (Value.pointer (some (elA v_r_Table (i).toNat))) _ (op_idx sl_22 (Ty.lift _ (Ext.trans hE7 hS8.ext) r_r_Table) rfl rfl ha10 hb11) rfl ?_
  obtain ⟨u13, hc14, hr15⟩ := repSl.el r_r_Table hx12
  refine WL.val u13 _ (op_load one_40 rfl (Ext.cell (Ext.trans hE7 hS8.ext) hc14)) rfl ?_
  have hr16 := inR_len (Ty.lift _ (Ext.trans hE7 hS8.ext) hr15)
  refine WL.val (Value.int .i64 ((x9).length : Int)) _ (op_lenL sl_40 (Ty.lift _ (Ext.trans hE7 hS8.ext) hr15) rfl) rfl ?_
  refine WL.val (Value.int .i64 (0 : Int)) _ (op_move rfl) rfl ?_
  refine WL.nil ?_
  show W _ _ _ _ _ _
  obtain ⟨res17, hres18, h⟩ := bs h
  refine W.blockLoop (fun fq wq => ∃ s, res17 = Res.fin s ∧ fq 5 = Value.int .i64 s ∧ InR .i64 s ∧ St wd2 wq []) ?_ ?_
  · refine W.forN (fun k (s : Int) fq wq => fq 5 = Value.int .i64 s ∧ InR .i64 s ∧ fq 12 = u13 ∧ fq 13 = (Value.int .i64 ((x9).length : Int)) ∧ fq 14 = Value.int .i64 (k : Int) ∧ InR .i64 (k : Int) ∧ St wd2 wq []) hres18 ⟨rfl, (inR_i64.2 (show (-9223372036854775808 : Int) ≤ -1 ∧ (-1 : Int) ≤ 9223372036854775807 from by decide)), rfl, rfl, rfl, (inR_i64.2 (show (-9223372036854775808 : Int) ≤ 0 ∧ (0 : Int) ≤ 9223372036854775807 from by decide)), hS8⟩ ?_ ?_
    · intro k19 x20 ct21 f22 wd23 hk24 hb25 hI26 hbrk27 hret28
      replace hI26 : f22 5 = Value.int .i64 x20 ∧ InR .i64 x20 ∧ f22 12 = u13 ∧ f22 13 = (Value.int .i64 ((x9).length : Int)) ∧ f22 14 = Value.int .i64 (k19 : Int) ∧ InR .i64 (k19 : Int) ∧ St wd2 wd23 [] := hI26
      replace hb25 : p_impl_Ring_onlyOf_L1 x9 k19 x20 = some ct21 := hb25
      unfold p_impl_Ring_onlyOf_L1 at hb25
      obtain ⟨hf29, hr30, hf31, hf32, hf33, hr34, hS35⟩ := hI26
      refine W.seq (W.region ?_)
      refine WL.val (Value.bool (decide ((k19 : Int) < ((x9).length : Int)))) _ (op_lss hf33 hf32) rfl ?_
      have hl36 : (k19 : Int) < ((x9).length : Int) := by omega
      refine WL.nil ?_
      show W _ _ _ _ _ _
      refine W.seq ?_
      refine W.condT (decide ((k19 : Int) < ((x9).length : Int))) rfl (decide_eq_true hl36) ?_
      refine W.skip ?_
      show W _ _ _ _ _ _
      refine W.seq ?_
      refine W.block ?_
      refine W.seq (W.region ?_)
      refine WL.val (Value.int .i64 (k19 : Int)) _ (op_move hf33) rfl ?_
      obtain ⟨x38, hx41, hb25⟩ := bs hb25
      obtain ⟨ha39, hb40, hx41⟩ := idx_some hx41
      refine WL.val (Value.pointer (some (elA u13 ((k19 : Int)).toNat))) _ (op_idx sl_40 (Ty.lift _ (Ext.trans hE7 hS35.ext) hr15) hf31 hf33 ha39 hb40) rfl ?_
      obtain ⟨u42, hc43, hr44⟩ := repSl.el hr15 hx41
      refine WL.val u42 _ (op_load one_25 rfl (Ext.cell (Ext.trans hE7 hS35.ext) hc43)) rfl ?_
      refine WL.val (Value.int .i64 (k19 : Int)) _ (op_assign rfl) rfl ?_
      refine WL.val u42 _ (op_assign rfl) rfl ?_
      refine WL.nil ?_
      show W _ _ _ _ _ _
      refine W.seq (W.seq (W.region ?_))
      refine WL.val u42 _ (op_move rfl) rfl ?_
      obtain ⟨x45, hx48, hb25⟩ := bs hb25
      obtain ⟨ha46, hb47, hx48⟩ := idx_some hx48
      refine WL.val (Value.pointer (some (elA u42 ((0 : Int)).toNat))) _ (op_idx sl_25 (Ty.lift _ (Ext.trans hE7 hS35.ext) hr44) rfl rfl ha46 hb47) rfl ?_
      obtain ⟨u49, hc50, hr51⟩ := repSl.el hr44 hx48
      obtain ⟨rfl, hr51⟩ := hr51
      refine WL.val (Value.int .i64 x45) _ (op_load one_2 rfl (Ext.cell (Ext.trans hE7 hS35.ext) hc50)) rfl ?_
      refine WL.val (Value.bool (x45 == (0 : Int))) _ (op_eql rfl rfl) rfl ?_
      refine WL.nil ?_
      show W _ _ _ _ _ _
      refine W.cond (x45 == (0 : Int)) rfl (fun hc52 => ?_) (fun hc52 => ?_)
      · replace hb25 := ip hb25 hc52
        refine W.exit ?_
        show W _ _ _ _ _ _
        refine W.region ?_
        refine WL.val (Value.int .i64 (w64 ((k19 : Int) + (1 : Int)))) _ (op_add hf33 rfl) rfl ?_
        refine WL.val (Value.int .i64 (w64 ((k19 : Int) + (1 : Int)))) _ (op_move rfl) rfl ?_
        refine WL.nil ?_
        obtain rfl := Option.some.inj hb25
        show ∃ s, _ = Ctl.next s ∧ _
        exact ⟨_, rfl, hf29, hr30, hf31, hf32, (ctr_next hl36 hr16), (ctr_rng hl36 hr16), hS35⟩
      · replace hb25 := inegb hb25 hc52
        refine W.skip ?_
        show W _ _ _ _ _ _
        refine W.seq (W.seq (W.region ?_))
        refine WL.val (Value.int .i64 x20) _ (op_move hf29) rfl ?_
        refine WL.val (Value.bool (decide (x20 ≥ (0 : Int)))) _ (op_geq rfl rfl) rfl ?_
        refine WL.val (Value.bool (decide (x20 ≥ (0 : Int)))) _ (op_move rfl) rfl ?_
        refine WL.cut 5 (fun fq wq => fq 6 = (Value.int .i64 (k19 : Int)) ∧ fq 12 = u13 ∧ fq 13 = (Value.int .i64 ((x9).length : Int)) ∧ fq 14 = (Value.int .i64 (k19 : Int)) ∧ fq 30 = (Value.bool ((decide (x20 ≥ (0 : Int))) || (x45 != (1 : Int)))) ∧ St wd2 wq []) ?_ ?_
        · rcases Bool.eq_false_or_eq_true (decide (x20 ≥ (0 : Int))) with hc54 | hc54
          · refine WL.gskip rfl (bool_of rfl hc54) rfl ?_
            refine WL.gskip rfl (bool_of rfl hc54) rfl ?_
            refine WL.gskip rfl (bool_of rfl hc54) rfl ?_
            refine WL.gskip rfl (bool_of rfl hc54) rfl ?_
            refine WL.val (Value.bool true) _ (op_pick_t (evb_of rfl hc54) rfl) rfl ?_
            refine WL.nil ?_
            exact ⟨rfl, rfl, hf31, hf32, hf33, (orT hc54), hS35⟩
          · refine WL.grun rfl (bool_of rfl hc54) ?_
            refine WL.val u42 _ (op_move rfl) rfl ?_
            refine WL.grun rfl (bool_of rfl hc54) ?_
            refine WL.val (Value.pointer (some (elA u42 ((0 : Int)).toNat))) _ (op_idx sl_25 (Ty.lift _ (Ext.trans hE7 hS35.ext) hr44) rfl rfl ha46 hb47) rfl ?_
            refine WL.grun rfl (bool_of rfl hc54) ?_
            obtain ⟨u58, hc59, hr60⟩ := repSl.el hr44 hx48
            obtain ⟨rfl, hr60⟩ := hr60
            refine WL.val (Value.int .i64 x45) _ (op_load one_2 rfl (Ext.cell (Ext.trans hE7 hS35.ext) hc59)) rfl ?_
            refine WL.grun rfl (bool_of rfl hc54) ?_
            refine WL.val (Value.bool (x45 != (1 : Int))) _ (op_neq rfl rfl) rfl ?_
            refine WL.val (Value.bool (x45 != (1 : Int))) _ (op_pick_f (evb_of rfl hc54) rfl) rfl ?_
            refine WL.nil ?_
            exact ⟨rfl, rfl, hf31, hf32, hf33, (orF hc54), hS35⟩
        · intro f55 wd56 hq57
          obtain ⟨hf61, hf62, hf63, hf64, hf65, hS66⟩ := hq57
          refine WL.nil ?_
          show W _ _ _ _ _ _
          refine W.cond ((decide (x20 ≥ (0 : Int))) || (x45 != (1 : Int))) hf65 (fun hc67 => ?_) (fun hc67 => ?_)
          · replace hb25 := ip hb25 hc67
            refine W.seq (W.region ?_)
            refine WL.val (Value.int .i64 (-1 : Int)) _ (op_assign rfl) rfl ?_
            refine WL.nil ?_
            show W _ _ _ _ _ _
            refine W.ret ?_
            obtain rfl := Option.some.inj hb25
            obtain rfl := hret28 _ rfl
            replace h := onRes_ret h
            obtain rfl := Option.some.inj h
            show FinP _ _ _ _ _ _ _
            exact FinP.ret _ (res1 rfl rfl) ⟨rfl, (inR_i64.2 (show (-9223372036854775808 : Int) ≤ -1 ∧ (-1 : Int) ≤ 9223372036854775807 from by decide)), (Ext.trans hE7 hS66.ext)⟩
          · replace hb25 := inegb hb25 hc67
            refine W.skip ?_
            show W _ _ _ _ _ _
            refine W.region ?_
            refine WL.val (Value.int .i64 (k19 : Int)) _ (op_move hf61) rfl ?_
            refine WL.val (Value.int .i64 (k19 : Int)) _ (op_assign rfl) rfl ?_
            refine WL.nil ?_
            show W _ _ _ _ _ _
            refine W.region ?_
            refine WL.val (Value.int .i64 (w64 ((k19 : Int) + (1 : Int)))) _ (op_add hf64 rfl) rfl ?_
            refine WL.val (Value.int .i64 (w64 ((k19 : Int) + (1 : Int)))) _ (op_move rfl) rfl ?_
            refine WL.nil ?_
            obtain rfl := Option.some.inj hb25
            show ∃ s, _ = Ctl.next s ∧ _
            exact ⟨_, rfl, rfl, hr34, hf62, hf63, (ctr_next hl36 hr16), (ctr_rng hl36 hr16), hS66⟩
    · intro x75 f70 wd71 hs72 hI73
      replace hI73 : f70 5 = Value.int .i64 x75 ∧ InR .i64 x75 ∧ f70 12 = u13 ∧ f70 13 = (Value.int .i64 ((x9).length : Int)) ∧ f70 14 = Value.int .i64 (((x9).length : Nat) : Int) ∧ InR .i64 (((x9).length : Nat) : Int) ∧ St wd2 wd71 [] := hI73
      obtain ⟨hf76, hr77, hf78, hf79, hf80, hr81, hS82⟩ := hI73
      refine W.seq (W.region ?_)
      refine WL.val (Value.bool (decide ((((x9).length : Nat) : Int) < ((x9).length : Int)))) _ (op_lss hf80 hf79) rfl ?_
      have hl83 : ¬ (((x9).length : Nat) : Int) < ((x9).length : Int) := by omega
      refine WL.nil ?_
      show W _ _ _ _ _ _
      refine W.seq ?_
      refine W.condF (decide ((((x9).length : Nat) : Int) < ((x9).length : Int))) rfl (decide_eq_false hl83) ?_
      refine W.exit ?_
      show _ = _ ∧ _
      exact ⟨rfl, _, hs72, hf76, hr77, hS82⟩
  · rintro f84 wd85 ⟨x88, rfl, hq86⟩
    replace h := onRes_fin h
    replace hq86 : f84 5 = Value.int .i64 x88 ∧ InR .i64 x88 ∧ St wd2 wd85 [] := hq86
    obtain ⟨hf89, hr90, hS91⟩ := hq86
    show W _ _ _ _ _ _
    refine W.seq (W.region ?_)
    refine WL.val (Value.int .i64 x88) _ (op_move hf89) rfl ?_
    refine WL.val (Value.int .i64 x88) _ (op_assign rfl) rfl ?_
    refine WL.nil ?_
    show W _ _ _ _ _ _
    refine W.ret ?_
    obtain rfl := Option.some.inj h
    show FinP _ _ _ _ _ _ _
    exact FinP.ret _ (res1 rfl rfl) ⟨rfl, hr90, (Ext.trans hE7 hS91.ext)⟩

theorem c_impl_Ring_dualFault {w : World} {r_Table : (List (List (List Int)))} {v_r_Table : Value} (r_r_Table : (Ty.sl (Ty.sl (Ty.sl (Ty.i .i64)))).rep w v_r_Table r_Table) {res : Int} (h : p_impl_Ring_dualFault r_Table  = some res) :
    Ret Try.prog 91 #[(Value.agg #[v_r_Table])] w (fun v w' => v = Value.int .i64 res ∧ InR .i64 res ∧ Ext w w') := by
  unfold p_impl_Ring_dualFault at h
  have hS0 : St w w [] := St.start w
  refine Ret.start (fn := Try.f91) Try.func91 rfl 25 rfl rfl ?_
  refine W.seq (W.region ?_)
  refine WL.box hS0 rfl (cs := [v_r_Table]) rfl rfl ?_
  intro b1 wd2 hS3 he4 hx5
  replace hS3 : St w wd2 [bx b1 [v_r_Table]] := hS3
  have hx6 := St.boxAt hS3 0 rfl
  have hE7 : Ext w wd2 := hS3.ext
  have hS8 : St wd2 wd2 [] := St.start wd2
  refine WL.val (Value.int .i64 (0 : Int)) _ (op_assign rfl) rfl ?_
  refine WL.nil ?_
  show W _ _ _ _ _ _
  refine W.seq (W.seq (W.region ?_))
  refine WL.val (Value.pointer (some ⟨b1, 0, none⟩)) _ (op_fieldAddr fd_29_0 rfl) rfl ?_
  refine WL.val v_r_Table _ (op_load one_22 rfl (BoxAt.cell (BoxAt.lift hS8.ext hx6) rfl)) rfl ?_
  have hr9 := inR_len (Ty.lift _ (Ext.trans hE7 hS8.ext) r_r_Table)
  refine WL.val (Value.int .i64 ((r_Table).length : Int)) _ (op_lenL sl_22 (Ty.lift _ (Ext.trans hE7 hS8.ext) r_r_Table) rfl) rfl ?_
  refine WL.val (Value.int .i64 (0 : Int)) _ (op_move rfl) rfl ?_
  refine WL.nil ?_
  show W _ _ _ _ _ _
  obtain ⟨res10, hres11, h⟩ := bs h
  refine W.blockLoop (fun fq wq => ∃ s, res10 = Res.fin s ∧ St wd2 wq []) ?_ ?_
  · refine W.forN (fun k (s : Unit) fq wq => fq 1 = (Value.pointer (some ⟨b1, 0, none⟩)) ∧ fq 7 = (Value.int .i64 ((r_Table).length : Int)) ∧ fq 8 = Value.int .i64 (k : Int) ∧ InR .i64 (k : Int) ∧ St wd2 wq []) hres11 ⟨rfl, rfl, rfl, (inR_i64.2 (show (-9223372036854775808 : Int) ≤ 0 ∧ (0 : Int) ≤ 9223372036854775807 from by decide)), hS8⟩ ?_ ?_
    · intro k12 s56 ct13 f14 wd15 hk16 hb17 hI18 hbrk19 hret20
      obtain ⟨⟩ := s56
      replace hI18 : f14 1 = (Value.pointer (some ⟨b1, 0, none⟩)) ∧ f14 7 = (Value.int .i64 ((r_Table).length : Int)) ∧ f14 8 = Value.int .i64 (k12 : Int) ∧ InR .i64 (k12 : Int) ∧ St wd2 wd15 [] := hI18
      replace hb17 : p_impl_Ring_dualFault_L1 r_Table k12  = some ct13 := hb17
      unfold p_impl_Ring_dualFault_L1 at hb17
      obtain ⟨hf21, hf22, hf23, hr24, hS25⟩ := hI18
      refine W.seq (W.region ?_)
      refine WL.val (Value.bool (decide ((k12 : Int) < ((r_Table).length : Int)))) _ (op_lss hf23 hf22) rfl ?_
      have hl26 : (k12 : Int) < ((r_Table).length : Int) := by omega
      refine WL.nil ?_
      show W _ _ _ _ _ _
      refine W.seq ?_
      refine W.condT (decide ((k12 : Int) < ((r_Table).length : Int))) rfl (decide_eq_true hl26) ?_
      refine W.skip ?_
      show W _ _ _ _ _ _
      refine W.seq ?_
      refine W.block ?_
      refine W.seq (W.region ?_)
      refine WL.val (Value.int .i64 (k12 : Int)) _ (op_move hf23) rfl ?_
      refine WL.val (Value.int .i64 (k12 : Int)) _ (op_assign rfl) rfl ?_
      refine WL.nil ?_
      show W _ _ _ _ _ _
      refine W.seq (W.region ?_)
      refine WL.val (Value.agg #[v_r_Table]) _ (op_loadBox st_29 hf21 (BoxAt.lift hS25.ext hx6) rfl rfl) rfl ?_
      refine WL.val (Value.int .i64 (k12 : Int)) _ (op_move rfl) rfl ?_
      obtain ⟨x28, hx29, hb17⟩ := bs hb17
      refine WL.call _ (op_call fn_80 (args2 rfl rfl)) (c_impl_Ring_onlyOf (Ty.lift _ (Ext.trans hE7 hS25.ext) r_r_Table) hr24 hx29) rfl ?_
      rintro _ wd31 ⟨rfl, hr30, he32⟩
      have hS34 := St.extend hS25 he32
      replace hS34 : St wd2 wd31 [] := hS34
      refine WL.val (Value.int .i64 x28) _ (op_assign rfl) rfl ?_
      refine WL.nil ?_
      show W _ _ _ _ _ _
      refine W.seq (W.region ?_)
      refine WL.val (Value.int .i64 x28) _ (op_move rfl) rfl ?_
      refine WL.val (Value.bool (decide (x28 < (0 : Int)))) _ (op_lss rfl rfl) rfl ?_
      refine WL.val (Value.bool (decide (x28 < (0 : Int)))) _ (op_move rfl) rfl ?_
      obtain ⟨x36, hj37, hb17⟩ := bs hb17
      refine WL.cut 6 (fun fq wq => fq 1 = (Value.pointer (some ⟨b1, 0, none⟩)) ∧ fq 3 = (Value.int .i64 (k12 : Int)) ∧ fq 7 = (Value.int .i64 ((r_Table).length : Int)) ∧ fq 8 = (Value.int .i64 (k12 : Int)) ∧ fq 22 = Value.bool x36 ∧ St wd2 wq []) ?_ ?_
      · rcases Bool.eq_false_or_eq_true (decide (x28 < (0 : Int))) with hc35 | hc35
        · replace hj37 := ip hj37 hc35
          refine WL.gskip rfl (bool_of rfl hc35) rfl ?_
          refine WL.gskip rfl (bool_of rfl hc35) rfl ?_
          refine WL.gskip rfl (bool_of rfl hc35) rfl ?_
          refine WL.gskip rfl (bool_of rfl hc35) rfl ?_
          refine WL.gskip rfl (bool_of rfl hc35) rfl ?_
          refine WL.val (Value.bool true) _ (op_pick_t (evb_of rfl hc35) rfl) rfl ?_
          refine WL.nil ?_
          obtain rfl := Option.some.inj hj37
          exact ⟨rfl, hf21, rfl, hf22, hf23, rfl, hS34⟩
        · replace hj37 := inegb hj37 hc35
          refine WL.grun rfl (bool_of rfl hc35) ?_
          refine WL.val (Value.agg #[v_r_Table]) _ (op_loadBox st_29 hf21 (BoxAt.lift hS34.ext hx6) rfl rfl) rfl ?_
          refine WL.grun rfl (bool_of rfl hc35) ?_
          refine WL.val (Value.int .i64 x28) _ (op_move rfl) rfl ?_
          refine WL.grun rfl (bool_of rfl hc35) ?_
          obtain ⟨x41, hx42, hj37⟩ := bs hj37
          refine WL.call _ (op_call fn_80 (args2 rfl rfl)) (c_impl_Ring_onlyOf (Ty.lift _ (Ext.trans hE7 hS34.ext) r_r_Table) hr30 hx42) rfl ?_
          rintro _ wd44 ⟨rfl, hr43, he45⟩
          have hS47 := St.extend hS34 he45
          replace hS47 : St wd2 wd44 [] := hS47
          refine WL.grun rfl (bool_of rfl hc35) ?_
          refine WL.val (Value.int .i64 (k12 : Int)) _ (op_move rfl) rfl ?_
          refine WL.grun rfl (bool_of rfl hc35) ?_
          refine WL.val (Value.bool (x41 != (k12 : Int))) _ (op_neq rfl rfl) rfl ?_
          refine WL.val (Value.bool (x41 != (k12 : Int))) _ (op_pick_f (evb_of rfl hc35) rfl) rfl ?_
          refine WL.nil ?_
          obtain rfl := Option.some.inj hj37
          exact ⟨rfl, hf21, rfl, hf22, hf23, rfl, hS47⟩
      · intro f38 wd39 hq40
        obtain ⟨hf48, hf49, hf50, hf51, hf52, hS53⟩ := hq40
        refine WL.nil ?_
        show W _ _ _ _ _ _
        refine W.cond x36 hf52 (fun hc54 => ?_) (fun hc54 => ?_)
        · replace hb17 := ip hb17 hc54
          refine W.seq (W.region ?_)
          refine WL.val (Value.int .i64 (k12 : Int)) _ (op_move hf49) rfl ?_
          refine WL.val (Value.int .i64 (k12 : Int)) _ (op_assign rfl) rfl ?_
          refine WL.nil ?_
          show W _ _ _ _ _ _
          refine W.ret ?_
          obtain rfl := Option.some.inj hb17
          obtain rfl := hret20 _ rfl
          replace h := onRes_ret h
          obtain rfl := Option.some.inj h
          show FinP _ _ _ _ _ _ _
          exact FinP.ret _ (res1 rfl rfl) ⟨rfl, hr24, (Ext.trans hE7 hS53.ext)⟩
        · replace hb17 := inegb hb17 hc54
          refine W.skip ?_
          show W _ _ _ _ _ _
          refine W.region ?_
          refine WL.val (Value.int .i64 (w64 ((k12 : Int) + (1 : Int)))) _ (op_add hf51 rfl) rfl ?_
          refine WL.val (Value.int .i64 (w64 ((k12 : Int) + (1 : Int)))) _ (op_move rfl) rfl ?_
          refine WL.nil ?_
          obtain rfl := Option.some.inj hb17
          show ∃ s, _ = Ctl.next s ∧ _
          exact ⟨_, rfl, hf48, hf50, (ctr_next hl26 hr9), (ctr_rng hl26 hr9), hS53⟩
    · intro s61 f57 wd58 hs59 hI60
      obtain ⟨⟩ := s61
      replace hI60 : f57 1 = (Value.pointer (some ⟨b1, 0, none⟩)) ∧ f57 7 = (Value.int .i64 ((r_Table).length : Int)) ∧ f57 8 = Value.int .i64 (((r_Table).length : Nat) : Int) ∧ InR .i64 (((r_Table).length : Nat) : Int) ∧ St wd2 wd58 [] := hI60
      obtain ⟨hf62, hf63, hf64, hr65, hS66⟩ := hI60
      refine W.seq (W.region ?_)
      refine WL.val (Value.bool (decide ((((r_Table).length : Nat) : Int) < ((r_Table).length : Int)))) _ (op_lss hf64 hf63) rfl ?_
      have hl67 : ¬ (((r_Table).length : Nat) : Int) < ((r_Table).length : Int) := by omega
      refine WL.nil ?_
      show W _ _ _ _ _ _
      refine W.seq ?_
      refine W.condF (decide ((((r_Table).length : Nat) : Int) < ((r_Table).length : Int))) rfl (decide_eq_false hl67) ?_
      refine W.exit ?_
      show _ = _ ∧ _
      exact ⟨rfl, _, hs59, hS66⟩
  · rintro f68 wd69 ⟨s71, rfl, hq70⟩
    replace h := onRes_fin h
    obtain ⟨⟩ := s71
    replace hq70 : St wd2 wd69 [] := hq70
    have hS72 := hq70
    show W _ _ _ _ _ _
    refine W.seq (W.region ?_)
    refine WL.val (Value.int .i64 (-1 : Int)) _ (op_assign rfl) rfl ?_
    refine WL.nil ?_
    show W _ _ _ _ _ _
    refine W.ret ?_
    obtain rfl := Option.some.inj h
    show FinP _ _ _ _ _ _ _
    exact FinP.ret _ (res1 rfl rfl) ⟨rfl, (inR_i64.2 (show (-9223372036854775808 : Int) ≤ -1 ∧ (-1 : Int) ≤ 9223372036854775807 from by decide)), (Ext.trans hE7 hS72.ext)⟩

theorem c_impl_Ring_duals {w : World} {r_Table : (List (List (List Int)))} {v_r_Table : Value} (r_r_Table : (Ty.sl (Ty.sl (Ty.sl (Ty.i .i64)))).rep w v_r_Table r_Table) {res : (List Int)} (h : p_impl_Ring_duals r_Table  = some res) :
    Ret Try.prog 53 #[(Value.agg #[v_r_Table])] w (fun v w' => ∃ (u0 : Value), v = u0 ∧ Ext w w' ∧ Sep w.heap.size w' [(Ty.sl (Ty.i .i64)).at u0 res]) := by
  unfold p_impl_Ring_duals at h
  have hS0 : St w w [] := St.start w
  refine Ret.start (fn := Try.f53) Try.func53 rfl 20 rfl rfl ?_
  refine W.seq (W.region ?_)
  refine WL.box hS0 rfl (cs := [v_r_Table]) rfl rfl ?_
  intro b1 wd2 hS3 he4 hx5
  replace hS3 : St w wd2 [bx b1 [v_r_Table]] := hS3
  have hx6 := St.boxAt hS3 0 rfl
  have hE7 : Ext w wd2 := hS3.ext
  have hS8 : St wd2 wd2 [] := St.start wd2
  refine WL.val (Value.slice none 0 0) _ (op_assign rfl) rfl ?_
  refine WL.nil ?_
  show W _ _ _ _ _ _
  refine W.seq (W.region ?_)
  refine WL.lit0 (t := (Ty.i .i64)) hS8 sl_67 rfl rfl ?_
  intro u9 wd10 hS11 he12
  replace hS11 : St wd2 wd10 [(Ty.sl (Ty.i .i64)).at u9 ([] : (List Int))] := hS11
  refine WL.val u9 _ (op_assign rfl) rfl ?_
  refine WL.nil ?_
  show W _ _ _ _ _ _
  refine W.seq (W.seq (W.region ?_))
  refine WL.val (Value.pointer (some ⟨b1, 0, none⟩)) _ (op_fieldAddr fd_29_0 rfl) rfl ?_
  refine WL.val v_r_Table _ (op_load one_22 rfl (BoxAt.cell (BoxAt.lift hS11.ext hx6) rfl)) rfl ?_
  have hr13 := inR_len (Ty.lift _ (Ext.trans hE7 hS11.ext) r_r_Table)
  refine WL.val (Value.int .i64 ((r_Table).length : Int)) _ (op_lenL sl_22 (Ty.lift _ (Ext.trans hE7 hS11.ext) r_r_Table) rfl) rfl ?_
  refine WL.val (Value.int .i64 (0 : Int)) _ (op_move rfl) rfl ?_
  refine WL.nil ?_
  show W _ _ _ _ _ _
  obtain ⟨res14, hres15, h⟩ := bs h
  refine W.blockLoop (fun fq wq => ∃ s, res14 = Res.fin s ∧ ∃ (uu0 : Value), fq 3 = uu0 ∧ St wd2 wq [(Ty.sl (Ty.i .i64)).at uu0 s]) ?_ ?_
  · refine W.forN (fun k (s : (List Int)) fq wq => ∃ (uu0 : Value), fq 1 = (Value.pointer (some ⟨b1, 0, none⟩)) ∧ fq 3 = uu0 ∧ fq 8 = (Value.int .i64 ((r_Table).length : Int)) ∧ fq 9 = Value.int .i64 (k : Int) ∧ InR .i64 (k : Int) ∧ St wd2 wq [(Ty.sl (Ty.i .i64)).at uu0 s]) hres15 ⟨u9, rfl, rfl, rfl, rfl, (inR_i64.2 (show (-9223372036854775808 : Int) ≤ 0 ∧ (0 : Int) ≤ 9223372036854775807 from by decide)), hS11⟩ ?_ ?_
    · intro k16 x17 ct18 f19 wd20 hk21 hb22 hI23 hbrk24 hret25
      replace hI23 : ∃ (uu0 : Value), f19 1 = (Value.pointer (some ⟨b1, 0, none⟩)) ∧ f19 3 = uu0 ∧ f19 8 = (Value.int .i64 ((r_Table).length : Int)) ∧ f19 9 = Value.int .i64 (k16 : Int) ∧ InR .i64 (k16 : Int) ∧ St wd2 wd20 [(Ty.sl (Ty.i .i64)).at uu0 x17] := hI23
      replace hb22 : p_impl_Ring_duals_L1 r_Table k16 x17 = some ct18 := hb22
      unfold p_impl_Ring_duals_L1 at hb22
      obtain ⟨u26, hf27, hf28, hf29, hf30, hr31, hS32⟩ := hI23
      refine W.seq (W.region ?_)
      refine WL.val (Value.bool (decide ((k16 : Int) < ((r_Table).length : Int)))) _ (op_lss hf30 hf29) rfl ?_
      have hl33 : (k16 : Int) < ((r_Table).length : Int) := by omega
      refine WL.nil ?_
      show W _ _ _ _ _ _
      refine W.seq ?_
      refine W.condT (decide ((k16 : Int) < ((r_Table).length : Int))) rfl (decide_eq_true hl33) ?_
      refine W.skip ?_
      show W _ _ _ _ _ _
      refine W.seq ?_
      refine W.block ?_
      refine W.seq (W.region ?_)
      refine WL.val (Value.int .i64 (k16 : Int)) _ (op_move hf30) rfl ?_
      refine WL.val (Value.int .i64 (k16 : Int)) _ (op_assign rfl) rfl ?_
      refine WL.nil ?_
      show W _ _ _ _ _ _
      refine W.region ?_
      refine WL.val u26 _ (op_move hf28) rfl ?_
      refine WL.val (Value.agg #[v_r_Table]) _ (op_loadBox st_29 hf27 (BoxAt.lift hS32.ext hx6) rfl rfl) rfl ?_
      refine WL.val (Value.int .i64 (k16 : Int)) _ (op_move rfl) rfl ?_
      obtain ⟨x35, hx36, hb22⟩ := bs hb22
      refine WL.call _ (op_call fn_80 (args2 rfl rfl)) (c_impl_Ring_onlyOf (Ty.lift _ (Ext.trans hE7 hS32.ext) r_r_Table) hr31 hx36) rfl ?_
      rintro _ wd38 ⟨rfl, hr37, he39⟩
      have hS41 := St.extend hS32 he39
      replace hS41 : St wd2 wd38 [(Ty.sl (Ty.i .i64)).at u26 x17] := hS41
      refine WL.litFlat (t := (Ty.i .i64)) (flat_i .i64) [(Value.int .i64 x35)] [x35] hS41 sl_67 rfl rfl (fillL rfl ⟨rfl, rfl, rfl, trivial⟩) rfl rfl (litL ⟨⟨rfl, hr37⟩, trivial⟩) rfl ?_
      intro u42 wd43 hS44 he45
      replace hS44 : St wd2 wd43 [(Ty.sl (Ty.i .i64)).at u26 x17, (Ty.sl (Ty.i .i64)).at u42 ([x35] : (List Int))] := hS44
      obtain ⟨x46, hx47, hb22⟩ := bs hb22
      refine WL.append (flat_i .i64) hS44 (k := 0) rfl sl_67 rfl rfl rfl rfl (St.rep (t := (Ty.sl (Ty.i .i64))) hS44 1 rfl) hx47 rfl ?_
      intro u48 wd49 hS50 hz51
      replace hS50 : St wd2 wd49 [(Ty.sl (Ty.i .i64)).at u48 x46, (Ty.sl (Ty.i .i64)).at u42 ([x35] : (List Int))] := hS50
      refine WL.val u48 _ (op_assign rfl) rfl ?_
      refine WL.nil ?_
      show W _ _ _ _ _ _
      refine W.region ?_
      refine WL.val (Value.int .i64 (w64 ((k16 : Int) + (1 : Int)))) _ (op_add hf30 rfl) rfl ?_
      refine WL.val (Value.int .i64 (w64 ((k16 : Int) + (1 : Int)))) _ (op_move rfl) rfl ?_
      refine WL.nil ?_
      obtain rfl := Option.some.inj hb22
      show ∃ s, _ = Ctl.next s ∧ _
      exact ⟨_, rfl, u48, hf27, rfl, hf29, (ctr_next hl33 hr13), (ctr_rng hl33 hr13), (St.pick hS50 [0] rfl)⟩
    · intro x58 f53 wd54 hs55 hI56
      replace hI56 : ∃ (uu0 : Value), f53 1 = (Value.pointer (some ⟨b1, 0, none⟩)) ∧ f53 3 = uu0 ∧ f53 8 = (Value.int .i64 ((r_Table).length : Int)) ∧ f53 9 = Value.int .i64 (((r_Table).length : Nat) : Int) ∧ InR .i64 (((r_Table).length : Nat) : Int) ∧ St wd2 wd54 [(Ty.sl (Ty.i .i64)).at uu0 x58] := hI56
      obtain ⟨u59, hf60, hf61, hf62, hf63, hr64, hS65⟩ := hI56
      refine W.seq (W.region ?_)
      refine WL.val (Value.bool (decide ((((r_Table).length : Nat) : Int) < ((r_Table).length : Int)))) _ (op_lss hf63 hf62) rfl ?_
      have hl66 : ¬ (((r_Table).length : Nat) : Int) < ((r_Table).length : Int) := by omega
      refine WL.nil ?_
      show W _ _ _ _ _ _
      refine W.seq ?_
      refine W.condF (decide ((((r_Table).length : Nat) : Int) < ((r_Table).length : Int))) rfl (decide_eq_false hl66) ?_
      refine W.exit ?_
      show _ = _ ∧ _
      exact ⟨rfl, _, hs55, u59, hf61, hS65⟩
  · rintro f67 wd68 ⟨x71, rfl, hq69⟩
    replace h := onRes_fin h
    replace hq69 : ∃ (uu0 : Value), f67 3 = uu0 ∧ St wd2 wd68 [(Ty.sl (Ty.i .i64)).at uu0 x71] := hq69
    obtain ⟨u72, hf73, hS74⟩ := hq69
    show W _ _ _ _ _ _
    refine W.seq (W.region ?_)
    refine WL.val u72 _ (op_move hf73) rfl ?_
    refine WL.val u72 _ (op_assign rfl) rfl ?_
    refine WL.nil ?_
    show W _ _ _ _ _ _
    refine W.ret ?_
    obtain rfl := Option.some.inj h
    show FinP _ _ _ _ _ _ _
    exact FinP.ret _ (res1 rfl rfl) ⟨u72, rfl, (Ext.trans hE7 hS74.ext), (St.out (St.pick hS74 [0] rfl) (hE7))⟩

end Go.VG
