/- The walks, part 2: each Go function returns what its plain twin returns. No condition beyond what each names. -/
import Derived.Test.YtogakilgdpinlaaGWalk1
set_option linter.all false
namespace Go.VG
open Go.Proofs
attribute [local irreducible] W WL Sep FinP

theorem c_spec_l01Same {w : World} {a : (List Int)} {v_a : Value} {b : (List Int)} {v_b : Value} (r_a : (Ty.sl (Ty.i .i64)).rep w v_a a) (r_b : (Ty.sl (Ty.i .i64)).rep w v_b b) {res : Bool} (h : p_spec_l01Same a b  = some res) :
    Ret Try.prog 69 #[v_a, v_b] w (fun v w' => v = Value.bool res ∧ Ext w w') := by
  unfold p_spec_l01Same at h
  have hS0 : St w w [] := St.start w
  refine Ret.start (fn := Try.f69) Try.func69 rfl 26 rfl rfl ?_
  refine W.seq (W.region ?_)
  refine WL.val (Value.bool false) _ (op_assign rfl) rfl ?_
  refine WL.nil ?_
  show W _ _ _ _ _ _
  refine W.seq (W.seq (W.region ?_))
  refine WL.val v_a _ (op_move rfl) rfl ?_
  have hr1 := inR_len (Ty.lift _ hS0.ext r_a)
  refine WL.val (Value.int .i64 ((a).length : Int)) _ (op_lenL sl_25 (Ty.lift _ hS0.ext r_a) rfl) rfl ?_
  refine WL.val v_b _ (op_move rfl) rfl ?_
  have hr2 := inR_len (Ty.lift _ hS0.ext r_b)
  refine WL.val (Value.int .i64 ((b).length : Int)) _ (op_lenL sl_25 (Ty.lift _ hS0.ext r_b) rfl) rfl ?_
  refine WL.val (Value.bool (((a).length : Int) != ((b).length : Int))) _ (op_neq rfl rfl) rfl ?_
  refine WL.nil ?_
  show W _ _ _ _ _ _
  refine W.cond (((a).length : Int) != ((b).length : Int)) rfl (fun hc3 => ?_) (fun hc3 => ?_)
  · replace h := ip h hc3
    refine W.seq (W.region ?_)
    refine WL.val (Value.bool false) _ (op_assign rfl) rfl ?_
    refine WL.nil ?_
    show W _ _ _ _ _ _
    refine W.ret ?_
    obtain rfl := Option.some.inj h
    show FinP _ _ _ _ _ _ _
    exact FinP.ret _ (res1 rfl rfl) ⟨rfl, hS0.ext⟩
  · replace h := inegb h hc3
    refine W.skip ?_
    show W _ _ _ _ _ _
    refine W.seq (W.seq (W.region ?_))
    refine WL.val (Value.int .i64 (0 : Int)) _ (op_assign rfl) rfl ?_
    refine WL.nil ?_
    show W _ _ _ _ _ _
    obtain ⟨res5, hres6, h⟩ := bs h
    refine W.blockLoop (fun fq wq => ∃ s, res5 = Res.fin s ∧ St w wq []) ?_ ?_
    · refine W.forN (fun k (s : Unit) fq wq => fq 0 = v_a ∧ fq 1 = v_b ∧ fq 5 = Value.int .i64 (k : Int) ∧ InR .i64 (k : Int) ∧ St w wq []) hres6 ⟨rfl, rfl, rfl, (inR_i64.2 (show (-9223372036854775808 : Int) ≤ 0 ∧ (0 : Int) ≤ 9223372036854775807 from by decide)), hS0⟩ ?_ ?_
      · intro k7 s134 ct8 f9 wd10 hk11 hb12 hI13 hbrk14 hret15
        obtain ⟨⟩ := s134
        replace hI13 : f9 0 = v_a ∧ f9 1 = v_b ∧ f9 5 = Value.int .i64 (k7 : Int) ∧ InR .i64 (k7 : Int) ∧ St w wd10 [] := hI13
        replace hb12 : p_spec_l01Same_L1 a b k7  = some ct8 := hb12
        unfold p_spec_l01Same_L1 at hb12
        obtain ⟨hf16, hf17, hf18, hr19, hS20⟩ := hI13
        refine W.seq (W.seq (W.region ?_))
        refine WL.val (Value.int .i64 (k7 : Int)) _ (op_move hf18) rfl ?_
        refine WL.val v_a _ (op_move hf16) rfl ?_
        have hr21 := inR_len (Ty.lift _ hS20.ext r_a)
        refine WL.val (Value.int .i64 ((a).length : Int)) _ (op_lenL sl_25 (Ty.lift _ hS20.ext r_a) rfl) rfl ?_
        refine WL.val (Value.bool (decide ((k7 : Int) < ((a).length : Int)))) _ (op_lss rfl rfl) rfl ?_
        have hl22 : (k7 : Int) < ((a).length : Int) := by omega
        refine WL.nil ?_
        show W _ _ _ _ _ _
        refine W.condT (decide ((k7 : Int) < ((a).length : Int))) rfl (decide_eq_true hl22) ?_
        refine W.skip ?_
        show W _ _ _ _ _ _
        refine W.seq ?_
        refine W.block ?_
        refine W.seq ?_
        obtain ⟨x53, hx56, hb12⟩ := bs hb12
        obtain ⟨ha54, hb55, hx56⟩ := idx_some hx56
        obtain ⟨u67, hc68, hr69⟩ := repSl.el r_a hx56
        obtain ⟨rfl, hr69⟩ := hr69
        obtain ⟨x99, hx102, hb12⟩ := bs hb12
        obtain ⟨ha100, hb101, hx102⟩ := idx_some hx102
        obtain ⟨u113, hc114, hr115⟩ := repSl.el r_b hx102
        obtain ⟨rfl, hr115⟩ := hr115
        refine W.drawR mixo 8 [] [fun _ v _ _ => v = v_a, fun _ v _ _ => v = (Value.int .i64 (k7 : Int)) ∧ InR .i64 (k7 : Int), fun _ v _ _ => v = (Value.pointer (some (elA v_a ((k7 : Int)).toNat))), fun _ v _ _ => v = (Value.int .i64 x53) ∧ InR .i64 x53, fun _ v _ _ => v = v_b, fun _ v _ _ => v = (Value.int .i64 (k7 : Int)) ∧ InR .i64 (k7 : Int), fun _ v _ _ => v = (Value.pointer (some (elA v_b ((k7 : Int)).toNat))), fun _ v _ _ => v = (Value.int .i64 x99) ∧ InR .i64 x99] (by kernel_rfl) (by kernel_rfl) ⟨⟨fun _ _ _ _ _ _ h => h, fun _ _ _ _ _ _ h => h⟩, ⟨fun _ _ _ _ _ _ h => h, fun _ _ _ _ _ _ h => h⟩, ⟨fun _ _ _ _ _ _ h => h, fun _ _ _ _ _ _ h => h⟩, ⟨fun _ _ _ _ _ _ h => h, fun _ _ _ _ _ _ h => h⟩, ⟨fun _ _ _ _ _ _ h => h, fun _ _ _ _ _ _ h => h⟩, ⟨fun _ _ _ _ _ _ h => h, fun _ _ _ _ _ _ h => h⟩, ⟨fun _ _ _ _ _ _ h => h, fun _ _ _ _ _ _ h => h⟩, ⟨fun _ _ _ _ _ _ h => h, fun _ _ _ _ _ _ h => h⟩, trivial⟩ ⟨?_, ?_, ?_, ?_, ?_, ?_, ?_, ?_, trivial⟩ ?_
        · refine ObX.op rfl ?_
          intro f24 wd25 he26 hout27 hphi28
          have hS29 : St w wd25 [] := St.extend hS20 he26
          have e30 : f24 0 = v_a := (hout27 0 rfl).trans hf16
          exact OpX.val v_a wd25 rfl (op_move e30) (Ext.refl _) rfl
        · refine ObX.op rfl ?_
          intro f31 wd32 he33 hout34 hphi35
          have hS36 : St w wd32 [] := St.extend hS20 he33
          have e37 : f31 5 = (Value.int .i64 (k7 : Int)) := (hout34 5 rfl).trans hf18
          exact OpX.val (Value.int .i64 (k7 : Int)) wd32 rfl (op_move e37) (Ext.refl _) ⟨rfl, hr19⟩
        · refine ObX.op rfl ?_
          intro f38 wd39 he40 hout41 hphi42
          have hS43 : St w wd39 [] := St.extend hS20 he40
          obtain ⟨S44, hS45, hf46⟩ := hphi42 0 17 _ rfl rfl rfl
          have e47 : f38 17 = v_a := hf46
          obtain ⟨S48, hS49, hf50⟩ := hphi42 1 18 _ rfl rfl rfl
          obtain ⟨e51, hr52⟩ : f38 18 = (Value.int .i64 (k7 : Int)) ∧ InR .i64 (k7 : Int) := hf50
          exact OpX.val (Value.pointer (some (elA v_a ((k7 : Int)).toNat))) wd39 rfl (op_idx sl_25 (Ty.lift _ hS43.ext r_a) e47 e51 ha54 hb55) (Ext.refl _) rfl
        · refine ObX.op rfl ?_
          intro f57 wd58 he59 hout60 hphi61
          have hS62 : St w wd58 [] := St.extend hS20 he59
          obtain ⟨S63, hS64, hf65⟩ := hphi61 2 19 _ rfl rfl rfl
          have e66 : f57 19 = (Value.pointer (some (elA v_a ((k7 : Int)).toNat))) := hf65
          exact OpX.val (Value.int .i64 x53) wd58 rfl (op_load one_2 e66 (Ext.cell hS62.ext hc68)) (Ext.refl _) ⟨rfl, hr69⟩
        · refine ObX.op rfl ?_
          intro f70 wd71 he72 hout73 hphi74
          have hS75 : St w wd71 [] := St.extend hS20 he72
          have e76 : f70 1 = v_b := (hout73 1 rfl).trans hf17
          exact OpX.val v_b wd71 rfl (op_move e76) (Ext.refl _) rfl
        · refine ObX.op rfl ?_
          intro f77 wd78 he79 hout80 hphi81
          have hS82 : St w wd78 [] := St.extend hS20 he79
          have e83 : f77 5 = (Value.int .i64 (k7 : Int)) := (hout80 5 rfl).trans hf18
          exact OpX.val (Value.int .i64 (k7 : Int)) wd78 rfl (op_move e83) (Ext.refl _) ⟨rfl, hr19⟩
        · refine ObX.op rfl ?_
          intro f84 wd85 he86 hout87 hphi88
          have hS89 : St w wd85 [] := St.extend hS20 he86
          obtain ⟨S90, hS91, hf92⟩ := hphi88 4 21 _ rfl rfl rfl
          have e93 : f84 21 = v_b := hf92
          obtain ⟨S94, hS95, hf96⟩ := hphi88 5 22 _ rfl rfl rfl
          obtain ⟨e97, hr98⟩ : f84 22 = (Value.int .i64 (k7 : Int)) ∧ InR .i64 (k7 : Int) := hf96
          exact OpX.val (Value.pointer (some (elA v_b ((k7 : Int)).toNat))) wd85 rfl (op_idx sl_25 (Ty.lift _ hS89.ext r_b) e93 e97 ha100 hb101) (Ext.refl _) rfl
        · refine ObX.op rfl ?_
          intro f103 wd104 he105 hout106 hphi107
          have hS108 : St w wd104 [] := St.extend hS20 he105
          obtain ⟨S109, hS110, hf111⟩ := hphi107 6 23 _ rfl rfl rfl
          have e112 : f103 23 = (Value.pointer (some (elA v_b ((k7 : Int)).toNat))) := hf111
          exact OpX.val (Value.int .i64 x99) wd104 rfl (op_load one_2 e112 (Ext.cell hS108.ext hc114)) (Ext.refl _) ⟨rfl, hr115⟩
        · intro f116 wd117 Ss118 he119 hout120 hSn121 hSd122 hphi123
          show WL _ _ _ _ _ _ _
          have hS124 : St w wd117 [] := St.extend hS20 he119
          obtain ⟨e125, hr126⟩ : f116 20 = (Value.int .i64 x53) ∧ InR .i64 x53 := hphi123 3 20 _ (by decide) rfl rfl
          obtain ⟨e127, hr128⟩ : f116 24 = (Value.int .i64 x99) ∧ InR .i64 x99 := hphi123 7 24 _ (by decide) rfl rfl
          have e129 : f116 0 = v_a := (hout120 0 rfl).trans hf16
          have e130 : f116 1 = v_b := (hout120 1 rfl).trans hf17
          have e131 : f116 5 = (Value.int .i64 (k7 : Int)) := (hout120 5 rfl).trans hf18
          refine WL.val (Value.bool (x53 != x99)) _ (op_neq e125 e127) rfl ?_
          refine WL.nil ?_
          show W _ _ _ _ _ _
          refine W.cond (x53 != x99) rfl (fun hc132 => ?_) (fun hc132 => ?_)
          · replace hb12 := ip hb12 hc132
            refine W.seq (W.region ?_)
            refine WL.val (Value.bool false) _ (op_assign rfl) rfl ?_
            refine WL.nil ?_
            show W _ _ _ _ _ _
            refine W.ret ?_
            obtain rfl := Option.some.inj hb12
            obtain rfl := hret15 _ rfl
            replace h := onRes_ret h
            obtain rfl := Option.some.inj h
            show FinP _ _ _ _ _ _ _
            exact FinP.ret _ (res1 rfl rfl) ⟨rfl, hS124.ext⟩
          · replace hb12 := inegb hb12 hc132
            refine W.skip ?_
            show W _ _ _ _ _ _
            refine W.region ?_
            refine WL.val (Value.int .i64 (k7 : Int)) _ (op_move e131) rfl ?_
            refine WL.val (Value.int .i64 (w64 ((k7 : Int) + (1 : Int)))) _ (op_add rfl rfl) rfl ?_
            refine WL.val (Value.int .i64 (w64 ((k7 : Int) + (1 : Int)))) _ (op_assign rfl) rfl ?_
            refine WL.nil ?_
            obtain rfl := Option.some.inj hb12
            show ∃ s, _ = Ctl.next s ∧ _
            exact ⟨_, rfl, e129, e130, (ctr_next hl22 hr21), (ctr_rng hl22 hr21), hS124⟩
      · intro s139 f135 wd136 hs137 hI138
        obtain ⟨⟩ := s139
        replace hI138 : f135 0 = v_a ∧ f135 1 = v_b ∧ f135 5 = Value.int .i64 (((a).length : Nat) : Int) ∧ InR .i64 (((a).length : Nat) : Int) ∧ St w wd136 [] := hI138
        obtain ⟨hf140, hf141, hf142, hr143, hS144⟩ := hI138
        refine W.seq (W.seq (W.region ?_))
        refine WL.val (Value.int .i64 (((a).length : Nat) : Int)) _ (op_move hf142) rfl ?_
        refine WL.val v_a _ (op_move hf140) rfl ?_
        have hr145 := inR_len (Ty.lift _ hS144.ext r_a)
        refine WL.val (Value.int .i64 ((a).length : Int)) _ (op_lenL sl_25 (Ty.lift _ hS144.ext r_a) rfl) rfl ?_
        refine WL.val (Value.bool (decide ((((a).length : Nat) : Int) < ((a).length : Int)))) _ (op_lss rfl rfl) rfl ?_
        have hl146 : ¬ (((a).length : Nat) : Int) < ((a).length : Int) := by omega
        refine WL.nil ?_
        show W _ _ _ _ _ _
        refine W.condF (decide ((((a).length : Nat) : Int) < ((a).length : Int))) rfl (decide_eq_false hl146) ?_
        refine W.exit ?_
        show _ = _ ∧ _
        exact ⟨rfl, _, hs137, hS144⟩
    · rintro f147 wd148 ⟨s150, rfl, hq149⟩
      replace h := onRes_fin h
      obtain ⟨⟩ := s150
      replace hq149 : St w wd148 [] := hq149
      have hS151 := hq149
      show W _ _ _ _ _ _
      refine W.seq (W.region ?_)
      refine WL.val (Value.bool true) _ (op_assign rfl) rfl ?_
      refine WL.nil ?_
      show W _ _ _ _ _ _
      refine W.ret ?_
      obtain rfl := Option.some.inj h
      show FinP _ _ _ _ _ _ _
      exact FinP.ret _ (res1 rfl rfl) ⟨rfl, hS151.ext⟩

theorem c_spec_l03Commutative {w : World} {r_Table : (List (List (List Int)))} {v_r_Table : Value} (r_r_Table : (Ty.sl (Ty.sl (Ty.sl (Ty.i .i64)))).rep w v_r_Table r_Table) {res : Bool} (h : p_spec_l03Commutative r_Table  = some res) :
    Ret Try.prog 36 #[(Value.agg #[v_r_Table])] w (fun v w' => v = Value.bool res ∧ Ext w w') := by
  unfold p_spec_l03Commutative at h
  have hS0 : St w w [] := St.start w
  refine Ret.start (fn := Try.f36) Try.func36 rfl 35 rfl rfl ?_
  refine W.seq (W.region ?_)
  refine WL.box hS0 rfl (cs := [v_r_Table]) rfl rfl ?_
  intro b1 wd2 hS3 he4 hx5
  replace hS3 : St w wd2 [bx b1 [v_r_Table]] := hS3
  have hx6 := St.boxAt hS3 0 rfl
  have hE7 : Ext w wd2 := hS3.ext
  have hS8 : St wd2 wd2 [] := St.start wd2
  refine WL.val (Value.bool false) _ (op_assign rfl) rfl ?_
  refine WL.nil ?_
  show W _ _ _ _ _ _
  refine W.seq (W.seq (W.region ?_))
  refine WL.val (Value.int .i64 (0 : Int)) _ (op_assign rfl) rfl ?_
  refine WL.nil ?_
  show W _ _ _ _ _ _
  obtain ⟨res9, hres10, h⟩ := bs h
  refine W.blockLoop (fun fq wq => ∃ s, res9 = Res.fin s ∧ St wd2 wq []) ?_ ?_
  · refine W.forN (fun k (s : Unit) fq wq => fq 1 = (Value.pointer (some ⟨b1, 0, none⟩)) ∧ fq 3 = Value.int .i64 (k : Int) ∧ InR .i64 (k : Int) ∧ St wd2 wq []) hres10 ⟨rfl, rfl, (inR_i64.2 (show (-9223372036854775808 : Int) ≤ 0 ∧ (0 : Int) ≤ 9223372036854775807 from by decide)), hS8⟩ ?_ ?_
    · intro k11 s277 ct12 f13 wd14 hk15 hb16 hI17 hbrk18 hret19
      obtain ⟨⟩ := s277
      replace hI17 : f13 1 = (Value.pointer (some ⟨b1, 0, none⟩)) ∧ f13 3 = Value.int .i64 (k11 : Int) ∧ InR .i64 (k11 : Int) ∧ St wd2 wd14 [] := hI17
      replace hb16 : p_spec_l03Commutative_L1 r_Table k11  = some ct12 := hb16
      unfold p_spec_l03Commutative_L1 at hb16
      obtain ⟨hf20, hf21, hr22, hS23⟩ := hI17
      refine W.seq (W.seq (W.region ?_))
      refine WL.val (Value.int .i64 (k11 : Int)) _ (op_move hf21) rfl ?_
      refine WL.val (Value.pointer (some ⟨b1, 0, none⟩)) _ (op_fieldAddr fd_29_0 hf20) rfl ?_
      refine WL.val v_r_Table _ (op_load one_22 rfl (BoxAt.cell (BoxAt.lift hS23.ext hx6) rfl)) rfl ?_
      have hr24 := inR_len (Ty.lift _ (Ext.trans hE7 hS23.ext) r_r_Table)
      refine WL.val (Value.int .i64 ((r_Table).length : Int)) _ (op_lenL sl_22 (Ty.lift _ (Ext.trans hE7 hS23.ext) r_r_Table) rfl) rfl ?_
      refine WL.val (Value.bool (decide ((k11 : Int) < ((r_Table).length : Int)))) _ (op_lss rfl rfl) rfl ?_
      have hl25 : (k11 : Int) < ((r_Table).length : Int) := by omega
      refine WL.nil ?_
      show W _ _ _ _ _ _
      refine W.condT (decide ((k11 : Int) < ((r_Table).length : Int))) rfl (decide_eq_true hl25) ?_
      refine W.skip ?_
      show W _ _ _ _ _ _
      refine W.seq ?_
      refine W.block ?_
      refine W.seq (W.region ?_)
      refine WL.val (Value.int .i64 (0 : Int)) _ (op_assign rfl) rfl ?_
      refine WL.nil ?_
      show W _ _ _ _ _ _
      obtain ⟨res27, hres28, hb16⟩ := bs hb16
      refine W.blockLoop (fun fq wq => ∃ s, res27 = Res.fin s ∧ fq 1 = (Value.pointer (some ⟨b1, 0, none⟩)) ∧ fq 3 = (Value.int .i64 (k11 : Int)) ∧ St wd2 wq []) ?_ ?_
      · refine W.forN (fun k (s : Unit) fq wq => fq 1 = (Value.pointer (some ⟨b1, 0, none⟩)) ∧ fq 3 = (Value.int .i64 (k11 : Int)) ∧ fq 4 = Value.int .i64 (k : Int) ∧ InR .i64 (k : Int) ∧ St wd2 wq []) hres28 ⟨hf20, hf21, rfl, (inR_i64.2 (show (-9223372036854775808 : Int) ≤ 0 ∧ (0 : Int) ≤ 9223372036854775807 from by decide)), hS23⟩ ?_ ?_
        · intro k29 s257 ct30 f31 wd32 hk33 hb34 hI35 hbrk36 hret37
          obtain ⟨⟩ := s257
          replace hI35 : f31 1 = (Value.pointer (some ⟨b1, 0, none⟩)) ∧ f31 3 = (Value.int .i64 (k11 : Int)) ∧ f31 4 = Value.int .i64 (k29 : Int) ∧ InR .i64 (k29 : Int) ∧ St wd2 wd32 [] := hI35
          replace hb34 : p_spec_l03Commutative_L2 r_Table k11 k29  = some ct30 := hb34
          unfold p_spec_l03Commutative_L2 at hb34
          obtain ⟨hf38, hf39, hf40, hr41, hS42⟩ := hI35
          refine W.seq (W.seq (W.region ?_))
          refine WL.val (Value.int .i64 (k29 : Int)) _ (op_move hf40) rfl ?_
          refine WL.val (Value.int .i64 (k11 : Int)) _ (op_move hf39) rfl ?_
          refine WL.val (Value.bool (decide ((k29 : Int) < (k11 : Int)))) _ (op_lss rfl rfl) rfl ?_
          have hl43 : (k29 : Int) < (k11 : Int) := by omega
          refine WL.nil ?_
          show W _ _ _ _ _ _
          refine W.condT (decide ((k29 : Int) < (k11 : Int))) rfl (decide_eq_true hl43) ?_
          refine W.skip ?_
          show W _ _ _ _ _ _
          refine W.seq ?_
          refine W.block ?_
          refine W.seq ?_
          obtain ⟨x84, hx87, hb34⟩ := bs hb34
          obtain ⟨ha85, hb86, hx87⟩ := idx_some hx87
          obtain ⟨u98, hc99, hr100⟩ := repSl.el r_r_Table hx87
          obtain ⟨x123, hx126, hb34⟩ := bs hb34
          obtain ⟨ha124, hb125, hx126⟩ := idx_some hx126
          obtain ⟨u137, hc138, hr139⟩ := repSl.el hr100 hx126
          obtain ⟨x179, hx182, hb34⟩ := bs hb34
          obtain ⟨ha180, hb181, hx182⟩ := idx_some hx182
          obtain ⟨u193, hc194, hr195⟩ := repSl.el r_r_Table hx182
          obtain ⟨x218, hx221, hb34⟩ := bs hb34
          obtain ⟨ha219, hb220, hx221⟩ := idx_some hx221
          obtain ⟨u232, hc233, hr234⟩ := repSl.el hr195 hx221
          refine W.drawR mixo 16 [] [fun _ v _ _ => v = (Value.pointer (some ⟨b1, 0, none⟩)), fun _ v _ _ => v = v_r_Table, fun _ v _ _ => v = (Value.int .i64 (k11 : Int)) ∧ InR .i64 (k11 : Int), fun _ v _ _ => v = (Value.pointer (some (elA v_r_Table ((k11 : Int)).toNat))), fun _ v _ _ => v = u98, fun _ v _ _ => v = (Value.int .i64 (k29 : Int)) ∧ InR .i64 (k29 : Int), fun _ v _ _ => v = (Value.pointer (some (elA u98 ((k29 : Int)).toNat))), fun _ v _ _ => v = u137, fun _ v _ _ => v = (Value.pointer (some ⟨b1, 0, none⟩)), fun _ v _ _ => v = v_r_Table, fun _ v _ _ => v = (Value.int .i64 (k29 : Int)) ∧ InR .i64 (k29 : Int), fun _ v _ _ => v = (Value.pointer (some (elA v_r_Table ((k29 : Int)).toNat))), fun _ v _ _ => v = u193, fun _ v _ _ => v = (Value.int .i64 (k11 : Int)) ∧ InR .i64 (k11 : Int), fun _ v _ _ => v = (Value.pointer (some (elA u193 ((k11 : Int)).toNat))), fun _ v _ _ => v = u232] (by kernel_rfl) (by kernel_rfl) ⟨⟨fun _ _ _ _ _ _ h => h, fun _ _ _ _ _ _ h => h⟩, ⟨fun _ _ _ _ _ _ h => h, fun _ _ _ _ _ _ h => h⟩, ⟨fun _ _ _ _ _ _ h => h, fun _ _ _ _ _ _ h => h⟩, ⟨fun _ _ _ _ _ _ h => h, fun _ _ _ _ _ _ h => h⟩, ⟨fun _ _ _ _ _ _ h => h, fun _ _ _ _ _ _ h => h⟩, ⟨fun _ _ _ _ _ _ h => h, fun _ _ _ _ _ _ h => h⟩, ⟨fun _ _ _ _ _ _ h => h, fun _ _ _ _ _ _ h => h⟩, ⟨fun _ _ _ _ _ _ h => h, fun _ _ _ _ _ _ h => h⟩, ⟨fun _ _ _ _ _ _ h => h, fun _ _ _ _ _ _ h => h⟩, ⟨fun _ _ _ _ _ _ h => h, fun _ _ _ _ _ _ h => h⟩, ⟨fun _ _ _ _ _ _ h => h, fun _ _ _ _ _ _ h => h⟩, ⟨fun _ _ _ _ _ _ h => h, fun _ _ _ _ _ _ h => h⟩, ⟨fun _ _ _ _ _ _ h => h, fun _ _ _ _ _ _ h => h⟩, ⟨fun _ _ _ _ _ _ h => h, fun _ _ _ _ _ _ h => h⟩, ⟨fun _ _ _ _ _ _ h => h, fun _ _ _ _ _ _ h => h⟩, ⟨fun _ _ _ _ _ _ h => h, fun _ _ _ _ _ _ h => h⟩, trivial⟩ ⟨?_, ?_, ?_, ?_, ?_, ?_, ?_, ?_, ?_, ?_, ?_, ?_, ?_, ?_, ?_, ?_, trivial⟩ ?_
          · refine ObX.op rfl ?_
            intro f45 wd46 he47 hout48 hphi49
            have hS50 : St wd2 wd46 [] := St.extend hS42 he47
            have e51 : f45 1 = (Value.pointer (some ⟨b1, 0, none⟩)) := (hout48 1 rfl).trans hf38
            exact OpX.val (Value.pointer (some ⟨b1, 0, none⟩)) wd46 rfl (op_fieldAddr fd_29_0 e51) (Ext.refl _) rfl
          · refine ObX.op rfl ?_
            intro f52 wd53 he54 hout55 hphi56
            have hS57 : St wd2 wd53 [] := St.extend hS42 he54
            obtain ⟨S58, hS59, hf60⟩ := hphi56 0 17 _ rfl rfl rfl
            have e61 : f52 17 = (Value.pointer (some ⟨b1, 0, none⟩)) := hf60
            exact OpX.val v_r_Table wd53 rfl (op_load one_22 e61 (BoxAt.cell (BoxAt.lift hS57.ext hx6) rfl)) (Ext.refl _) rfl
          · refine ObX.op rfl ?_
            intro f62 wd63 he64 hout65 hphi66
            have hS67 : St wd2 wd63 [] := St.extend hS42 he64
            have e68 : f62 3 = (Value.int .i64 (k11 : Int)) := (hout65 3 rfl).trans hf39
            exact OpX.val (Value.int .i64 (k11 : Int)) wd63 rfl (op_move e68) (Ext.refl _) ⟨rfl, hr22⟩
          · refine ObX.op rfl ?_
            intro f69 wd70 he71 hout72 hphi73
            have hS74 : St wd2 wd70 [] := St.extend hS42 he71
            obtain ⟨S75, hS76, hf77⟩ := hphi73 1 18 _ rfl rfl rfl
            have e78 : f69 18 = v_r_Table := hf77
            obtain ⟨S79, hS80, hf81⟩ := hphi73 2 19 _ rfl rfl rfl
            obtain ⟨e82, hr83⟩ : f69 19 = (Value.int .i64 (k11 : Int)) ∧ InR .i64 (k11 : Int) := hf81
            exact OpX.val (Value.pointer (some (elA v_r_Table ((k11 : Int)).toNat))) wd70 rfl (op_idx sl_22 (Ty.lift _ (Ext.trans hE7 hS74.ext) r_r_Table) e78 e82 ha85 hb86) (Ext.refl _) rfl
          · refine ObX.op rfl ?_
            intro f88 wd89 he90 hout91 hphi92
            have hS93 : St wd2 wd89 [] := St.extend hS42 he90
            obtain ⟨S94, hS95, hf96⟩ := hphi92 3 20 _ rfl rfl rfl
            have e97 : f88 20 = (Value.pointer (some (elA v_r_Table ((k11 : Int)).toNat))) := hf96
            exact OpX.val u98 wd89 rfl (op_load one_43 e97 (Ext.cell (Ext.trans hE7 hS93.ext) hc99)) (Ext.refl _) rfl
          · refine ObX.op rfl ?_
            intro f101 wd102 he103 hout104 hphi105
            have hS106 : St wd2 wd102 [] := St.extend hS42 he103
            have e107 : f101 4 = (Value.int .i64 (k29 : Int)) := (hout104 4 rfl).trans hf40
            exact OpX.val (Value.int .i64 (k29 : Int)) wd102 rfl (op_move e107) (Ext.refl _) ⟨rfl, hr41⟩
          · refine ObX.op rfl ?_
            intro f108 wd109 he110 hout111 hphi112
            have hS113 : St wd2 wd109 [] := St.extend hS42 he110
            obtain ⟨S114, hS115, hf116⟩ := hphi112 4 21 _ rfl rfl rfl
            have e117 : f108 21 = u98 := hf116
            obtain ⟨S118, hS119, hf120⟩ := hphi112 5 22 _ rfl rfl rfl
            obtain ⟨e121, hr122⟩ : f108 22 = (Value.int .i64 (k29 : Int)) ∧ InR .i64 (k29 : Int) := hf120
            exact OpX.val (Value.pointer (some (elA u98 ((k29 : Int)).toNat))) wd109 rfl (op_idx sl_43 (Ty.lift _ (Ext.trans hE7 hS113.ext) hr100) e117 e121 ha124 hb125) (Ext.refl _) rfl
          · refine ObX.op rfl ?_
            intro f127 wd128 he129 hout130 hphi131
            have hS132 : St wd2 wd128 [] := St.extend hS42 he129
            obtain ⟨S133, hS134, hf135⟩ := hphi131 6 23 _ rfl rfl rfl
            have e136 : f127 23 = (Value.pointer (some (elA u98 ((k29 : Int)).toNat))) := hf135
            exact OpX.val u137 wd128 rfl (op_load one_25 e136 (Ext.cell (Ext.trans hE7 hS132.ext) hc138)) (Ext.refl _) rfl
          · refine ObX.op rfl ?_
            intro f140 wd141 he142 hout143 hphi144
            have hS145 : St wd2 wd141 [] := St.extend hS42 he142
            have e146 : f140 1 = (Value.pointer (some ⟨b1, 0, none⟩)) := (hout143 1 rfl).trans hf38
            exact OpX.val (Value.pointer (some ⟨b1, 0, none⟩)) wd141 rfl (op_fieldAddr fd_29_0 e146) (Ext.refl _) rfl
          · refine ObX.op rfl ?_
            intro f147 wd148 he149 hout150 hphi151
            have hS152 : St wd2 wd148 [] := St.extend hS42 he149
            obtain ⟨S153, hS154, hf155⟩ := hphi151 8 25 _ rfl rfl rfl
            have e156 : f147 25 = (Value.pointer (some ⟨b1, 0, none⟩)) := hf155
            exact OpX.val v_r_Table wd148 rfl (op_load one_22 e156 (BoxAt.cell (BoxAt.lift hS152.ext hx6) rfl)) (Ext.refl _) rfl
          · refine ObX.op rfl ?_
            intro f157 wd158 he159 hout160 hphi161
            have hS162 : St wd2 wd158 [] := St.extend hS42 he159
            have e163 : f157 4 = (Value.int .i64 (k29 : Int)) := (hout160 4 rfl).trans hf40
            exact OpX.val (Value.int .i64 (k29 : Int)) wd158 rfl (op_move e163) (Ext.refl _) ⟨rfl, hr41⟩
          · refine ObX.op rfl ?_
            intro f164 wd165 he166 hout167 hphi168
            have hS169 : St wd2 wd165 [] := St.extend hS42 he166
            obtain ⟨S170, hS171, hf172⟩ := hphi168 9 26 _ rfl rfl rfl
            have e173 : f164 26 = v_r_Table := hf172
            obtain ⟨S174, hS175, hf176⟩ := hphi168 10 27 _ rfl rfl rfl
            obtain ⟨e177, hr178⟩ : f164 27 = (Value.int .i64 (k29 : Int)) ∧ InR .i64 (k29 : Int) := hf176
            exact OpX.val (Value.pointer (some (elA v_r_Table ((k29 : Int)).toNat))) wd165 rfl (op_idx sl_22 (Ty.lift _ (Ext.trans hE7 hS169.ext) r_r_Table) e173 e177 ha180 hb181) (Ext.refl _) rfl
          · refine ObX.op rfl ?_
            intro f183 wd184 he185 hout186 hphi187
            have hS188 : St wd2 wd184 [] := St.extend hS42 he185
            obtain ⟨S189, hS190, hf191⟩ := hphi187 11 28 _ rfl rfl rfl
            have e192 : f183 28 = (Value.pointer (some (elA v_r_Table ((k29 : Int)).toNat))) := hf191
            exact OpX.val u193 wd184 rfl (op_load one_43 e192 (Ext.cell (Ext.trans hE7 hS188.ext) hc194)) (Ext.refl _) rfl
          · refine ObX.op rfl ?_
            intro f196 wd197 he198 hout199 hphi200
            have hS201 : St wd2 wd197 [] := St.extend hS42 he198
            have e202 : f196 3 = (Value.int .i64 (k11 : Int)) := (hout199 3 rfl).trans hf39
            exact OpX.val (Value.int .i64 (k11 : Int)) wd197 rfl (op_move e202) (Ext.refl _) ⟨rfl, hr22⟩
          · refine ObX.op rfl ?_
            intro f203 wd204 he205 hout206 hphi207
            have hS208 : St wd2 wd204 [] := St.extend hS42 he205
            obtain ⟨S209, hS210, hf211⟩ := hphi207 12 29 _ rfl rfl rfl
            have e212 : f203 29 = u193 := hf211
            obtain ⟨S213, hS214, hf215⟩ := hphi207 13 30 _ rfl rfl rfl
            obtain ⟨e216, hr217⟩ : f203 30 = (Value.int .i64 (k11 : Int)) ∧ InR .i64 (k11 : Int) := hf215
            exact OpX.val (Value.pointer (some (elA u193 ((k11 : Int)).toNat))) wd204 rfl (op_idx sl_43 (Ty.lift _ (Ext.trans hE7 hS208.ext) hr195) e212 e216 ha219 hb220) (Ext.refl _) rfl
          · refine ObX.op rfl ?_
            intro f222 wd223 he224 hout225 hphi226
            have hS227 : St wd2 wd223 [] := St.extend hS42 he224
            obtain ⟨S228, hS229, hf230⟩ := hphi226 14 31 _ rfl rfl rfl
            have e231 : f222 31 = (Value.pointer (some (elA u193 ((k11 : Int)).toNat))) := hf230
            exact OpX.val u232 wd223 rfl (op_load one_25 e231 (Ext.cell (Ext.trans hE7 hS227.ext) hc233)) (Ext.refl _) rfl
          · intro f235 wd236 Ss237 he238 hout239 hSn240 hSd241 hphi242
            show WL _ _ _ _ _ _ _
            have hS243 : St wd2 wd236 [] := St.extend hS42 he238
            have e244 : f235 24 = u137 := hphi242 7 24 _ (by decide) rfl rfl
            have e245 : f235 32 = u232 := hphi242 15 32 _ (by decide) rfl rfl
            have e246 : f235 1 = (Value.pointer (some ⟨b1, 0, none⟩)) := (hout239 1 rfl).trans hf38
            have e247 : f235 3 = (Value.int .i64 (k11 : Int)) := (hout239 3 rfl).trans hf39
            have e248 : f235 4 = (Value.int .i64 (k29 : Int)) := (hout239 4 rfl).trans hf40
            obtain ⟨x249, hx250, hb34⟩ := bs hb34
            refine WL.call _ (op_call fn_69 (args2 e244 e245)) (c_spec_l01Same (Ty.lift _ (Ext.trans hE7 hS243.ext) hr139) (Ty.lift _ (Ext.trans hE7 hS243.ext) hr234) hx250) rfl ?_
            rintro _ wd251 ⟨rfl, he252⟩
            have hS254 := St.extend hS243 he252
            replace hS254 : St wd2 wd251 [] := hS254
            refine WL.val (Value.bool (!x249)) _ (op_not rfl) rfl ?_
            refine WL.nil ?_
            show W _ _ _ _ _ _
            refine W.cond (!x249) rfl (fun hc255 => ?_) (fun hc255 => ?_)
            · replace hb34 := ip hb34 hc255
              refine W.seq (W.region ?_)
              refine WL.val (Value.bool false) _ (op_assign rfl) rfl ?_
              refine WL.nil ?_
              show W _ _ _ _ _ _
              refine W.ret ?_
              obtain rfl := Option.some.inj hb34
              obtain rfl := hret37 _ rfl
              replace hb16 := onRes_ret hb16
              obtain rfl := Option.some.inj hb16
              obtain rfl := hret19 _ rfl
              replace h := onRes_ret h
              obtain rfl := Option.some.inj h
              show FinP _ _ _ _ _ _ _
              exact FinP.ret _ (res1 rfl rfl) ⟨rfl, (Ext.trans hE7 hS254.ext)⟩
            · replace hb34 := inegb hb34 hc255
              refine W.skip ?_
              show W _ _ _ _ _ _
              refine W.region ?_
              refine WL.val (Value.int .i64 (k29 : Int)) _ (op_move e248) rfl ?_
              refine WL.val (Value.int .i64 (w64 ((k29 : Int) + (1 : Int)))) _ (op_add rfl rfl) rfl ?_
              refine WL.val (Value.int .i64 (w64 ((k29 : Int) + (1 : Int)))) _ (op_assign rfl) rfl ?_
              refine WL.nil ?_
              obtain rfl := Option.some.inj hb34
              show ∃ s, _ = Ctl.next s ∧ _
              exact ⟨_, rfl, e246, e247, (ctr_next hl43 hr22), (ctr_rng hl43 hr22), hS254⟩
        · intro s262 f258 wd259 hs260 hI261
          obtain ⟨⟩ := s262
          replace hI261 : f258 1 = (Value.pointer (some ⟨b1, 0, none⟩)) ∧ f258 3 = (Value.int .i64 (k11 : Int)) ∧ f258 4 = Value.int .i64 ((((k11 : Int)).toNat : Nat) : Int) ∧ InR .i64 ((((k11 : Int)).toNat : Nat) : Int) ∧ St wd2 wd259 [] := hI261
          obtain ⟨hf263, hf264, hf265, hr266, hS267⟩ := hI261
          refine W.seq (W.seq (W.region ?_))
          refine WL.val (Value.int .i64 ((((k11 : Int)).toNat : Nat) : Int)) _ (op_move hf265) rfl ?_
          refine WL.val (Value.int .i64 (k11 : Int)) _ (op_move hf264) rfl ?_
          refine WL.val (Value.bool (decide (((((k11 : Int)).toNat : Nat) : Int) < (k11 : Int)))) _ (op_lss rfl rfl) rfl ?_
          have hl268 : ¬ ((((k11 : Int)).toNat : Nat) : Int) < (k11 : Int) := by omega
          refine WL.nil ?_
          show W _ _ _ _ _ _
          refine W.condF (decide (((((k11 : Int)).toNat : Nat) : Int) < (k11 : Int))) rfl (decide_eq_false hl268) ?_
          refine W.exit ?_
          show _ = _ ∧ _
          exact ⟨rfl, _, hs260, hf263, hf264, hS267⟩
      · rintro f269 wd270 ⟨s272, rfl, hq271⟩
        replace hb16 := onRes_fin hb16
        obtain ⟨⟩ := s272
        replace hq271 : f269 1 = (Value.pointer (some ⟨b1, 0, none⟩)) ∧ f269 3 = (Value.int .i64 (k11 : Int)) ∧ St wd2 wd270 [] := hq271
        obtain ⟨hf273, hf274, hS275⟩ := hq271
        show W _ _ _ _ _ _
        refine W.region ?_
        refine WL.val (Value.int .i64 (k11 : Int)) _ (op_move hf274) rfl ?_
        refine WL.val (Value.int .i64 (w64 ((k11 : Int) + (1 : Int)))) _ (op_add rfl rfl) rfl ?_
        refine WL.val (Value.int .i64 (w64 ((k11 : Int) + (1 : Int)))) _ (op_assign rfl) rfl ?_
        refine WL.nil ?_
        obtain rfl := Option.some.inj hb16
        show ∃ s, _ = Ctl.next s ∧ _
        exact ⟨_, rfl, hf273, (ctr_next hl25 hr24), (ctr_rng hl25 hr24), hS275⟩
    · intro s282 f278 wd279 hs280 hI281
      obtain ⟨⟩ := s282
      replace hI281 : f278 1 = (Value.pointer (some ⟨b1, 0, none⟩)) ∧ f278 3 = Value.int .i64 (((r_Table).length : Nat) : Int) ∧ InR .i64 (((r_Table).length : Nat) : Int) ∧ St wd2 wd279 [] := hI281
      obtain ⟨hf283, hf284, hr285, hS286⟩ := hI281
      refine W.seq (W.seq (W.region ?_))
      refine WL.val (Value.int .i64 (((r_Table).length : Nat) : Int)) _ (op_move hf284) rfl ?_
      refine WL.val (Value.pointer (some ⟨b1, 0, none⟩)) _ (op_fieldAddr fd_29_0 hf283) rfl ?_
      refine WL.val v_r_Table _ (op_load one_22 rfl (BoxAt.cell (BoxAt.lift hS286.ext hx6) rfl)) rfl ?_
      have hr287 := inR_len (Ty.lift _ (Ext.trans hE7 hS286.ext) r_r_Table)
      refine WL.val (Value.int .i64 ((r_Table).length : Int)) _ (op_lenL sl_22 (Ty.lift _ (Ext.trans hE7 hS286.ext) r_r_Table) rfl) rfl ?_
      refine WL.val (Value.bool (decide ((((r_Table).length : Nat) : Int) < ((r_Table).length : Int)))) _ (op_lss rfl rfl) rfl ?_
      have hl288 : ¬ (((r_Table).length : Nat) : Int) < ((r_Table).length : Int) := by omega
      refine WL.nil ?_
      show W _ _ _ _ _ _
      refine W.condF (decide ((((r_Table).length : Nat) : Int) < ((r_Table).length : Int))) rfl (decide_eq_false hl288) ?_
      refine W.exit ?_
      show _ = _ ∧ _
      exact ⟨rfl, _, hs280, hS286⟩
  · rintro f289 wd290 ⟨s292, rfl, hq291⟩
    replace h := onRes_fin h
    obtain ⟨⟩ := s292
    replace hq291 : St wd2 wd290 [] := hq291
    have hS293 := hq291
    show W _ _ _ _ _ _
    refine W.seq (W.region ?_)
    refine WL.val (Value.bool true) _ (op_assign rfl) rfl ?_
    refine WL.nil ?_
    show W _ _ _ _ _ _
    refine W.ret ?_
    obtain rfl := Option.some.inj h
    show FinP _ _ _ _ _ _ _
    exact FinP.ret _ (res1 rfl rfl) ⟨rfl, (Ext.trans hE7 hS293.ext)⟩

theorem c_spec_l01Number {w : World} {n : Int} (r_n : InR .i64 n) {res : Bool} (h : p_spec_l01Number n  = some res) :
    Ret Try.prog 80 #[(Value.int .i64 n)] w (fun v w' => v = Value.bool res ∧ Ext w w') := by
  unfold p_spec_l01Number at h
  have hS0 : St w w [] := St.start w
  refine Ret.start (fn := Try.f80) Try.func80 rfl 5 rfl rfl ?_
  refine W.seq (W.region ?_)
  refine WL.val (Value.bool false) _ (op_assign rfl) rfl ?_
  refine WL.nil ?_
  show W _ _ _ _ _ _
  refine W.seq (W.region ?_)
  refine WL.val (Value.int .i64 n) _ (op_move rfl) rfl ?_
  obtain ⟨x1, hx2, h⟩ := bs h
  refine WL.call _ (op_call fn_79 (args3 rfl rfl rfl)) (c_spec_l01In r_n (inR_i64.2 (show (-9223372036854775808 : Int) ≤ 0 ∧ (0 : Int) ≤ 9223372036854775807 from by decide)) (inR_i64.2 (show (-9223372036854775808 : Int) ≤ 55440 ∧ (55440 : Int) ≤ 9223372036854775807 from by decide)) hx2) rfl ?_
  rintro _ wd3 ⟨rfl, he4⟩
  have hS6 := St.extend hS0 he4
  replace hS6 : St w wd3 [] := hS6
  refine WL.val (Value.bool x1) _ (op_assign rfl) rfl ?_
  refine WL.nil ?_
  show W _ _ _ _ _ _
  refine W.ret ?_
  obtain rfl := Option.some.inj h
  show FinP _ _ _ _ _ _ _
  exact FinP.ret _ (res1 rfl rfl) ⟨rfl, hS6.ext⟩

theorem c_spec_l01Numbers {w : World} {list : (List Int)} {v_list : Value} (r_list : (Ty.sl (Ty.i .i64)).rep w v_list list) {res : Bool} (h : p_spec_l01Numbers list  = some res) :
    Ret Try.prog 57 #[v_list] w (fun v w' => v = Value.bool res ∧ Ext w w') := by
  unfold p_spec_l01Numbers at h
  have hS0 : St w w [] := St.start w
  refine Ret.start (fn := Try.f57) Try.func57 rfl 16 rfl rfl ?_
  refine W.seq (W.region ?_)
  refine WL.val (Value.bool false) _ (op_assign rfl) rfl ?_
  refine WL.nil ?_
  show W _ _ _ _ _ _
  refine W.seq (W.seq (W.region ?_))
  refine WL.val (Value.int .i64 (0 : Int)) _ (op_assign rfl) rfl ?_
  refine WL.nil ?_
  show W _ _ _ _ _ _
  obtain ⟨res1, hres2, h⟩ := bs h
  refine W.blockLoop (fun fq wq => ∃ s, res1 = Res.fin s ∧ St w wq []) ?_ ?_
  · refine W.forN (fun k (s : Unit) fq wq => fq 0 = v_list ∧ fq 3 = Value.int .i64 (k : Int) ∧ InR .i64 (k : Int) ∧ St w wq []) hres2 ⟨rfl, rfl, (inR_i64.2 (show (-9223372036854775808 : Int) ≤ 0 ∧ (0 : Int) ≤ 9223372036854775807 from by decide)), hS0⟩ ?_ ?_
    · intro k3 s34 ct4 f5 wd6 hk7 hb8 hI9 hbrk10 hret11
      obtain ⟨⟩ := s34
      replace hI9 : f5 0 = v_list ∧ f5 3 = Value.int .i64 (k3 : Int) ∧ InR .i64 (k3 : Int) ∧ St w wd6 [] := hI9
      replace hb8 : p_spec_l01Numbers_L1 list k3  = some ct4 := hb8
      unfold p_spec_l01Numbers_L1 at hb8
      obtain ⟨hf12, hf13, hr14, hS15⟩ := hI9
      refine W.seq (W.seq (W.region ?_))
      refine WL.val (Value.int .i64 (k3 : Int)) _ (op_move hf13) rfl ?_
      refine WL.val v_list _ (op_move hf12) rfl ?_
      have hr16 := inR_len (Ty.lift _ hS15.ext r_list)
      refine WL.val (Value.int .i64 ((list).length : Int)) _ (op_lenL sl_25 (Ty.lift _ hS15.ext r_list) rfl) rfl ?_
      refine WL.val (Value.bool (decide ((k3 : Int) < ((list).length : Int)))) _ (op_lss rfl rfl) rfl ?_
      have hl17 : (k3 : Int) < ((list).length : Int) := by omega
      refine WL.nil ?_
      show W _ _ _ _ _ _
      refine W.condT (decide ((k3 : Int) < ((list).length : Int))) rfl (decide_eq_true hl17) ?_
      refine W.skip ?_
      show W _ _ _ _ _ _
      refine W.seq ?_
      refine W.block ?_
      refine W.seq (W.region ?_)
      refine WL.val v_list _ (op_move hf12) rfl ?_
      refine WL.val (Value.int .i64 (k3 : Int)) _ (op_move hf13) rfl ?_
      obtain ⟨x19, hx22, hb8⟩ := bs hb8
      obtain ⟨ha20, hb21, hx22⟩ := idx_some hx22
      refine WL.val (Value.pointer (some (elA v_list ((k3 : Int)).toNat))) _ (op_idx sl_25 (Ty.lift _ hS15.ext r_list) rfl rfl ha20 hb21) rfl ?_
      obtain ⟨u23, hc24, hr25⟩ := repSl.el r_list hx22
      obtain ⟨rfl, hr25⟩ := hr25
      refine WL.val (Value.int .i64 x19) _ (op_load one_2 rfl (Ext.cell hS15.ext hc24)) rfl ?_
      obtain ⟨x26, hx27, hb8⟩ := bs hb8
      refine WL.call _ (op_call fn_80 (args1 rfl)) (c_spec_l01Number hr25 hx27) rfl ?_
      rintro _ wd28 ⟨rfl, he29⟩
      have hS31 := St.extend hS15 he29
      replace hS31 : St w wd28 [] := hS31
      refine WL.val (Value.bool (!x26)) _ (op_not rfl) rfl ?_
      refine WL.nil ?_
      show W _ _ _ _ _ _
      refine W.cond (!x26) rfl (fun hc32 => ?_) (fun hc32 => ?_)
      · replace hb8 := ip hb8 hc32
        refine W.seq (W.region ?_)
        refine WL.val (Value.bool false) _ (op_assign rfl) rfl ?_
        refine WL.nil ?_
        show W _ _ _ _ _ _
        refine W.ret ?_
        obtain rfl := Option.some.inj hb8
        obtain rfl := hret11 _ rfl
        replace h := onRes_ret h
        obtain rfl := Option.some.inj h
        show FinP _ _ _ _ _ _ _
        exact FinP.ret _ (res1 rfl rfl) ⟨rfl, hS31.ext⟩
      · replace hb8 := inegb hb8 hc32
        refine W.skip ?_
        show W _ _ _ _ _ _
        refine W.region ?_
        refine WL.val (Value.int .i64 (k3 : Int)) _ (op_move hf13) rfl ?_
        refine WL.val (Value.int .i64 (w64 ((k3 : Int) + (1 : Int)))) _ (op_add rfl rfl) rfl ?_
        refine WL.val (Value.int .i64 (w64 ((k3 : Int) + (1 : Int)))) _ (op_assign rfl) rfl ?_
        refine WL.nil ?_
        obtain rfl := Option.some.inj hb8
        show ∃ s, _ = Ctl.next s ∧ _
        exact ⟨_, rfl, hf12, (ctr_next hl17 hr16), (ctr_rng hl17 hr16), hS31⟩
    · intro s39 f35 wd36 hs37 hI38
      obtain ⟨⟩ := s39
      replace hI38 : f35 0 = v_list ∧ f35 3 = Value.int .i64 (((list).length : Nat) : Int) ∧ InR .i64 (((list).length : Nat) : Int) ∧ St w wd36 [] := hI38
      obtain ⟨hf40, hf41, hr42, hS43⟩ := hI38
      refine W.seq (W.seq (W.region ?_))
      refine WL.val (Value.int .i64 (((list).length : Nat) : Int)) _ (op_move hf41) rfl ?_
      refine WL.val v_list _ (op_move hf40) rfl ?_
      have hr44 := inR_len (Ty.lift _ hS43.ext r_list)
      refine WL.val (Value.int .i64 ((list).length : Int)) _ (op_lenL sl_25 (Ty.lift _ hS43.ext r_list) rfl) rfl ?_
      refine WL.val (Value.bool (decide ((((list).length : Nat) : Int) < ((list).length : Int)))) _ (op_lss rfl rfl) rfl ?_
      have hl45 : ¬ (((list).length : Nat) : Int) < ((list).length : Int) := by omega
      refine WL.nil ?_
      show W _ _ _ _ _ _
      refine W.condF (decide ((((list).length : Nat) : Int) < ((list).length : Int))) rfl (decide_eq_false hl45) ?_
      refine W.exit ?_
      show _ = _ ∧ _
      exact ⟨rfl, _, hs37, hS43⟩
  · rintro f46 wd47 ⟨s49, rfl, hq48⟩
    replace h := onRes_fin h
    obtain ⟨⟩ := s49
    replace hq48 : St w wd47 [] := hq48
    have hS50 := hq48
    show W _ _ _ _ _ _
    refine W.seq (W.region ?_)
    refine WL.val (Value.bool true) _ (op_assign rfl) rfl ?_
    refine WL.nil ?_
    show W _ _ _ _ _ _
    refine W.ret ?_
    obtain rfl := Option.some.inj h
    show FinP _ _ _ _ _ _ _
    exact FinP.ret _ (res1 rfl rfl) ⟨rfl, hS50.ext⟩

theorem c_spec_l01Dot {w : World} {a : (List Int)} {v_a : Value} {b : (List Int)} {v_b : Value} (r_a : (Ty.sl (Ty.i .i64)).rep w v_a a) (r_b : (Ty.sl (Ty.i .i64)).rep w v_b b) {res : Int} (h : p_spec_l01Dot a b  = some res) :
    Ret Try.prog 46 #[v_a, v_b] w (fun v w' => v = Value.int .i64 res ∧ InR .i64 res ∧ Ext w w') := by
  unfold p_spec_l01Dot at h
  have hS0 : St w w [] := St.start w
  refine Ret.start (fn := Try.f46) Try.func46 rfl 26 rfl rfl ?_
  refine W.seq (W.region ?_)
  refine WL.val (Value.int .i64 (0 : Int)) _ (op_assign rfl) rfl ?_
  refine WL.nil ?_
  show W _ _ _ _ _ _
  refine W.seq (W.region ?_)
  refine WL.val (Value.int .i64 (0 : Int)) _ (op_assign rfl) rfl ?_
  refine WL.nil ?_
  show W _ _ _ _ _ _
  refine W.seq (W.seq (W.region ?_))
  refine WL.val (Value.int .i64 (0 : Int)) _ (op_assign rfl) rfl ?_
  refine WL.nil ?_
  show W _ _ _ _ _ _
  obtain ⟨res1, hres2, h⟩ := bs h
  refine W.blockLoop (fun fq wq => ∃ s, res1 = Res.fin s ∧ fq 5 = Value.int .i64 s ∧ InR .i64 s ∧ St w wq []) ?_ ?_
  · refine W.forN (fun k (s : Int) fq wq => fq 0 = v_a ∧ fq 1 = v_b ∧ fq 5 = Value.int .i64 s ∧ InR .i64 s ∧ fq 6 = Value.int .i64 (k : Int) ∧ InR .i64 (k : Int) ∧ St w wq []) hres2 ⟨rfl, rfl, rfl, (inR_i64.2 (show (-9223372036854775808 : Int) ≤ 0 ∧ (0 : Int) ≤ 9223372036854775807 from by decide)), rfl, (inR_i64.2 (show (-9223372036854775808 : Int) ≤ 0 ∧ (0 : Int) ≤ 9223372036854775807 from by decide)), hS0⟩ ?_ ?_
    · intro k3 x4 ct5 f6 wd7 hk8 hb9 hI10 hbrk11 hret12
      replace hI10 : f6 0 = v_a ∧ f6 1 = v_b ∧ f6 5 = Value.int .i64 x4 ∧ InR .i64 x4 ∧ f6 6 = Value.int .i64 (k3 : Int) ∧ InR .i64 (k3 : Int) ∧ St w wd7 [] := hI10
      replace hb9 : p_spec_l01Dot_L1 a b k3 x4 = some ct5 := hb9
      unfold p_spec_l01Dot_L1 at hb9
      obtain ⟨hf13, hf14, hf15, hr16, hf17, hr18, hS19⟩ := hI10
      refine W.seq (W.seq (W.region ?_))
      refine WL.val (Value.int .i64 (k3 : Int)) _ (op_move hf17) rfl ?_
      refine WL.val v_a _ (op_move hf13) rfl ?_
      have hr20 := inR_len (Ty.lift _ hS19.ext r_a)
      refine WL.val (Value.int .i64 ((a).length : Int)) _ (op_lenL sl_25 (Ty.lift _ hS19.ext r_a) rfl) rfl ?_
      refine WL.val (Value.bool (decide ((k3 : Int) < ((a).length : Int)))) _ (op_lss rfl rfl) rfl ?_
      have hl21 : (k3 : Int) < ((a).length : Int) := by omega
      refine WL.nil ?_
      show W _ _ _ _ _ _
      refine W.condT (decide ((k3 : Int) < ((a).length : Int))) rfl (decide_eq_true hl21) ?_
      refine W.skip ?_
      show W _ _ _ _ _ _
      refine W.seq ?_
      refine W.block ?_
      obtain ⟨x59, hx62, hb9⟩ := bs hb9
      obtain ⟨ha60, hb61, hx62⟩ := idx_some hx62
      obtain ⟨u73, hc74, hr75⟩ := repSl.el r_a hx62
      obtain ⟨rfl, hr75⟩ := hr75
      obtain ⟨x105, hx108, hb9⟩ := bs hb9
      obtain ⟨ha106, hb107, hx108⟩ := idx_some hx108
      obtain ⟨u119, hc120, hr121⟩ := repSl.el r_b hx108
      obtain ⟨rfl, hr121⟩ := hr121
      refine W.drawR mixo 10 [] [fun _ v _ _ => v = (Value.int .i64 x4) ∧ InR .i64 x4, fun _ v _ _ => v = v_a, fun _ v _ _ => v = (Value.int .i64 (k3 : Int)) ∧ InR .i64 (k3 : Int), fun _ v _ _ => v = (Value.pointer (some (elA v_a ((k3 : Int)).toNat))), fun _ v _ _ => v = (Value.int .i64 x59) ∧ InR .i64 x59, fun _ v _ _ => v = v_b, fun _ v _ _ => v = (Value.int .i64 (k3 : Int)) ∧ InR .i64 (k3 : Int), fun _ v _ _ => v = (Value.pointer (some (elA v_b ((k3 : Int)).toNat))), fun _ v _ _ => v = (Value.int .i64 x105) ∧ InR .i64 x105, fun _ v _ _ => v = (Value.int .i64 (w64 (x59 * x105))) ∧ InR .i64 (w64 (x59 * x105))] (by kernel_rfl) (by kernel_rfl) ⟨⟨fun _ _ _ _ _ _ h => h, fun _ _ _ _ _ _ h => h⟩, ⟨fun _ _ _ _ _ _ h => h, fun _ _ _ _ _ _ h => h⟩, ⟨fun _ _ _ _ _ _ h => h, fun _ _ _ _ _ _ h => h⟩, ⟨fun _ _ _ _ _ _ h => h, fun _ _ _ _ _ _ h => h⟩, ⟨fun _ _ _ _ _ _ h => h, fun _ _ _ _ _ _ h => h⟩, ⟨fun _ _ _ _ _ _ h => h, fun _ _ _ _ _ _ h => h⟩, ⟨fun _ _ _ _ _ _ h => h, fun _ _ _ _ _ _ h => h⟩, ⟨fun _ _ _ _ _ _ h => h, fun _ _ _ _ _ _ h => h⟩, ⟨fun _ _ _ _ _ _ h => h, fun _ _ _ _ _ _ h => h⟩, ⟨fun _ _ _ _ _ _ h => h, fun _ _ _ _ _ _ h => h⟩, trivial⟩ ⟨?_, ?_, ?_, ?_, ?_, ?_, ?_, ?_, ?_, ?_, trivial⟩ ?_
      · refine ObX.op rfl ?_
        intro f23 wd24 he25 hout26 hphi27
        have hS28 : St w wd24 [] := St.extend hS19 he25
        have e29 : f23 5 = (Value.int .i64 x4) := (hout26 5 rfl).trans hf15
        exact OpX.val (Value.int .i64 x4) wd24 rfl (op_move e29) (Ext.refl _) ⟨rfl, hr16⟩
      · refine ObX.op rfl ?_
        intro f30 wd31 he32 hout33 hphi34
        have hS35 : St w wd31 [] := St.extend hS19 he32
        have e36 : f30 0 = v_a := (hout33 0 rfl).trans hf13
        exact OpX.val v_a wd31 rfl (op_move e36) (Ext.refl _) rfl
      · refine ObX.op rfl ?_
        intro f37 wd38 he39 hout40 hphi41
        have hS42 : St w wd38 [] := St.extend hS19 he39
        have e43 : f37 6 = (Value.int .i64 (k3 : Int)) := (hout40 6 rfl).trans hf17
        exact OpX.val (Value.int .i64 (k3 : Int)) wd38 rfl (op_move e43) (Ext.refl _) ⟨rfl, hr18⟩
      · refine ObX.op rfl ?_
        intro f44 wd45 he46 hout47 hphi48
        have hS49 : St w wd45 [] := St.extend hS19 he46
        obtain ⟨S50, hS51, hf52⟩ := hphi48 1 14 _ rfl rfl rfl
        have e53 : f44 14 = v_a := hf52
        obtain ⟨S54, hS55, hf56⟩ := hphi48 2 15 _ rfl rfl rfl
        obtain ⟨e57, hr58⟩ : f44 15 = (Value.int .i64 (k3 : Int)) ∧ InR .i64 (k3 : Int) := hf56
        exact OpX.val (Value.pointer (some (elA v_a ((k3 : Int)).toNat))) wd45 rfl (op_idx sl_25 (Ty.lift _ hS49.ext r_a) e53 e57 ha60 hb61) (Ext.refl _) rfl
      · refine ObX.op rfl ?_
        intro f63 wd64 he65 hout66 hphi67
        have hS68 : St w wd64 [] := St.extend hS19 he65
        obtain ⟨S69, hS70, hf71⟩ := hphi67 3 16 _ rfl rfl rfl
        have e72 : f63 16 = (Value.pointer (some (elA v_a ((k3 : Int)).toNat))) := hf71
        exact OpX.val (Value.int .i64 x59) wd64 rfl (op_load one_2 e72 (Ext.cell hS68.ext hc74)) (Ext.refl _) ⟨rfl, hr75⟩
      · refine ObX.op rfl ?_
        intro f76 wd77 he78 hout79 hphi80
        have hS81 : St w wd77 [] := St.extend hS19 he78
        have e82 : f76 1 = v_b := (hout79 1 rfl).trans hf14
        exact OpX.val v_b wd77 rfl (op_move e82) (Ext.refl _) rfl
      · refine ObX.op rfl ?_
        intro f83 wd84 he85 hout86 hphi87
        have hS88 : St w wd84 [] := St.extend hS19 he85
        have e89 : f83 6 = (Value.int .i64 (k3 : Int)) := (hout86 6 rfl).trans hf17
        exact OpX.val (Value.int .i64 (k3 : Int)) wd84 rfl (op_move e89) (Ext.refl _) ⟨rfl, hr18⟩
      · refine ObX.op rfl ?_
        intro f90 wd91 he92 hout93 hphi94
        have hS95 : St w wd91 [] := St.extend hS19 he92
        obtain ⟨S96, hS97, hf98⟩ := hphi94 5 18 _ rfl rfl rfl
        have e99 : f90 18 = v_b := hf98
        obtain ⟨S100, hS101, hf102⟩ := hphi94 6 19 _ rfl rfl rfl
        obtain ⟨e103, hr104⟩ : f90 19 = (Value.int .i64 (k3 : Int)) ∧ InR .i64 (k3 : Int) := hf102
        exact OpX.val (Value.pointer (some (elA v_b ((k3 : Int)).toNat))) wd91 rfl (op_idx sl_25 (Ty.lift _ hS95.ext r_b) e99 e103 ha106 hb107) (Ext.refl _) rfl
      · refine ObX.op rfl ?_
        intro f109 wd110 he111 hout112 hphi113
        have hS114 : St w wd110 [] := St.extend hS19 he111
        obtain ⟨S115, hS116, hf117⟩ := hphi113 7 20 _ rfl rfl rfl
        have e118 : f109 20 = (Value.pointer (some (elA v_b ((k3 : Int)).toNat))) := hf117
        exact OpX.val (Value.int .i64 x105) wd110 rfl (op_load one_2 e118 (Ext.cell hS114.ext hc120)) (Ext.refl _) ⟨rfl, hr121⟩
      · refine ObX.op rfl ?_
        intro f122 wd123 he124 hout125 hphi126
        have hS127 : St w wd123 [] := St.extend hS19 he124
        obtain ⟨S128, hS129, hf130⟩ := hphi126 4 17 _ rfl rfl rfl
        obtain ⟨e131, hr132⟩ : f122 17 = (Value.int .i64 x59) ∧ InR .i64 x59 := hf130
        obtain ⟨S133, hS134, hf135⟩ := hphi126 8 21 _ rfl rfl rfl
        obtain ⟨e136, hr137⟩ : f122 21 = (Value.int .i64 x105) ∧ InR .i64 x105 := hf135
        exact OpX.val (Value.int .i64 (w64 (x59 * x105))) wd123 rfl (op_mul e131 e136) (Ext.refl _) ⟨rfl, (inR_wrap _ _)⟩
      · intro f138 wd139 Ss140 he141 hout142 hSn143 hSd144 hphi145
        show WL _ _ _ _ _ _ _
        have hS146 : St w wd139 [] := St.extend hS19 he141
        obtain ⟨e147, hr148⟩ : f138 13 = (Value.int .i64 x4) ∧ InR .i64 x4 := hphi145 0 13 _ (by decide) rfl rfl
        obtain ⟨e149, hr150⟩ : f138 22 = (Value.int .i64 (w64 (x59 * x105))) ∧ InR .i64 (w64 (x59 * x105)) := hphi145 9 22 _ (by decide) rfl rfl
        have e151 : f138 0 = v_a := (hout142 0 rfl).trans hf13
        have e152 : f138 1 = v_b := (hout142 1 rfl).trans hf14
        have e153 : f138 6 = (Value.int .i64 (k3 : Int)) := (hout142 6 rfl).trans hf17
        refine WL.val (Value.int .i64 (w64 (x4 + (w64 (x59 * x105))))) _ (op_add e147 e149) rfl ?_
        refine WL.val (Value.int .i64 (((w64 (x4 + (w64 (x59 * x105))))).tmod (55441 : Int))) _ (op_rem (b := 55441) rfl rfl (by decide)) rfl ?_
        refine WL.val (Value.int .i64 (((w64 (x4 + (w64 (x59 * x105))))).tmod (55441 : Int))) _ (op_assign rfl) rfl ?_
        refine WL.nil ?_
        show W _ _ _ _ _ _
        refine W.region ?_
        refine WL.val (Value.int .i64 (k3 : Int)) _ (op_move e153) rfl ?_
        refine WL.val (Value.int .i64 (w64 ((k3 : Int) + (1 : Int)))) _ (op_add rfl rfl) rfl ?_
        refine WL.val (Value.int .i64 (w64 ((k3 : Int) + (1 : Int)))) _ (op_assign rfl) rfl ?_
        refine WL.nil ?_
        obtain rfl := Option.some.inj hb9
        show ∃ s, _ = Ctl.next s ∧ _
        exact ⟨_, rfl, e151, e152, rfl, (inR_tmod (inR_wrap _ _)), (ctr_next hl21 hr20), (ctr_rng hl21 hr20), hS146⟩
    · intro x160 f155 wd156 hs157 hI158
      replace hI158 : f155 0 = v_a ∧ f155 1 = v_b ∧ f155 5 = Value.int .i64 x160 ∧ InR .i64 x160 ∧ f155 6 = Value.int .i64 (((a).length : Nat) : Int) ∧ InR .i64 (((a).length : Nat) : Int) ∧ St w wd156 [] := hI158
      obtain ⟨hf161, hf162, hf163, hr164, hf165, hr166, hS167⟩ := hI158
      refine W.seq (W.seq (W.region ?_))
      refine WL.val (Value.int .i64 (((a).length : Nat) : Int)) _ (op_move hf165) rfl ?_
      refine WL.val v_a _ (op_move hf161) rfl ?_
      have hr168 := inR_len (Ty.lift _ hS167.ext r_a)
      refine WL.val (Value.int .i64 ((a).length : Int)) _ (op_lenL sl_25 (Ty.lift _ hS167.ext r_a) rfl) rfl ?_
      refine WL.val (Value.bool (decide ((((a).length : Nat) : Int) < ((a).length : Int)))) _ (op_lss rfl rfl) rfl ?_
      have hl169 : ¬ (((a).length : Nat) : Int) < ((a).length : Int) := by omega
      refine WL.nil ?_
      show W _ _ _ _ _ _
      refine W.condF (decide ((((a).length : Nat) : Int) < ((a).length : Int))) rfl (decide_eq_false hl169) ?_
      refine W.exit ?_
      show _ = _ ∧ _
      exact ⟨rfl, _, hs157, hf163, hr164, hS167⟩
  · rintro f170 wd171 ⟨x174, rfl, hq172⟩
    replace h := onRes_fin h
    replace hq172 : f170 5 = Value.int .i64 x174 ∧ InR .i64 x174 ∧ St w wd171 [] := hq172
    obtain ⟨hf175, hr176, hS177⟩ := hq172
    show W _ _ _ _ _ _
    refine W.seq (W.region ?_)
    refine WL.val (Value.int .i64 x174) _ (op_move hf175) rfl ?_
    refine WL.val (Value.int .i64 x174) _ (op_assign rfl) rfl ?_
    refine WL.nil ?_
    show W _ _ _ _ _ _
    refine W.ret ?_
    obtain rfl := Option.some.inj h
    show FinP _ _ _ _ _ _ _
    exact FinP.ret _ (res1 rfl rfl) ⟨rfl, hr176, hS177.ext⟩

theorem c_spec_l08Is {w : World} {r_Table : (List (List (List Int)))} {v_r_Table : Value} {x : (List Int)} {v_x : Value} (r_r_Table : (Ty.sl (Ty.sl (Ty.sl (Ty.i .i64)))).rep w v_r_Table r_Table) (r_x : (Ty.sl (Ty.i .i64)).rep w v_x x) {res : Bool} (h : p_spec_l08Is r_Table x  = some res) :
    Ret Try.prog 37 #[(Value.agg #[v_r_Table]), v_x] w (fun v w' => v = Value.bool res ∧ Ext w w') := by
  unfold p_spec_l08Is at h
  have hS0 : St w w [] := St.start w
  refine Ret.start (fn := Try.f37) Try.func37 rfl 57 rfl rfl ?_
  refine W.seq (W.region ?_)
  refine WL.box hS0 rfl (cs := [v_r_Table]) rfl rfl ?_
  intro b1 wd2 hS3 he4 hx5
  replace hS3 : St w wd2 [bx b1 [v_r_Table]] := hS3
  have hx6 := St.boxAt hS3 0 rfl
  have hE7 : Ext w wd2 := hS3.ext
  have hS8 : St wd2 wd2 [] := St.start wd2
  refine WL.val (Value.bool false) _ (op_assign rfl) rfl ?_
  refine WL.nil ?_
  show W _ _ _ _ _ _
  refine W.seq (W.region ?_)
  refine WL.val (Value.pointer (some ⟨b1, 0, none⟩)) _ (op_fieldAddr fd_29_0 rfl) rfl ?_
  refine WL.val v_r_Table _ (op_load one_22 rfl (BoxAt.cell (BoxAt.lift hS8.ext hx6) rfl)) rfl ?_
  have hr9 := inR_len (Ty.lift _ (Ext.trans hE7 hS8.ext) r_r_Table)
  refine WL.val (Value.int .i64 ((r_Table).length : Int)) _ (op_lenL sl_22 (Ty.lift _ (Ext.trans hE7 hS8.ext) r_r_Table) rfl) rfl ?_
  refine WL.val (Value.int .i64 ((r_Table).length : Int)) _ (op_assign rfl) rfl ?_
  refine WL.nil ?_
  show W _ _ _ _ _ _
  refine W.seq (W.seq (W.region ?_))
  refine WL.val v_x _ (op_move rfl) rfl ?_
  have hr10 := inR_len (Ty.lift _ (Ext.trans hE7 hS8.ext) r_x)
  refine WL.val (Value.int .i64 ((x).length : Int)) _ (op_lenL sl_25 (Ty.lift _ (Ext.trans hE7 hS8.ext) r_x) rfl) rfl ?_
  refine WL.val (Value.int .i64 ((r_Table).length : Int)) _ (op_move rfl) rfl ?_
  refine WL.val (Value.bool (((x).length : Int) != ((r_Table).length : Int))) _ (op_neq rfl rfl) rfl ?_
  refine WL.val (Value.bool (((x).length : Int) != ((r_Table).length : Int))) _ (op_move rfl) rfl ?_
  obtain ⟨x12, hj13, h⟩ := bs h
  refine WL.cut 4 (fun fq wq => fq 1 = v_x ∧ fq 2 = (Value.pointer (some ⟨b1, 0, none⟩)) ∧ fq 5 = (Value.int .i64 ((r_Table).length : Int)) ∧ fq 19 = Value.bool x12 ∧ St wd2 wq []) ?_ ?_
  · rcases Bool.eq_false_or_eq_true (((x).length : Int) != ((r_Table).length : Int)) with hc11 | hc11
    · replace hj13 := ip hj13 hc11
      refine WL.gskip rfl (bool_of rfl hc11) rfl ?_
      refine WL.gskip rfl (bool_of rfl hc11) rfl ?_
      refine WL.gskip rfl (bool_of rfl hc11) rfl ?_
      refine WL.val (Value.bool true) _ (op_pick_t (evb_of rfl hc11) rfl) rfl ?_
      refine WL.nil ?_
      obtain rfl := Option.some.inj hj13
      exact ⟨rfl, rfl, rfl, rfl, rfl, hS8⟩
    · replace hj13 := inegb hj13 hc11
      refine WL.grun rfl (bool_of rfl hc11) ?_
      refine WL.val v_x _ (op_move rfl) rfl ?_
      refine WL.grun rfl (bool_of rfl hc11) ?_
      obtain ⟨x17, hx18, hj13⟩ := bs hj13
      refine WL.call _ (op_call fn_57 (args1 rfl)) (c_spec_l01Numbers (Ty.lift _ (Ext.trans hE7 hS8.ext) r_x) hx18) rfl ?_
      rintro _ wd19 ⟨rfl, he20⟩
      have hS22 := St.extend hS8 he20
      replace hS22 : St wd2 wd19 [] := hS22
      refine WL.grun rfl (bool_of rfl hc11) ?_
      refine WL.val (Value.bool (!x17)) _ (op_not rfl) rfl ?_
      refine WL.val (Value.bool (!x17)) _ (op_pick_f (evb_of rfl hc11) rfl) rfl ?_
      refine WL.nil ?_
      obtain rfl := Option.some.inj hj13
      exact ⟨rfl, rfl, rfl, rfl, rfl, hS22⟩
  · intro f14 wd15 hq16
    obtain ⟨hf23, hf24, hf25, hf26, hS27⟩ := hq16
    refine WL.val (Value.bool x12) _ (op_move hf26) rfl ?_
    obtain ⟨x29, hj30, h⟩ := bs h
    refine WL.cut 5 (fun fq wq => fq 1 = v_x ∧ fq 2 = (Value.pointer (some ⟨b1, 0, none⟩)) ∧ fq 5 = (Value.int .i64 ((r_Table).length : Int)) ∧ fq 25 = Value.bool x29 ∧ St wd2 wq []) ?_ ?_
    · rcases Bool.eq_false_or_eq_true x12 with hc28 | hc28
      · replace hj30 := ip hj30 hc28
        refine WL.gskip rfl (bool_of rfl hc28) rfl ?_
        refine WL.gskip rfl (bool_of rfl hc28) rfl ?_
        refine WL.gskip rfl (bool_of rfl hc28) rfl ?_
        refine WL.gskip rfl (bool_of rfl hc28) rfl ?_
        refine WL.val (Value.bool true) _ (op_pick_t (evb_of rfl hc28) rfl) rfl ?_
        refine WL.nil ?_
        obtain rfl := Option.some.inj hj30
        exact ⟨rfl, hf23, hf24, hf25, rfl, hS27⟩
      · replace hj30 := inegb hj30 hc28
        refine WL.grun rfl (bool_of rfl hc28) ?_
        refine WL.val v_x _ (op_move hf23) rfl ?_
        refine WL.grun rfl (bool_of rfl hc28) ?_
        obtain ⟨x34, hx37, hj30⟩ := bs hj30
        obtain ⟨ha35, hb36, hx37⟩ := idx_some hx37
        refine WL.val (Value.pointer (some (elA v_x ((0 : Int)).toNat))) _ (op_idx sl_25 (Ty.lift _ (Ext.trans hE7 hS27.ext) r_x) rfl rfl ha35 hb36) rfl ?_
        refine WL.grun rfl (bool_of rfl hc28) ?_
        obtain ⟨u38, hc39, hr40⟩ := repSl.el r_x hx37
        obtain ⟨rfl, hr40⟩ := hr40
        refine WL.val (Value.int .i64 x34) _ (op_load one_2 rfl (Ext.cell (Ext.trans hE7 hS27.ext) hc39)) rfl ?_
        refine WL.grun rfl (bool_of rfl hc28) ?_
        refine WL.val (Value.bool (x34 != (1 : Int))) _ (op_neq rfl rfl) rfl ?_
        refine WL.val (Value.bool (x34 != (1 : Int))) _ (op_pick_f (evb_of rfl hc28) rfl) rfl ?_
        refine WL.nil ?_
        obtain rfl := Option.some.inj hj30
        exact ⟨rfl, hf23, hf24, hf25, rfl, hS27⟩
    · intro f31 wd32 hq33
      obtain ⟨hf41, hf42, hf43, hf44, hS45⟩ := hq33
      refine WL.nil ?_
      show W _ _ _ _ _ _
      refine W.cond x29 hf44 (fun hc46 => ?_) (fun hc46 => ?_)
      · replace h := ip h hc46
        refine W.seq (W.region ?_)
        refine WL.val (Value.bool false) _ (op_assign rfl) rfl ?_
        refine WL.nil ?_
        show W _ _ _ _ _ _
        refine W.ret ?_
        obtain rfl := Option.some.inj h
        show FinP _ _ _ _ _ _ _
        exact FinP.ret _ (res1 rfl rfl) ⟨rfl, (Ext.trans hE7 hS45.ext)⟩
      · replace h := inegb h hc46
        refine W.skip ?_
        show W _ _ _ _ _ _
        refine W.seq (W.seq (W.region ?_))
        refine WL.val (Value.int .i64 (0 : Int)) _ (op_assign rfl) rfl ?_
        refine WL.nil ?_
        show W _ _ _ _ _ _
        obtain ⟨res48, hres49, h⟩ := bs h
        refine W.blockLoop (fun fq wq => ∃ s, res48 = Res.fin s ∧ St wd2 wq []) ?_ ?_
        · refine W.forN (fun k (s : Unit) fq wq => fq 1 = v_x ∧ fq 2 = (Value.pointer (some ⟨b1, 0, none⟩)) ∧ fq 5 = (Value.int .i64 ((r_Table).length : Int)) ∧ fq 6 = Value.int .i64 (k : Int) ∧ InR .i64 (k : Int) ∧ St wd2 wq []) hres49 ⟨hf41, hf42, hf43, rfl, (inR_i64.2 (show (-9223372036854775808 : Int) ≤ 0 ∧ (0 : Int) ≤ 9223372036854775807 from by decide)), hS45⟩ ?_ ?_
          · intro k50 s372 ct51 f52 wd53 hk54 hb55 hI56 hbrk57 hret58
            obtain ⟨⟩ := s372
            replace hI56 : f52 1 = v_x ∧ f52 2 = (Value.pointer (some ⟨b1, 0, none⟩)) ∧ f52 5 = (Value.int .i64 ((r_Table).length : Int)) ∧ f52 6 = Value.int .i64 (k50 : Int) ∧ InR .i64 (k50 : Int) ∧ St wd2 wd53 [] := hI56
            replace hb55 : p_spec_l08Is_L1 x r_Table k50  = some ct51 := hb55
            unfold p_spec_l08Is_L1 at hb55
            obtain ⟨hf59, hf60, hf61, hf62, hr63, hS64⟩ := hI56
            refine W.seq (W.seq (W.region ?_))
            refine WL.val (Value.int .i64 (k50 : Int)) _ (op_move hf62) rfl ?_
            refine WL.val (Value.int .i64 ((r_Table).length : Int)) _ (op_move hf61) rfl ?_
            refine WL.val (Value.bool (decide ((k50 : Int) < ((r_Table).length : Int)))) _ (op_lss rfl rfl) rfl ?_
            have hl65 : (k50 : Int) < ((r_Table).length : Int) := by omega
            refine WL.nil ?_
            show W _ _ _ _ _ _
            refine W.condT (decide ((k50 : Int) < ((r_Table).length : Int))) rfl (decide_eq_true hl65) ?_
            refine W.skip ?_
            show W _ _ _ _ _ _
            refine W.seq ?_
            refine W.block ?_
            refine W.seq (W.region ?_)
            refine WL.val (Value.int .i64 (0 : Int)) _ (op_assign rfl) rfl ?_
            refine WL.nil ?_
            show W _ _ _ _ _ _
            obtain ⟨res67, hres68, hb55⟩ := bs hb55
            refine W.blockLoop (fun fq wq => ∃ s, res67 = Res.fin s ∧ fq 1 = v_x ∧ fq 2 = (Value.pointer (some ⟨b1, 0, none⟩)) ∧ fq 5 = (Value.int .i64 ((r_Table).length : Int)) ∧ fq 6 = (Value.int .i64 (k50 : Int)) ∧ St wd2 wq []) ?_ ?_
            · refine W.forN (fun k (s : Unit) fq wq => fq 1 = v_x ∧ fq 2 = (Value.pointer (some ⟨b1, 0, none⟩)) ∧ fq 5 = (Value.int .i64 ((r_Table).length : Int)) ∧ fq 6 = (Value.int .i64 (k50 : Int)) ∧ fq 7 = Value.int .i64 (k : Int) ∧ InR .i64 (k : Int) ∧ St wd2 wq []) hres68 ⟨hf59, hf60, hf61, hf62, rfl, (inR_i64.2 (show (-9223372036854775808 : Int) ≤ 0 ∧ (0 : Int) ≤ 9223372036854775807 from by decide)), hS64⟩ ?_ ?_
              · intro k69 s348 ct70 f71 wd72 hk73 hb74 hI75 hbrk76 hret77
                obtain ⟨⟩ := s348
                replace hI75 : f71 1 = v_x ∧ f71 2 = (Value.pointer (some ⟨b1, 0, none⟩)) ∧ f71 5 = (Value.int .i64 ((r_Table).length : Int)) ∧ f71 6 = (Value.int .i64 (k50 : Int)) ∧ f71 7 = Value.int .i64 (k69 : Int) ∧ InR .i64 (k69 : Int) ∧ St wd2 wd72 [] := hI75
                replace hb74 : p_spec_l08Is_L2 x k50 r_Table k69  = some ct70 := hb74
                unfold p_spec_l08Is_L2 at hb74
                obtain ⟨hf78, hf79, hf80, hf81, hf82, hr83, hS84⟩ := hI75
                refine W.seq (W.seq (W.region ?_))
                refine WL.val (Value.int .i64 (k69 : Int)) _ (op_move hf82) rfl ?_
                refine WL.val (Value.int .i64 ((r_Table).length : Int)) _ (op_move hf80) rfl ?_
                refine WL.val (Value.bool (decide ((k69 : Int) < ((r_Table).length : Int)))) _ (op_lss rfl rfl) rfl ?_
                have hl85 : (k69 : Int) < ((r_Table).length : Int) := by omega
                refine WL.nil ?_
                show W _ _ _ _ _ _
                refine W.condT (decide ((k69 : Int) < ((r_Table).length : Int))) rfl (decide_eq_true hl85) ?_
                refine W.skip ?_
                show W _ _ _ _ _ _
                refine W.seq ?_
                refine W.block ?_
                refine W.seq ?_
                obtain ⟨x116, hx119, hb74⟩ := bs hb74
                obtain ⟨ha117, hb118, hx119⟩ := idx_some hx119
                obtain ⟨u130, hc131, hr132⟩ := repSl.el r_x hx119
                obtain ⟨rfl, hr132⟩ := hr132
                obtain ⟨x162, hx165, hb74⟩ := bs hb74
                obtain ⟨ha163, hb164, hx165⟩ := idx_some hx165
                obtain ⟨u176, hc177, hr178⟩ := repSl.el r_x hx165
                obtain ⟨rfl, hr178⟩ := hr178
                obtain ⟨x245, hx248, hb74⟩ := bs hb74
                obtain ⟨ha246, hb247, hx248⟩ := idx_some hx248
                obtain ⟨u259, hc260, hr261⟩ := repSl.el r_r_Table hx248
                obtain ⟨x284, hx287, hb74⟩ := bs hb74
                obtain ⟨ha285, hb286, hx287⟩ := idx_some hx287
                obtain ⟨u298, hc299, hr300⟩ := repSl.el hr261 hx287
                obtain ⟨x322, hx323, hb74⟩ := bs hb74
                refine W.drawR mixo 20 [] [fun _ v _ _ => v = v_x, fun _ v _ _ => v = (Value.int .i64 (k50 : Int)) ∧ InR .i64 (k50 : Int), fun _ v _ _ => v = (Value.pointer (some (elA v_x ((k50 : Int)).toNat))), fun _ v _ _ => v = (Value.int .i64 x116) ∧ InR .i64 x116, fun _ v _ _ => v = v_x, fun _ v _ _ => v = (Value.int .i64 (k69 : Int)) ∧ InR .i64 (k69 : Int), fun _ v _ _ => v = (Value.pointer (some (elA v_x ((k69 : Int)).toNat))), fun _ v _ _ => v = (Value.int .i64 x162) ∧ InR .i64 x162, fun _ v _ _ => v = (Value.int .i64 (w64 (x116 * x162))) ∧ InR .i64 (w64 (x116 * x162)), fun _ v _ _ => v = (Value.int .i64 (((w64 (x116 * x162))).tmod (55441 : Int))) ∧ InR .i64 (((w64 (x116 * x162))).tmod (55441 : Int)), fun _ v _ _ => v = (Value.pointer (some ⟨b1, 0, none⟩)), fun _ v _ _ => v = v_r_Table, fun _ v _ _ => v = (Value.int .i64 (k50 : Int)) ∧ InR .i64 (k50 : Int), fun _ v _ _ => v = (Value.pointer (some (elA v_r_Table ((k50 : Int)).toNat))), fun _ v _ _ => v = u259, fun _ v _ _ => v = (Value.int .i64 (k69 : Int)) ∧ InR .i64 (k69 : Int), fun _ v _ _ => v = (Value.pointer (some (elA u259 ((k69 : Int)).toNat))), fun _ v _ _ => v = u298, fun _ v _ _ => v = v_x, fun _ v _ _ => v = (Value.int .i64 x322) ∧ InR .i64 x322] (by kernel_rfl) (by kernel_rfl) ⟨⟨fun _ _ _ _ _ _ h => h, fun _ _ _ _ _ _ h => h⟩, ⟨fun _ _ _ _ _ _ h => h, fun _ _ _ _ _ _ h => h⟩, ⟨fun _ _ _ _ _ _ h => h, fun _ _ _ _ _ _ h => h⟩, ⟨fun _ _ _ _ _ _ h => h, fun _ _ _ _ _ _ h => h⟩, ⟨fun _ _ _ _ _ _ h => h, fun _ _ _ _ _ _ h => h⟩, ⟨fun _ _ _ _ _ _ h => h, fun _ _ _ _ _ _ h => h⟩, ⟨fun _ _ _ _ _ _ h => h, fun _ _ _ _ _ _ h => h⟩, ⟨fun _ _ _ _ _ _ h => h, fun _ _ _ _ _ _ h => h⟩, ⟨fun _ _ _ _ _ _ h => h, fun _ _ _ _ _ _ h => h⟩, ⟨fun _ _ _ _ _ _ h => h, fun _ _ _ _ _ _ h => h⟩, ⟨fun _ _ _ _ _ _ h => h, fun _ _ _ _ _ _ h => h⟩, ⟨fun _ _ _ _ _ _ h => h, fun _ _ _ _ _ _ h => h⟩, ⟨fun _ _ _ _ _ _ h => h, fun _ _ _ _ _ _ h => h⟩, ⟨fun _ _ _ _ _ _ h => h, fun _ _ _ _ _ _ h => h⟩, ⟨fun _ _ _ _ _ _ h => h, fun _ _ _ _ _ _ h => h⟩, ⟨fun _ _ _ _ _ _ h => h, fun _ _ _ _ _ _ h => h⟩, ⟨fun _ _ _ _ _ _ h => h, fun _ _ _ _ _ _ h => h⟩, ⟨fun _ _ _ _ _ _ h => h, fun _ _ _ _ _ _ h => h⟩, ⟨fun _ _ _ _ _ _ h => h, fun _ _ _ _ _ _ h => h⟩, ⟨fun _ _ _ _ _ _ h => h, fun _ _ _ _ _ _ h => h⟩, trivial⟩ ⟨?_, ?_, ?_, ?_, ?_, ?_, ?_, ?_, ?_, ?_, ?_, ?_, ?_, ?_, ?_, ?_, ?_, ?_, ?_, ?_, trivial⟩ ?_
                · refine ObX.op rfl ?_
                  intro f87 wd88 he89 hout90 hphi91
                  have hS92 : St wd2 wd88 [] := St.extend hS84 he89
                  have e93 : f87 1 = v_x := (hout90 1 rfl).trans hf78
                  exact OpX.val v_x wd88 rfl (op_move e93) (Ext.refl _) rfl
                · refine ObX.op rfl ?_
                  intro f94 wd95 he96 hout97 hphi98
                  have hS99 : St wd2 wd95 [] := St.extend hS84 he96
                  have e100 : f94 6 = (Value.int .i64 (k50 : Int)) := (hout97 6 rfl).trans hf81
                  exact OpX.val (Value.int .i64 (k50 : Int)) wd95 rfl (op_move e100) (Ext.refl _) ⟨rfl, hr63⟩
                · refine ObX.op rfl ?_
                  intro f101 wd102 he103 hout104 hphi105
                  have hS106 : St wd2 wd102 [] := St.extend hS84 he103
                  obtain ⟨S107, hS108, hf109⟩ := hphi105 0 36 _ rfl rfl rfl
                  have e110 : f101 36 = v_x := hf109
                  obtain ⟨S111, hS112, hf113⟩ := hphi105 1 37 _ rfl rfl rfl
                  obtain ⟨e114, hr115⟩ : f101 37 = (Value.int .i64 (k50 : Int)) ∧ InR .i64 (k50 : Int) := hf113
                  exact OpX.val (Value.pointer (some (elA v_x ((k50 : Int)).toNat))) wd102 rfl (op_idx sl_25 (Ty.lift _ (Ext.trans hE7 hS106.ext) r_x) e110 e114 ha117 hb118) (Ext.refl _) rfl
                · refine ObX.op rfl ?_
                  intro f120 wd121 he122 hout123 hphi124
                  have hS125 : St wd2 wd121 [] := St.extend hS84 he122
                  obtain ⟨S126, hS127, hf128⟩ := hphi124 2 38 _ rfl rfl rfl
                  have e129 : f120 38 = (Value.pointer (some (elA v_x ((k50 : Int)).toNat))) := hf128
                  exact OpX.val (Value.int .i64 x116) wd121 rfl (op_load one_2 e129 (Ext.cell (Ext.trans hE7 hS125.ext) hc131)) (Ext.refl _) ⟨rfl, hr132⟩
                · refine ObX.op rfl ?_
                  intro f133 wd134 he135 hout136 hphi137
                  have hS138 : St wd2 wd134 [] := St.extend hS84 he135
                  have e139 : f133 1 = v_x := (hout136 1 rfl).trans hf78
                  exact OpX.val v_x wd134 rfl (op_move e139) (Ext.refl _) rfl
                · refine ObX.op rfl ?_
                  intro f140 wd141 he142 hout143 hphi144
                  have hS145 : St wd2 wd141 [] := St.extend hS84 he142
                  have e146 : f140 7 = (Value.int .i64 (k69 : Int)) := (hout143 7 rfl).trans hf82
                  exact OpX.val (Value.int .i64 (k69 : Int)) wd141 rfl (op_move e146) (Ext.refl _) ⟨rfl, hr83⟩
                · refine ObX.op rfl ?_
                  intro f147 wd148 he149 hout150 hphi151
                  have hS152 : St wd2 wd148 [] := St.extend hS84 he149
                  obtain ⟨S153, hS154, hf155⟩ := hphi151 4 40 _ rfl rfl rfl
                  have e156 : f147 40 = v_x := hf155
                  obtain ⟨S157, hS158, hf159⟩ := hphi151 5 41 _ rfl rfl rfl
                  obtain ⟨e160, hr161⟩ : f147 41 = (Value.int .i64 (k69 : Int)) ∧ InR .i64 (k69 : Int) := hf159
                  exact OpX.val (Value.pointer (some (elA v_x ((k69 : Int)).toNat))) wd148 rfl (op_idx sl_25 (Ty.lift _ (Ext.trans hE7 hS152.ext) r_x) e156 e160 ha163 hb164) (Ext.refl _) rfl
                · refine ObX.op rfl ?_
                  intro f166 wd167 he168 hout169 hphi170
                  have hS171 : St wd2 wd167 [] := St.extend hS84 he168
                  obtain ⟨S172, hS173, hf174⟩ := hphi170 6 42 _ rfl rfl rfl
                  have e175 : f166 42 = (Value.pointer (some (elA v_x ((k69 : Int)).toNat))) := hf174
                  exact OpX.val (Value.int .i64 x162) wd167 rfl (op_load one_2 e175 (Ext.cell (Ext.trans hE7 hS171.ext) hc177)) (Ext.refl _) ⟨rfl, hr178⟩
                · refine ObX.op rfl ?_
                  intro f179 wd180 he181 hout182 hphi183
                  have hS184 : St wd2 wd180 [] := St.extend hS84 he181
                  obtain ⟨S185, hS186, hf187⟩ := hphi183 3 39 _ rfl rfl rfl
                  obtain ⟨e188, hr189⟩ : f179 39 = (Value.int .i64 x116) ∧ InR .i64 x116 := hf187
                  obtain ⟨S190, hS191, hf192⟩ := hphi183 7 43 _ rfl rfl rfl
                  obtain ⟨e193, hr194⟩ : f179 43 = (Value.int .i64 x162) ∧ InR .i64 x162 := hf192
                  exact OpX.val (Value.int .i64 (w64 (x116 * x162))) wd180 rfl (op_mul e188 e193) (Ext.refl _) ⟨rfl, (inR_wrap _ _)⟩
                · refine ObX.op rfl ?_
                  intro f195 wd196 he197 hout198 hphi199
                  have hS200 : St wd2 wd196 [] := St.extend hS84 he197
                  obtain ⟨S201, hS202, hf203⟩ := hphi199 8 44 _ rfl rfl rfl
                  obtain ⟨e204, hr205⟩ : f195 44 = (Value.int .i64 (w64 (x116 * x162))) ∧ InR .i64 (w64 (x116 * x162)) := hf203
                  exact OpX.val (Value.int .i64 (((w64 (x116 * x162))).tmod (55441 : Int))) wd196 rfl (op_rem (b := 55441) e204 rfl (by decide)) (Ext.refl _) ⟨rfl, (inR_tmod hr205)⟩
                · refine ObX.op rfl ?_
                  intro f206 wd207 he208 hout209 hphi210
                  have hS211 : St wd2 wd207 [] := St.extend hS84 he208
                  have e212 : f206 2 = (Value.pointer (some ⟨b1, 0, none⟩)) := (hout209 2 rfl).trans hf79
                  exact OpX.val (Value.pointer (some ⟨b1, 0, none⟩)) wd207 rfl (op_fieldAddr fd_29_0 e212) (Ext.refl _) rfl
                · refine ObX.op rfl ?_
                  intro f213 wd214 he215 hout216 hphi217
                  have hS218 : St wd2 wd214 [] := St.extend hS84 he215
                  obtain ⟨S219, hS220, hf221⟩ := hphi217 10 46 _ rfl rfl rfl
                  have e222 : f213 46 = (Value.pointer (some ⟨b1, 0, none⟩)) := hf221
                  exact OpX.val v_r_Table wd214 rfl (op_load one_22 e222 (BoxAt.cell (BoxAt.lift hS218.ext hx6) rfl)) (Ext.refl _) rfl
                · refine ObX.op rfl ?_
                  intro f223 wd224 he225 hout226 hphi227
                  have hS228 : St wd2 wd224 [] := St.extend hS84 he225
                  have e229 : f223 6 = (Value.int .i64 (k50 : Int)) := (hout226 6 rfl).trans hf81
                  exact OpX.val (Value.int .i64 (k50 : Int)) wd224 rfl (op_move e229) (Ext.refl _) ⟨rfl, hr63⟩
                · refine ObX.op rfl ?_
                  intro f230 wd231 he232 hout233 hphi234
                  have hS235 : St wd2 wd231 [] := St.extend hS84 he232
                  obtain ⟨S236, hS237, hf238⟩ := hphi234 11 47 _ rfl rfl rfl
                  have e239 : f230 47 = v_r_Table := hf238
                  obtain ⟨S240, hS241, hf242⟩ := hphi234 12 48 _ rfl rfl rfl
                  obtain ⟨e243, hr244⟩ : f230 48 = (Value.int .i64 (k50 : Int)) ∧ InR .i64 (k50 : Int) := hf242
                  exact OpX.val (Value.pointer (some (elA v_r_Table ((k50 : Int)).toNat))) wd231 rfl (op_idx sl_22 (Ty.lift _ (Ext.trans hE7 hS235.ext) r_r_Table) e239 e243 ha246 hb247) (Ext.refl _) rfl
                · refine ObX.op rfl ?_
                  intro f249 wd250 he251 hout252 hphi253
                  have hS254 : St wd2 wd250 [] := St.extend hS84 he251
                  obtain ⟨S255, hS256, hf257⟩ := hphi253 13 49 _ rfl rfl rfl
                  have e258 : f249 49 = (Value.pointer (some (elA v_r_Table ((k50 : Int)).toNat))) := hf257
                  exact OpX.val u259 wd250 rfl (op_load one_43 e258 (Ext.cell (Ext.trans hE7 hS254.ext) hc260)) (Ext.refl _) rfl
                · refine ObX.op rfl ?_
                  intro f262 wd263 he264 hout265 hphi266
                  have hS267 : St wd2 wd263 [] := St.extend hS84 he264
                  have e268 : f262 7 = (Value.int .i64 (k69 : Int)) := (hout265 7 rfl).trans hf82
                  exact OpX.val (Value.int .i64 (k69 : Int)) wd263 rfl (op_move e268) (Ext.refl _) ⟨rfl, hr83⟩
                · refine ObX.op rfl ?_
                  intro f269 wd270 he271 hout272 hphi273
                  have hS274 : St wd2 wd270 [] := St.extend hS84 he271
                  obtain ⟨S275, hS276, hf277⟩ := hphi273 14 50 _ rfl rfl rfl
                  have e278 : f269 50 = u259 := hf277
                  obtain ⟨S279, hS280, hf281⟩ := hphi273 15 51 _ rfl rfl rfl
                  obtain ⟨e282, hr283⟩ : f269 51 = (Value.int .i64 (k69 : Int)) ∧ InR .i64 (k69 : Int) := hf281
                  exact OpX.val (Value.pointer (some (elA u259 ((k69 : Int)).toNat))) wd270 rfl (op_idx sl_43 (Ty.lift _ (Ext.trans hE7 hS274.ext) hr261) e278 e282 ha285 hb286) (Ext.refl _) rfl
                · refine ObX.op rfl ?_
                  intro f288 wd289 he290 hout291 hphi292
                  have hS293 : St wd2 wd289 [] := St.extend hS84 he290
                  obtain ⟨S294, hS295, hf296⟩ := hphi292 16 52 _ rfl rfl rfl
                  have e297 : f288 52 = (Value.pointer (some (elA u259 ((k69 : Int)).toNat))) := hf296
                  exact OpX.val u298 wd289 rfl (op_load one_25 e297 (Ext.cell (Ext.trans hE7 hS293.ext) hc299)) (Ext.refl _) rfl
                · refine ObX.op rfl ?_
                  intro f301 wd302 he303 hout304 hphi305
                  have hS306 : St wd2 wd302 [] := St.extend hS84 he303
                  have e307 : f301 1 = v_x := (hout304 1 rfl).trans hf78
                  exact OpX.val v_x wd302 rfl (op_move e307) (Ext.refl _) rfl
                · refine ObX.op rfl ?_
                  intro f308 wd309 he310 hout311 hphi312
                  have hS313 : St wd2 wd309 [] := St.extend hS84 he310
                  obtain ⟨S314, hS315, hf316⟩ := hphi312 17 53 _ rfl rfl rfl
                  have e317 : f308 53 = u298 := hf316
                  obtain ⟨S318, hS319, hf320⟩ := hphi312 18 54 _ rfl rfl rfl
                  have e321 : f308 54 = v_x := hf320
                  refine OpX.call rfl (op_call fn_46 (args2 e317 e321)) (Ret.mono (c_spec_l01Dot (Ty.lift _ (Ext.trans hE7 hS313.ext) hr300) (Ty.lift _ (Ext.trans hE7 hS313.ext) r_x) hx323) ?_)
                  rintro _ wd325 ⟨rfl, hr324, he326⟩
                  exact ⟨he326, _, noS _ _, ⟨rfl, hr324⟩⟩
                · intro f328 wd329 Ss330 he331 hout332 hSn333 hSd334 hphi335
                  show WL _ _ _ _ _ _ _
                  have hS336 : St wd2 wd329 [] := St.extend hS84 he331
                  obtain ⟨e337, hr338⟩ : f328 45 = (Value.int .i64 (((w64 (x116 * x162))).tmod (55441 : Int))) ∧ InR .i64 (((w64 (x116 * x162))).tmod (55441 : Int)) := hphi335 9 45 _ (by decide) rfl rfl
                  obtain ⟨e339, hr340⟩ : f328 55 = (Value.int .i64 x322) ∧ InR .i64 x322 := hphi335 19 55 _ (by decide) rfl rfl
                  have e341 : f328 1 = v_x := (hout332 1 rfl).trans hf78
                  have e342 : f328 2 = (Value.pointer (some ⟨b1, 0, none⟩)) := (hout332 2 rfl).trans hf79
                  have e343 : f328 5 = (Value.int .i64 ((r_Table).length : Int)) := (hout332 5 rfl).trans hf80
                  have e344 : f328 6 = (Value.int .i64 (k50 : Int)) := (hout332 6 rfl).trans hf81
                  have e345 : f328 7 = (Value.int .i64 (k69 : Int)) := (hout332 7 rfl).trans hf82
                  refine WL.val (Value.bool ((((w64 (x116 * x162))).tmod (55441 : Int)) != x322)) _ (op_neq e337 e339) rfl ?_
                  refine WL.nil ?_
                  show W _ _ _ _ _ _
                  refine W.cond ((((w64 (x116 * x162))).tmod (55441 : Int)) != x322) rfl (fun hc346 => ?_) (fun hc346 => ?_)
                  · replace hb74 := ip hb74 hc346
                    refine W.seq (W.region ?_)
                    refine WL.val (Value.bool false) _ (op_assign rfl) rfl ?_
                    refine WL.nil ?_
                    show W _ _ _ _ _ _
                    refine W.ret ?_
                    obtain rfl := Option.some.inj hb74
                    obtain rfl := hret77 _ rfl
                    replace hb55 := onRes_ret hb55
                    obtain rfl := Option.some.inj hb55
                    obtain rfl := hret58 _ rfl
                    replace h := onRes_ret h
                    obtain rfl := Option.some.inj h
                    show FinP _ _ _ _ _ _ _
                    exact FinP.ret _ (res1 rfl rfl) ⟨rfl, (Ext.trans hE7 hS336.ext)⟩
                  · replace hb74 := inegb hb74 hc346
                    refine W.skip ?_
                    show W _ _ _ _ _ _
                    refine W.region ?_
                    refine WL.val (Value.int .i64 (k69 : Int)) _ (op_move e345) rfl ?_
                    refine WL.val (Value.int .i64 (w64 ((k69 : Int) + (1 : Int)))) _ (op_add rfl rfl) rfl ?_
                    refine WL.val (Value.int .i64 (w64 ((k69 : Int) + (1 : Int)))) _ (op_assign rfl) rfl ?_
                    refine WL.nil ?_
                    obtain rfl := Option.some.inj hb74
                    show ∃ s, _ = Ctl.next s ∧ _
                    exact ⟨_, rfl, e341, e342, e343, e344, (ctr_next hl85 hr9), (ctr_rng hl85 hr9), hS336⟩
              · intro s353 f349 wd350 hs351 hI352
                obtain ⟨⟩ := s353
                replace hI352 : f349 1 = v_x ∧ f349 2 = (Value.pointer (some ⟨b1, 0, none⟩)) ∧ f349 5 = (Value.int .i64 ((r_Table).length : Int)) ∧ f349 6 = (Value.int .i64 (k50 : Int)) ∧ f349 7 = Value.int .i64 (((r_Table).length : Nat) : Int) ∧ InR .i64 (((r_Table).length : Nat) : Int) ∧ St wd2 wd350 [] := hI352
                obtain ⟨hf354, hf355, hf356, hf357, hf358, hr359, hS360⟩ := hI352
                refine W.seq (W.seq (W.region ?_))
                refine WL.val (Value.int .i64 (((r_Table).length : Nat) : Int)) _ (op_move hf358) rfl ?_
                refine WL.val (Value.int .i64 ((r_Table).length : Int)) _ (op_move hf356) rfl ?_
                refine WL.val (Value.bool (decide ((((r_Table).length : Nat) : Int) < ((r_Table).length : Int)))) _ (op_lss rfl rfl) rfl ?_
                have hl361 : ¬ (((r_Table).length : Nat) : Int) < ((r_Table).length : Int) := by omega
                refine WL.nil ?_
                show W _ _ _ _ _ _
                refine W.condF (decide ((((r_Table).length : Nat) : Int) < ((r_Table).length : Int))) rfl (decide_eq_false hl361) ?_
                refine W.exit ?_
                show _ = _ ∧ _
                exact ⟨rfl, _, hs351, hf354, hf355, hf356, hf357, hS360⟩
            · rintro f362 wd363 ⟨s365, rfl, hq364⟩
              replace hb55 := onRes_fin hb55
              obtain ⟨⟩ := s365
              replace hq364 : f362 1 = v_x ∧ f362 2 = (Value.pointer (some ⟨b1, 0, none⟩)) ∧ f362 5 = (Value.int .i64 ((r_Table).length : Int)) ∧ f362 6 = (Value.int .i64 (k50 : Int)) ∧ St wd2 wd363 [] := hq364
              obtain ⟨hf366, hf367, hf368, hf369, hS370⟩ := hq364
              show W _ _ _ _ _ _
              refine W.region ?_
              refine WL.val (Value.int .i64 (k50 : Int)) _ (op_move hf369) rfl ?_
              refine WL.val (Value.int .i64 (w64 ((k50 : Int) + (1 : Int)))) _ (op_add rfl rfl) rfl ?_
              refine WL.val (Value.int .i64 (w64 ((k50 : Int) + (1 : Int)))) _ (op_assign rfl) rfl ?_
              refine WL.nil ?_
              obtain rfl := Option.some.inj hb55
              show ∃ s, _ = Ctl.next s ∧ _
              exact ⟨_, rfl, hf366, hf367, hf368, (ctr_next hl65 hr9), (ctr_rng hl65 hr9), hS370⟩
          · intro s377 f373 wd374 hs375 hI376
            obtain ⟨⟩ := s377
            replace hI376 : f373 1 = v_x ∧ f373 2 = (Value.pointer (some ⟨b1, 0, none⟩)) ∧ f373 5 = (Value.int .i64 ((r_Table).length : Int)) ∧ f373 6 = Value.int .i64 (((r_Table).length : Nat) : Int) ∧ InR .i64 (((r_Table).length : Nat) : Int) ∧ St wd2 wd374 [] := hI376
            obtain ⟨hf378, hf379, hf380, hf381, hr382, hS383⟩ := hI376
            refine W.seq (W.seq (W.region ?_))
            refine WL.val (Value.int .i64 (((r_Table).length : Nat) : Int)) _ (op_move hf381) rfl ?_
            refine WL.val (Value.int .i64 ((r_Table).length : Int)) _ (op_move hf380) rfl ?_
            refine WL.val (Value.bool (decide ((((r_Table).length : Nat) : Int) < ((r_Table).length : Int)))) _ (op_lss rfl rfl) rfl ?_
            have hl384 : ¬ (((r_Table).length : Nat) : Int) < ((r_Table).length : Int) := by omega
            refine WL.nil ?_
            show W _ _ _ _ _ _
            refine W.condF (decide ((((r_Table).length : Nat) : Int) < ((r_Table).length : Int))) rfl (decide_eq_false hl384) ?_
            refine W.exit ?_
            show _ = _ ∧ _
            exact ⟨rfl, _, hs375, hS383⟩
        · rintro f385 wd386 ⟨s388, rfl, hq387⟩
          replace h := onRes_fin h
          obtain ⟨⟩ := s388
          replace hq387 : St wd2 wd386 [] := hq387
          have hS389 := hq387
          show W _ _ _ _ _ _
          refine W.seq (W.region ?_)
          refine WL.val (Value.bool true) _ (op_assign rfl) rfl ?_
          refine WL.nil ?_
          show W _ _ _ _ _ _
          refine W.ret ?_
          obtain rfl := Option.some.inj h
          show FinP _ _ _ _ _ _ _
          exact FinP.ret _ (res1 rfl rfl) ⟨rfl, (Ext.trans hE7 hS389.ext)⟩

theorem c_spec_ProductCharacter {w : World} {r_Table : (List (List (List Int)))} {v_r_Table : Value} {s_Table : (List (List (List Int)))} {v_s_Table : Value} {x : (List Int)} {v_x : Value} {y : (List Int)} {v_y : Value} (r_r_Table : (Ty.sl (Ty.sl (Ty.sl (Ty.i .i64)))).rep w v_r_Table r_Table) (r_s_Table : (Ty.sl (Ty.sl (Ty.sl (Ty.i .i64)))).rep w v_s_Table s_Table) (r_x : (Ty.sl (Ty.i .i64)).rep w v_x x) (r_y : (Ty.sl (Ty.i .i64)).rep w v_y y) {res : (List Int) × Int} (h : p_spec_ProductCharacter r_Table s_Table x y  = some res) :
    Ret Try.prog 10 #[(Value.agg #[v_r_Table]), (Value.agg #[v_s_Table]), v_x, v_y] w (fun v w' => ∃ (u0 : Value), v = (Value.tuple #[u0, Value.int .i64 res.2]) ∧ InR .i64 res.2 ∧ Ext w w' ∧ Sep w.heap.size w' [(Ty.sl (Ty.i .i64)).at u0 res.1]) := by
  unfold p_spec_ProductCharacter at h
  have hS0 : St w w [] := St.start w
  refine Ret.start (fn := Try.f10) Try.func10 rfl 66 rfl rfl ?_
  refine W.seq (W.region ?_)
  refine WL.box hS0 rfl (cs := [v_r_Table]) rfl rfl ?_
  intro b1 wd2 hS3 he4 hx5
  replace hS3 : St w wd2 [bx b1 [v_r_Table]] := hS3
  have hx6 := St.boxAt hS3 0 rfl
  have hE7 : Ext w wd2 := hS3.ext
  have hS8 : St wd2 wd2 [] := St.start wd2
  refine WL.box hS8 rfl (cs := [v_s_Table]) rfl rfl ?_
  intro b9 wd10 hS11 he12 hx13
  replace hS11 : St wd2 wd10 [bx b9 [v_s_Table]] := hS11
  have hx14 := St.boxAt hS11 0 rfl
  have hE15 : Ext w wd10 := (Ext.trans hE7 hS11.ext)
  have hE16 : Ext wd2 wd10 := hS11.ext
  have hS17 : St wd10 wd10 [] := St.start wd10
  refine WL.val (Value.slice none 0 0) _ (op_assign rfl) rfl ?_
  refine WL.val (Value.int .i64 (0 : Int)) _ (op_assign rfl) rfl ?_
  refine WL.nil ?_
  show W _ _ _ _ _ _
  refine W.seq (W.seq (W.region ?_))
  refine WL.val (Value.agg #[v_r_Table]) _ (op_loadBox st_29 rfl (BoxAt.lift (Ext.trans hE16 hS17.ext) hx6) rfl rfl) rfl ?_
  obtain ⟨x18, hx19, h⟩ := bs h
  refine WL.call _ (op_call fn_35 (args1 rfl)) (c_spec_l03Is (Ty.lift _ (Ext.trans hE15 hS17.ext) r_r_Table) hx19) rfl ?_
  rintro _ wd20 ⟨rfl, he21⟩
  have hS23 := St.extend hS17 he21
  replace hS23 : St wd10 wd20 [] := hS23
  refine WL.val (Value.bool (!x18)) _ (op_not rfl) rfl ?_
  refine WL.val (Value.bool (!x18)) _ (op_move rfl) rfl ?_
  obtain ⟨x25, hj26, h⟩ := bs h
  refine WL.cut 4 (fun fq wq => fq 2 = v_x ∧ fq 3 = v_y ∧ fq 4 = (Value.pointer (some ⟨b1, 0, none⟩)) ∧ fq 5 = (Value.pointer (some ⟨b9, 0, none⟩)) ∧ fq 20 = Value.bool x25 ∧ St wd10 wq []) ?_ ?_
  · rcases Bool.eq_false_or_eq_true (!x18) with hc24 | hc24
    · replace hj26 := ip hj26 hc24
      refine WL.gskip rfl (bool_of rfl hc24) rfl ?_
      refine WL.gskip rfl (bool_of rfl hc24) rfl ?_
      refine WL.gskip rfl (bool_of rfl hc24) rfl ?_
      refine WL.val (Value.bool true) _ (op_pick_t (evb_of rfl hc24) rfl) rfl ?_
      refine WL.nil ?_
      obtain rfl := Option.some.inj hj26
      exact ⟨rfl, rfl, rfl, rfl, rfl, rfl, hS23⟩
    · replace hj26 := inegb hj26 hc24
      refine WL.grun rfl (bool_of rfl hc24) ?_
      refine WL.val (Value.agg #[v_s_Table]) _ (op_loadBox st_29 rfl (BoxAt.lift hS23.ext hx14) rfl rfl) rfl ?_
      refine WL.grun rfl (bool_of rfl hc24) ?_
      obtain ⟨x30, hx31, hj26⟩ := bs hj26
      refine WL.call _ (op_call fn_35 (args1 rfl)) (c_spec_l03Is (Ty.lift _ (Ext.trans hE15 hS23.ext) r_s_Table) hx31) rfl ?_
      rintro _ wd32 ⟨rfl, he33⟩
      have hS35 := St.extend hS23 he33
      replace hS35 : St wd10 wd32 [] := hS35
      refine WL.grun rfl (bool_of rfl hc24) ?_
      refine WL.val (Value.bool (!x30)) _ (op_not rfl) rfl ?_
      refine WL.val (Value.bool (!x30)) _ (op_pick_f (evb_of rfl hc24) rfl) rfl ?_
      refine WL.nil ?_
      obtain rfl := Option.some.inj hj26
      exact ⟨rfl, rfl, rfl, rfl, rfl, rfl, hS35⟩
  · intro f27 wd28 hq29
    obtain ⟨hf36, hf37, hf38, hf39, hf40, hS41⟩ := hq29
    refine WL.nil ?_
    show W _ _ _ _ _ _
    refine W.cond x25 hf40 (fun hc42 => ?_) (fun hc42 => ?_)
    · replace h := ip h hc42
      refine W.seq (W.region ?_)
      refine WL.val (Value.slice none 0 0) _ (op_assign rfl) rfl ?_
      refine WL.val (Value.int .i64 (1 : Int)) _ (op_assign rfl) rfl ?_
      refine WL.nil ?_
      show W _ _ _ _ _ _
      refine W.ret ?_
      obtain rfl := Option.some.inj h
      show FinP _ _ _ _ _ _ _
      exact FinP.ret _ (res2 rfl rfl rfl) ⟨(Value.slice none 0 0), rfl, (inR_i64.2 (show (-9223372036854775808 : Int) ≤ 1 ∧ (1 : Int) ≤ 9223372036854775807 from by decide)), (Ext.trans hE15 hS41.ext), (St.out (St.pick (St.addNil (Ty.i .i64) hS41) [0] rfl) (hE15))⟩
    · replace h := inegb h hc42
      refine W.skip ?_
      show W _ _ _ _ _ _
      refine W.seq (W.seq (W.region ?_))
      refine WL.val (Value.agg #[v_r_Table]) _ (op_loadBox st_29 hf38 (BoxAt.lift (Ext.trans hE16 hS41.ext) hx6) rfl rfl) rfl ?_
      obtain ⟨x44, hx45, h⟩ := bs h
      refine WL.call _ (op_call fn_36 (args1 rfl)) (c_spec_l03Commutative (Ty.lift _ (Ext.trans hE15 hS41.ext) r_r_Table) hx45) rfl ?_
      rintro _ wd46 ⟨rfl, he47⟩
      have hS49 := St.extend hS41 he47
      replace hS49 : St wd10 wd46 [] := hS49
      refine WL.val (Value.bool (!x44)) _ (op_not rfl) rfl ?_
      refine WL.val (Value.bool (!x44)) _ (op_move rfl) rfl ?_
      obtain ⟨x51, hj52, h⟩ := bs h
      refine WL.cut 4 (fun fq wq => fq 2 = v_x ∧ fq 3 = v_y ∧ fq 4 = (Value.pointer (some ⟨b1, 0, none⟩)) ∧ fq 5 = (Value.pointer (some ⟨b9, 0, none⟩)) ∧ fq 28 = Value.bool x51 ∧ St wd10 wq []) ?_ ?_
      · rcases Bool.eq_false_or_eq_true (!x44) with hc50 | hc50
        · replace hj52 := ip hj52 hc50
          refine WL.gskip rfl (bool_of rfl hc50) rfl ?_
          refine WL.gskip rfl (bool_of rfl hc50) rfl ?_
          refine WL.gskip rfl (bool_of rfl hc50) rfl ?_
          refine WL.val (Value.bool true) _ (op_pick_t (evb_of rfl hc50) rfl) rfl ?_
          refine WL.nil ?_
          obtain rfl := Option.some.inj hj52
          exact ⟨rfl, hf36, hf37, hf38, hf39, rfl, hS49⟩
        · replace hj52 := inegb hj52 hc50
          refine WL.grun rfl (bool_of rfl hc50) ?_
          refine WL.val (Value.agg #[v_s_Table]) _ (op_loadBox st_29 hf39 (BoxAt.lift hS49.ext hx14) rfl rfl) rfl ?_
          refine WL.grun rfl (bool_of rfl hc50) ?_
          obtain ⟨x56, hx57, hj52⟩ := bs hj52
          refine WL.call _ (op_call fn_36 (args1 rfl)) (c_spec_l03Commutative (Ty.lift _ (Ext.trans hE15 hS49.ext) r_s_Table) hx57) rfl ?_
          rintro _ wd58 ⟨rfl, he59⟩
          have hS61 := St.extend hS49 he59
          replace hS61 : St wd10 wd58 [] := hS61
          refine WL.grun rfl (bool_of rfl hc50) ?_
          refine WL.val (Value.bool (!x56)) _ (op_not rfl) rfl ?_
          refine WL.val (Value.bool (!x56)) _ (op_pick_f (evb_of rfl hc50) rfl) rfl ?_
          refine WL.nil ?_
          obtain rfl := Option.some.inj hj52
          exact ⟨rfl, hf36, hf37, hf38, hf39, rfl, hS61⟩
      · intro f53 wd54 hq55
        obtain ⟨hf62, hf63, hf64, hf65, hf66, hS67⟩ := hq55
        refine WL.nil ?_
        show W _ _ _ _ _ _
        refine W.cond x51 hf66 (fun hc68 => ?_) (fun hc68 => ?_)
        · replace h := ip h hc68
          refine W.seq (W.region ?_)
          refine WL.val (Value.slice none 0 0) _ (op_assign rfl) rfl ?_
          refine WL.val (Value.int .i64 (5 : Int)) _ (op_assign rfl) rfl ?_
          refine WL.nil ?_
          show W _ _ _ _ _ _
          refine W.ret ?_
          obtain rfl := Option.some.inj h
          show FinP _ _ _ _ _ _ _
          exact FinP.ret _ (res2 rfl rfl rfl) ⟨(Value.slice none 0 0), rfl, (inR_i64.2 (show (-9223372036854775808 : Int) ≤ 5 ∧ (5 : Int) ≤ 9223372036854775807 from by decide)), (Ext.trans hE15 hS67.ext), (St.out (St.pick (St.addNil (Ty.i .i64) hS67) [0] rfl) (hE15))⟩
        · replace h := inegb h hc68
          refine W.skip ?_
          show W _ _ _ _ _ _
          refine W.seq (W.seq (W.region ?_))
          refine WL.val (Value.agg #[v_r_Table]) _ (op_loadBox st_29 hf64 (BoxAt.lift (Ext.trans hE16 hS67.ext) hx6) rfl rfl) rfl ?_
          refine WL.val v_x _ (op_move hf62) rfl ?_
          obtain ⟨x70, hx71, h⟩ := bs h
          refine WL.call _ (op_call fn_37 (args2 rfl rfl)) (c_spec_l08Is (Ty.lift _ (Ext.trans hE15 hS67.ext) r_r_Table) (Ty.lift _ (Ext.trans hE15 hS67.ext) r_x) hx71) rfl ?_
          rintro _ wd72 ⟨rfl, he73⟩
          have hS75 := St.extend hS67 he73
          replace hS75 : St wd10 wd72 [] := hS75
          refine WL.val (Value.bool (!x70)) _ (op_not rfl) rfl ?_
          refine WL.val (Value.bool (!x70)) _ (op_move rfl) rfl ?_
          obtain ⟨x77, hj78, h⟩ := bs h
          refine WL.cut 5 (fun fq wq => fq 2 = v_x ∧ fq 3 = v_y ∧ fq 38 = Value.bool x77 ∧ St wd10 wq []) ?_ ?_
          · rcases Bool.eq_false_or_eq_true (!x70) with hc76 | hc76
            · replace hj78 := ip hj78 hc76
              refine WL.gskip rfl (bool_of rfl hc76) rfl ?_
              refine WL.gskip rfl (bool_of rfl hc76) rfl ?_
              refine WL.gskip rfl (bool_of rfl hc76) rfl ?_
              refine WL.gskip rfl (bool_of rfl hc76) rfl ?_
              refine WL.val (Value.bool true) _ (op_pick_t (evb_of rfl hc76) rfl) rfl ?_
              refine WL.nil ?_
              obtain rfl := Option.some.inj hj78
              exact ⟨rfl, hf62, hf63, rfl, hS75⟩
            · replace hj78 := inegb hj78 hc76
              refine WL.grun rfl (bool_of rfl hc76) ?_
              refine WL.val (Value.agg #[v_s_Table]) _ (op_loadBox st_29 hf65 (BoxAt.lift hS75.ext hx14) rfl rfl) rfl ?_
              refine WL.grun rfl (bool_of rfl hc76) ?_
              refine WL.val v_y _ (op_move hf63) rfl ?_
              refine WL.grun rfl (bool_of rfl hc76) ?_
              obtain ⟨x82, hx83, hj78⟩ := bs hj78
              refine WL.call _ (op_call fn_37 (args2 rfl rfl)) (c_spec_l08Is (Ty.lift _ (Ext.trans hE15 hS75.ext) r_s_Table) (Ty.lift _ (Ext.trans hE15 hS75.ext) r_y) hx83) rfl ?_
              rintro _ wd84 ⟨rfl, he85⟩
              have hS87 := St.extend hS75 he85
              replace hS87 : St wd10 wd84 [] := hS87
              refine WL.grun rfl (bool_of rfl hc76) ?_
              refine WL.val (Value.bool (!x82)) _ (op_not rfl) rfl ?_
              refine WL.val (Value.bool (!x82)) _ (op_pick_f (evb_of rfl hc76) rfl) rfl ?_
              refine WL.nil ?_
              obtain rfl := Option.some.inj hj78
              exact ⟨rfl, hf62, hf63, rfl, hS87⟩
          · intro f79 wd80 hq81
            obtain ⟨hf88, hf89, hf90, hS91⟩ := hq81
            refine WL.nil ?_
            show W _ _ _ _ _ _
            refine W.cond x77 hf90 (fun hc92 => ?_) (fun hc92 => ?_)
            · replace h := ip h hc92
              refine W.seq (W.region ?_)
              refine WL.val (Value.slice none 0 0) _ (op_assign rfl) rfl ?_
              refine WL.val (Value.int .i64 (2 : Int)) _ (op_assign rfl) rfl ?_
              refine WL.nil ?_
              show W _ _ _ _ _ _
              refine W.ret ?_
              obtain rfl := Option.some.inj h
              show FinP _ _ _ _ _ _ _
              exact FinP.ret _ (res2 rfl rfl rfl) ⟨(Value.slice none 0 0), rfl, (inR_i64.2 (show (-9223372036854775808 : Int) ≤ 2 ∧ (2 : Int) ≤ 9223372036854775807 from by decide)), (Ext.trans hE15 hS91.ext), (St.out (St.pick (St.addNil (Ty.i .i64) hS91) [0] rfl) (hE15))⟩
            · replace h := inegb h hc92
              refine W.skip ?_
              show W _ _ _ _ _ _
              refine W.seq (W.region ?_)
              refine WL.lit0 (t := (Ty.i .i64)) hS91 sl_25 rfl rfl ?_
              intro u94 wd95 hS96 he97
              replace hS96 : St wd10 wd95 [(Ty.sl (Ty.i .i64)).at u94 ([] : (List Int))] := hS96
              refine WL.val u94 _ (op_assign rfl) rfl ?_
              refine WL.nil ?_
              show W _ _ _ _ _ _
              refine W.seq (W.seq (W.region ?_))
              refine WL.val (Value.int .i64 (0 : Int)) _ (op_assign rfl) rfl ?_
              refine WL.nil ?_
              show W _ _ _ _ _ _
              obtain ⟨res98, hres99, h⟩ := bs h
              refine W.blockLoop (fun fq wq => ∃ s, res98 = Res.fin s ∧ ∃ (uu0 : Value), fq 10 = uu0 ∧ St wd10 wq [(Ty.sl (Ty.i .i64)).at uu0 s]) ?_ ?_
              · refine W.forN (fun k (s : (List Int)) fq wq => ∃ (uu0 : Value), fq 2 = v_x ∧ fq 3 = v_y ∧ fq 10 = uu0 ∧ fq 11 = Value.int .i64 (k : Int) ∧ InR .i64 (k : Int) ∧ St wd10 wq [(Ty.sl (Ty.i .i64)).at uu0 s]) hres99 ⟨u94, hf88, hf89, rfl, rfl, (inR_i64.2 (show (-9223372036854775808 : Int) ≤ 0 ∧ (0 : Int) ≤ 9223372036854775807 from by decide)), hS96⟩ ?_ ?_
                · intro k100 x101 ct102 f103 wd104 hk105 hb106 hI107 hbrk108 hret109
                  replace hI107 : ∃ (uu0 : Value), f103 2 = v_x ∧ f103 3 = v_y ∧ f103 10 = uu0 ∧ f103 11 = Value.int .i64 (k100 : Int) ∧ InR .i64 (k100 : Int) ∧ St wd10 wd104 [(Ty.sl (Ty.i .i64)).at uu0 x101] := hI107
                  replace hb106 : p_spec_ProductCharacter_L1 x y k100 x101 = some ct102 := hb106
                  unfold p_spec_ProductCharacter_L1 at hb106
                  obtain ⟨u110, hf111, hf112, hf113, hf114, hr115, hS116⟩ := hI107
                  refine W.seq (W.seq (W.region ?_))
                  refine WL.val (Value.int .i64 (k100 : Int)) _ (op_move hf114) rfl ?_
                  refine WL.val v_x _ (op_move hf111) rfl ?_
                  have hr117 := inR_len (Ty.lift _ (Ext.trans hE15 hS116.ext) r_x)
                  refine WL.val (Value.int .i64 ((x).length : Int)) _ (op_lenL sl_25 (Ty.lift _ (Ext.trans hE15 hS116.ext) r_x) rfl) rfl ?_
                  refine WL.val (Value.bool (decide ((k100 : Int) < ((x).length : Int)))) _ (op_lss rfl rfl) rfl ?_
                  have hl118 : (k100 : Int) < ((x).length : Int) := by omega
                  refine WL.nil ?_
                  show W _ _ _ _ _ _
                  refine W.condT (decide ((k100 : Int) < ((x).length : Int))) rfl (decide_eq_true hl118) ?_
                  refine W.skip ?_
                  show W _ _ _ _ _ _
                  refine W.seq ?_
                  refine W.block ?_
                  refine W.seq (W.region ?_)
                  refine WL.val (Value.int .i64 (0 : Int)) _ (op_assign rfl) rfl ?_
                  refine WL.nil ?_
                  show W _ _ _ _ _ _
                  obtain ⟨res120, hres121, hb106⟩ := bs hb106
                  refine W.blockLoop (fun fq wq => ∃ s, res120 = Res.fin s ∧ ∃ (uu0 : Value), fq 2 = v_x ∧ fq 3 = v_y ∧ fq 10 = uu0 ∧ fq 11 = (Value.int .i64 (k100 : Int)) ∧ St wd10 wq [(Ty.sl (Ty.i .i64)).at uu0 s]) ?_ ?_
                  · refine W.forN (fun k (s : (List Int)) fq wq => ∃ (uu0 : Value), fq 2 = v_x ∧ fq 3 = v_y ∧ fq 10 = uu0 ∧ fq 11 = (Value.int .i64 (k100 : Int)) ∧ fq 12 = Value.int .i64 (k : Int) ∧ InR .i64 (k : Int) ∧ St wd10 wq [(Ty.sl (Ty.i .i64)).at uu0 s]) hres121 ⟨u110, hf111, hf112, hf113, hf114, rfl, (inR_i64.2 (show (-9223372036854775808 : Int) ≤ 0 ∧ (0 : Int) ≤ 9223372036854775807 from by decide)), hS116⟩ ?_ ?_
                    · intro k122 x123 ct124 f125 wd126 hk127 hb128 hI129 hbrk130 hret131
                      replace hI129 : ∃ (uu0 : Value), f125 2 = v_x ∧ f125 3 = v_y ∧ f125 10 = uu0 ∧ f125 11 = (Value.int .i64 (k100 : Int)) ∧ f125 12 = Value.int .i64 (k122 : Int) ∧ InR .i64 (k122 : Int) ∧ St wd10 wd126 [(Ty.sl (Ty.i .i64)).at uu0 x123] := hI129
                      replace hb128 : p_spec_ProductCharacter_L2 x k100 y k122 x123 = some ct124 := hb128
                      unfold p_spec_ProductCharacter_L2 at hb128
                      obtain ⟨u132, hf133, hf134, hf135, hf136, hf137, hr138, hS139⟩ := hI129
                      refine W.seq (W.seq (W.region ?_))
                      refine WL.val (Value.int .i64 (k122 : Int)) _ (op_move hf137) rfl ?_
                      refine WL.val v_y _ (op_move hf134) rfl ?_
                      have hr140 := inR_len (Ty.lift _ (Ext.trans hE15 hS139.ext) r_y)
                      refine WL.val (Value.int .i64 ((y).length : Int)) _ (op_lenL sl_25 (Ty.lift _ (Ext.trans hE15 hS139.ext) r_y) rfl) rfl ?_
                      refine WL.val (Value.bool (decide ((k122 : Int) < ((y).length : Int)))) _ (op_lss rfl rfl) rfl ?_
                      have hl141 : (k122 : Int) < ((y).length : Int) := by omega
                      refine WL.nil ?_
                      show W _ _ _ _ _ _
                      refine W.condT (decide ((k122 : Int) < ((y).length : Int))) rfl (decide_eq_true hl141) ?_
                      refine W.skip ?_
                      show W _ _ _ _ _ _
                      refine W.seq ?_
                      refine W.block ?_
                      obtain ⟨x179, hx182, hb128⟩ := bs hb128
                      obtain ⟨ha180, hb181, hx182⟩ := idx_some hx182
                      obtain ⟨u193, hc194, hr195⟩ := repSl.el r_x hx182
                      obtain ⟨rfl, hr195⟩ := hr195
                      obtain ⟨x225, hx228, hb128⟩ := bs hb128
                      obtain ⟨ha226, hb227, hx228⟩ := idx_some hx228
                      obtain ⟨u239, hc240, hr241⟩ := repSl.el r_y hx228
                      obtain ⟨rfl, hr241⟩ := hr241
                      refine W.drawR mixo 12 [] [fun _ v _ _ => v = u132, fun _ v _ _ => v = v_x, fun _ v _ _ => v = (Value.int .i64 (k100 : Int)) ∧ InR .i64 (k100 : Int), fun _ v _ _ => v = (Value.pointer (some (elA v_x ((k100 : Int)).toNat))), fun _ v _ _ => v = (Value.int .i64 x179) ∧ InR .i64 x179, fun _ v _ _ => v = v_y, fun _ v _ _ => v = (Value.int .i64 (k122 : Int)) ∧ InR .i64 (k122 : Int), fun _ v _ _ => v = (Value.pointer (some (elA v_y ((k122 : Int)).toNat))), fun _ v _ _ => v = (Value.int .i64 x225) ∧ InR .i64 x225, fun _ v _ _ => v = (Value.int .i64 (w64 (x179 * x225))) ∧ InR .i64 (w64 (x179 * x225)), fun _ v _ _ => v = (Value.int .i64 (((w64 (x179 * x225))).tmod (55441 : Int))) ∧ InR .i64 (((w64 (x179 * x225))).tmod (55441 : Int)), fun _ v S w' => SepS S w' [(Ty.sl (Ty.i .i64)).at v ([(((w64 (x179 * x225))).tmod (55441 : Int))] : (List Int))]] (by kernel_rfl) (by kernel_rfl) ⟨⟨fun _ _ _ _ _ _ h => h, fun _ _ _ _ _ _ h => h⟩, ⟨fun _ _ _ _ _ _ h => h, fun _ _ _ _ _ _ h => h⟩, ⟨fun _ _ _ _ _ _ h => h, fun _ _ _ _ _ _ h => h⟩, ⟨fun _ _ _ _ _ _ h => h, fun _ _ _ _ _ _ h => h⟩, ⟨fun _ _ _ _ _ _ h => h, fun _ _ _ _ _ _ h => h⟩, ⟨fun _ _ _ _ _ _ h => h, fun _ _ _ _ _ _ h => h⟩, ⟨fun _ _ _ _ _ _ h => h, fun _ _ _ _ _ _ h => h⟩, ⟨fun _ _ _ _ _ _ h => h, fun _ _ _ _ _ _ h => h⟩, ⟨fun _ _ _ _ _ _ h => h, fun _ _ _ _ _ _ h => h⟩, ⟨fun _ _ _ _ _ _ h => h, fun _ _ _ _ _ _ h => h⟩, ⟨fun _ _ _ _ _ _ h => h, fun _ _ _ _ _ _ h => h⟩, ⟨fun _ _ _ _ _ he h => SepS.extend he h, fun _ _ _ _ _ _ h => h⟩, trivial⟩ ⟨?_, ?_, ?_, ?_, ?_, ?_, ?_, ?_, ?_, ?_, ?_, ?_, trivial⟩ ?_
                      · refine ObX.op rfl ?_
                        intro f143 wd144 he145 hout146 hphi147
                        have hS148 : St wd10 wd144 [(Ty.sl (Ty.i .i64)).at u132 x123] := St.extend hS139 he145
                        have e149 : f143 10 = u132 := (hout146 10 rfl).trans hf135
                        exact OpX.val u132 wd144 rfl (op_move e149) (Ext.refl _) rfl
                      · refine ObX.op rfl ?_
                        intro f150 wd151 he152 hout153 hphi154
                        have hS155 : St wd10 wd151 [(Ty.sl (Ty.i .i64)).at u132 x123] := St.extend hS139 he152
                        have e156 : f150 2 = v_x := (hout153 2 rfl).trans hf133
                        exact OpX.val v_x wd151 rfl (op_move e156) (Ext.refl _) rfl
                      · refine ObX.op rfl ?_
                        intro f157 wd158 he159 hout160 hphi161
                        have hS162 : St wd10 wd158 [(Ty.sl (Ty.i .i64)).at u132 x123] := St.extend hS139 he159
                        have e163 : f157 11 = (Value.int .i64 (k100 : Int)) := (hout160 11 rfl).trans hf136
                        exact OpX.val (Value.int .i64 (k100 : Int)) wd158 rfl (op_move e163) (Ext.refl _) ⟨rfl, hr115⟩
                      · refine ObX.op rfl ?_
                        intro f164 wd165 he166 hout167 hphi168
                        have hS169 : St wd10 wd165 [(Ty.sl (Ty.i .i64)).at u132 x123] := St.extend hS139 he166
                        obtain ⟨S170, hS171, hf172⟩ := hphi168 1 53 _ rfl rfl rfl
                        have e173 : f164 53 = v_x := hf172
                        obtain ⟨S174, hS175, hf176⟩ := hphi168 2 54 _ rfl rfl rfl
                        obtain ⟨e177, hr178⟩ : f164 54 = (Value.int .i64 (k100 : Int)) ∧ InR .i64 (k100 : Int) := hf176
                        exact OpX.val (Value.pointer (some (elA v_x ((k100 : Int)).toNat))) wd165 rfl (op_idx sl_25 (Ty.lift _ (Ext.trans hE15 hS169.ext) r_x) e173 e177 ha180 hb181) (Ext.refl _) rfl
                      · refine ObX.op rfl ?_
                        intro f183 wd184 he185 hout186 hphi187
                        have hS188 : St wd10 wd184 [(Ty.sl (Ty.i .i64)).at u132 x123] := St.extend hS139 he185
                        obtain ⟨S189, hS190, hf191⟩ := hphi187 3 55 _ rfl rfl rfl
                        have e192 : f183 55 = (Value.pointer (some (elA v_x ((k100 : Int)).toNat))) := hf191
                        exact OpX.val (Value.int .i64 x179) wd184 rfl (op_load one_2 e192 (Ext.cell (Ext.trans hE15 hS188.ext) hc194)) (Ext.refl _) ⟨rfl, hr195⟩
                      · refine ObX.op rfl ?_
                        intro f196 wd197 he198 hout199 hphi200
                        have hS201 : St wd10 wd197 [(Ty.sl (Ty.i .i64)).at u132 x123] := St.extend hS139 he198
                        have e202 : f196 3 = v_y := (hout199 3 rfl).trans hf134
                        exact OpX.val v_y wd197 rfl (op_move e202) (Ext.refl _) rfl
                      · refine ObX.op rfl ?_
                        intro f203 wd204 he205 hout206 hphi207
                        have hS208 : St wd10 wd204 [(Ty.sl (Ty.i .i64)).at u132 x123] := St.extend hS139 he205
                        have e209 : f203 12 = (Value.int .i64 (k122 : Int)) := (hout206 12 rfl).trans hf137
                        exact OpX.val (Value.int .i64 (k122 : Int)) wd204 rfl (op_move e209) (Ext.refl _) ⟨rfl, hr138⟩
                      · refine ObX.op rfl ?_
                        intro f210 wd211 he212 hout213 hphi214
                        have hS215 : St wd10 wd211 [(Ty.sl (Ty.i .i64)).at u132 x123] := St.extend hS139 he212
                        obtain ⟨S216, hS217, hf218⟩ := hphi214 5 57 _ rfl rfl rfl
                        have e219 : f210 57 = v_y := hf218
                        obtain ⟨S220, hS221, hf222⟩ := hphi214 6 58 _ rfl rfl rfl
                        obtain ⟨e223, hr224⟩ : f210 58 = (Value.int .i64 (k122 : Int)) ∧ InR .i64 (k122 : Int) := hf222
                        exact OpX.val (Value.pointer (some (elA v_y ((k122 : Int)).toNat))) wd211 rfl (op_idx sl_25 (Ty.lift _ (Ext.trans hE15 hS215.ext) r_y) e219 e223 ha226 hb227) (Ext.refl _) rfl
                      · refine ObX.op rfl ?_
                        intro f229 wd230 he231 hout232 hphi233
                        have hS234 : St wd10 wd230 [(Ty.sl (Ty.i .i64)).at u132 x123] := St.extend hS139 he231
                        obtain ⟨S235, hS236, hf237⟩ := hphi233 7 59 _ rfl rfl rfl
                        have e238 : f229 59 = (Value.pointer (some (elA v_y ((k122 : Int)).toNat))) := hf237
                        exact OpX.val (Value.int .i64 x225) wd230 rfl (op_load one_2 e238 (Ext.cell (Ext.trans hE15 hS234.ext) hc240)) (Ext.refl _) ⟨rfl, hr241⟩
                      · refine ObX.op rfl ?_
                        intro f242 wd243 he244 hout245 hphi246
                        have hS247 : St wd10 wd243 [(Ty.sl (Ty.i .i64)).at u132 x123] := St.extend hS139 he244
                        obtain ⟨S248, hS249, hf250⟩ := hphi246 4 56 _ rfl rfl rfl
                        obtain ⟨e251, hr252⟩ : f242 56 = (Value.int .i64 x179) ∧ InR .i64 x179 := hf250
                        obtain ⟨S253, hS254, hf255⟩ := hphi246 8 60 _ rfl rfl rfl
                        obtain ⟨e256, hr257⟩ : f242 60 = (Value.int .i64 x225) ∧ InR .i64 x225 := hf255
                        exact OpX.val (Value.int .i64 (w64 (x179 * x225))) wd243 rfl (op_mul e251 e256) (Ext.refl _) ⟨rfl, (inR_wrap _ _)⟩
                      · refine ObX.op rfl ?_
                        intro f258 wd259 he260 hout261 hphi262
                        have hS263 : St wd10 wd259 [(Ty.sl (Ty.i .i64)).at u132 x123] := St.extend hS139 he260
                        obtain ⟨S264, hS265, hf266⟩ := hphi262 9 61 _ rfl rfl rfl
                        obtain ⟨e267, hr268⟩ : f258 61 = (Value.int .i64 (w64 (x179 * x225))) ∧ InR .i64 (w64 (x179 * x225)) := hf266
                        exact OpX.val (Value.int .i64 (((w64 (x179 * x225))).tmod (55441 : Int))) wd259 rfl (op_rem (b := 55441) e267 rfl (by decide)) (Ext.refl _) ⟨rfl, (inR_tmod hr268)⟩
                      · refine ObX.op rfl ?_
                        intro f269 wd270 he271 hout272 hphi273
                        have hS274 : St wd10 wd270 [(Ty.sl (Ty.i .i64)).at u132 x123] := St.extend hS139 he271
                        obtain ⟨S275, hS276, hf277⟩ := hphi273 10 62 _ rfl rfl rfl
                        obtain ⟨e278, hr279⟩ : f269 62 = (Value.int .i64 (((w64 (x179 * x225))).tmod (55441 : Int))) ∧ InR .i64 (((w64 (x179 * x225))).tmod (55441 : Int)) := hf277
                        obtain ⟨v280, wd281, ho282, he283, hs284⟩ := mk_litFlat (P := Try.prog) (f := f269) (w := wd270) (T := 25) (m := 1) (ps := #[(0, Operand.tmp 62)]) (us := [(Value.int .i64 (((w64 (x179 * x225))).tmod (55441 : Int)))]) (t := (Ty.i .i64)) (flat_i .i64) ([(((w64 (x179 * x225))).tmod (55441 : Int))] : (List Int)) sl_25 rfl (Nat.le_of_ble_eq_true rfl) (fillL rfl ⟨rfl, e278, rfl, trivial⟩) rfl rfl (litL ⟨⟨rfl, hr279⟩, trivial⟩)
                        exact OpX.valO v280 wd281 rfl ho282 he283 (Sep.new hs284)
                      · intro f285 wd286 Ss287 he288 hout289 hSn290 hSd291 hphi292
                        show WL _ _ _ _ _ _ _
                        have hS293 : St wd10 wd286 [(Ty.sl (Ty.i .i64)).at u132 x123] := St.extend hS139 he288
                        have e294 : f285 52 = u132 := hphi292 0 52 _ (by decide) rfl rfl
                        have e295 : SepS (Ss287 11) wd286 [(Ty.sl (Ty.i .i64)).at (f285 63) ([(((w64 (x179 * x225))).tmod (55441 : Int))] : (List Int))] := hphi292 11 63 _ (by decide) rfl rfl
                        have e296 : f285 2 = v_x := (hout289 2 rfl).trans hf133
                        have e297 : f285 3 = v_y := (hout289 3 rfl).trans hf134
                        have e298 : f285 11 = (Value.int .i64 (k100 : Int)) := (hout289 11 rfl).trans hf136
                        have e299 : f285 12 = (Value.int .i64 (k122 : Int)) := (hout289 12 rfl).trans hf137
                        have hS300 := St.joinS hS139 he288 hSn290 (SepS.consS hSd291 rfl e295 SepS.nilS)
                        replace hS300 : St wd10 wd286 [(Ty.sl (Ty.i .i64)).at u132 x123, (Ty.sl (Ty.i .i64)).at (f285 63) ([(((w64 (x179 * x225))).tmod (55441 : Int))] : (List Int))] := hS300
                        obtain ⟨x301, hx302, hb128⟩ := bs hb128
                        refine WL.append (flat_i .i64) hS300 (k := 0) rfl sl_25 rfl rfl e294 rfl (St.rep (t := (Ty.sl (Ty.i .i64))) hS300 1 rfl) hx302 rfl ?_
                        intro u303 wd304 hS305 hz306
                        replace hS305 : St wd10 wd304 [(Ty.sl (Ty.i .i64)).at u303 x301, (Ty.sl (Ty.i .i64)).at (f285 63) ([(((w64 (x179 * x225))).tmod (55441 : Int))] : (List Int))] := hS305
                        refine WL.val u303 _ (op_assign rfl) rfl ?_
                        refine WL.nil ?_
                        show W _ _ _ _ _ _
                        refine W.region ?_
                        refine WL.val (Value.int .i64 (k122 : Int)) _ (op_move e299) rfl ?_
                        refine WL.val (Value.int .i64 (w64 ((k122 : Int) + (1 : Int)))) _ (op_add rfl rfl) rfl ?_
                        refine WL.val (Value.int .i64 (w64 ((k122 : Int) + (1 : Int)))) _ (op_assign rfl) rfl ?_
                        refine WL.nil ?_
                        obtain rfl := Option.some.inj hb128
                        show ∃ s, _ = Ctl.next s ∧ _
                        exact ⟨_, rfl, u303, e296, e297, rfl, e298, (ctr_next hl141 hr140), (ctr_rng hl141 hr140), (St.pick hS305 [0] rfl)⟩
                    · intro x313 f308 wd309 hs310 hI311
                      replace hI311 : ∃ (uu0 : Value), f308 2 = v_x ∧ f308 3 = v_y ∧ f308 10 = uu0 ∧ f308 11 = (Value.int .i64 (k100 : Int)) ∧ f308 12 = Value.int .i64 (((y).length : Nat) : Int) ∧ InR .i64 (((y).length : Nat) : Int) ∧ St wd10 wd309 [(Ty.sl (Ty.i .i64)).at uu0 x313] := hI311
                      obtain ⟨u314, hf315, hf316, hf317, hf318, hf319, hr320, hS321⟩ := hI311
                      refine W.seq (W.seq (W.region ?_))
                      refine WL.val (Value.int .i64 (((y).length : Nat) : Int)) _ (op_move hf319) rfl ?_
                      refine WL.val v_y _ (op_move hf316) rfl ?_
                      have hr322 := inR_len (Ty.lift _ (Ext.trans hE15 hS321.ext) r_y)
                      refine WL.val (Value.int .i64 ((y).length : Int)) _ (op_lenL sl_25 (Ty.lift _ (Ext.trans hE15 hS321.ext) r_y) rfl) rfl ?_
                      refine WL.val (Value.bool (decide ((((y).length : Nat) : Int) < ((y).length : Int)))) _ (op_lss rfl rfl) rfl ?_
                      have hl323 : ¬ (((y).length : Nat) : Int) < ((y).length : Int) := by omega
                      refine WL.nil ?_
                      show W _ _ _ _ _ _
                      refine W.condF (decide ((((y).length : Nat) : Int) < ((y).length : Int))) rfl (decide_eq_false hl323) ?_
                      refine W.exit ?_
                      show _ = _ ∧ _
                      exact ⟨rfl, _, hs310, u314, hf315, hf316, hf317, hf318, hS321⟩
                  · rintro f324 wd325 ⟨x328, rfl, hq326⟩
                    replace hb106 := onRes_fin hb106
                    replace hq326 : ∃ (uu0 : Value), f324 2 = v_x ∧ f324 3 = v_y ∧ f324 10 = uu0 ∧ f324 11 = (Value.int .i64 (k100 : Int)) ∧ St wd10 wd325 [(Ty.sl (Ty.i .i64)).at uu0 x328] := hq326
                    obtain ⟨u329, hf330, hf331, hf332, hf333, hS334⟩ := hq326
                    show W _ _ _ _ _ _
                    refine W.region ?_
                    refine WL.val (Value.int .i64 (k100 : Int)) _ (op_move hf333) rfl ?_
                    refine WL.val (Value.int .i64 (w64 ((k100 : Int) + (1 : Int)))) _ (op_add rfl rfl) rfl ?_
                    refine WL.val (Value.int .i64 (w64 ((k100 : Int) + (1 : Int)))) _ (op_assign rfl) rfl ?_
                    refine WL.nil ?_
                    obtain rfl := Option.some.inj hb106
                    show ∃ s, _ = Ctl.next s ∧ _
                    exact ⟨_, rfl, u329, hf330, hf331, hf332, (ctr_next hl118 hr117), (ctr_rng hl118 hr117), hS334⟩
                · intro x342 f337 wd338 hs339 hI340
                  replace hI340 : ∃ (uu0 : Value), f337 2 = v_x ∧ f337 3 = v_y ∧ f337 10 = uu0 ∧ f337 11 = Value.int .i64 (((x).length : Nat) : Int) ∧ InR .i64 (((x).length : Nat) : Int) ∧ St wd10 wd338 [(Ty.sl (Ty.i .i64)).at uu0 x342] := hI340
                  obtain ⟨u343, hf344, hf345, hf346, hf347, hr348, hS349⟩ := hI340
                  refine W.seq (W.seq (W.region ?_))
                  refine WL.val (Value.int .i64 (((x).length : Nat) : Int)) _ (op_move hf347) rfl ?_
                  refine WL.val v_x _ (op_move hf344) rfl ?_
                  have hr350 := inR_len (Ty.lift _ (Ext.trans hE15 hS349.ext) r_x)
                  refine WL.val (Value.int .i64 ((x).length : Int)) _ (op_lenL sl_25 (Ty.lift _ (Ext.trans hE15 hS349.ext) r_x) rfl) rfl ?_
                  refine WL.val (Value.bool (decide ((((x).length : Nat) : Int) < ((x).length : Int)))) _ (op_lss rfl rfl) rfl ?_
                  have hl351 : ¬ (((x).length : Nat) : Int) < ((x).length : Int) := by omega
                  refine WL.nil ?_
                  show W _ _ _ _ _ _
                  refine W.condF (decide ((((x).length : Nat) : Int) < ((x).length : Int))) rfl (decide_eq_false hl351) ?_
                  refine W.exit ?_
                  show _ = _ ∧ _
                  exact ⟨rfl, _, hs339, u343, hf346, hS349⟩
              · rintro f352 wd353 ⟨x356, rfl, hq354⟩
                replace h := onRes_fin h
                replace hq354 : ∃ (uu0 : Value), f352 10 = uu0 ∧ St wd10 wd353 [(Ty.sl (Ty.i .i64)).at uu0 x356] := hq354
                obtain ⟨u357, hf358, hS359⟩ := hq354
                show W _ _ _ _ _ _
                refine W.seq (W.region ?_)
                refine WL.val u357 _ (op_move hf358) rfl ?_
                refine WL.val u357 _ (op_assign rfl) rfl ?_
                refine WL.val (Value.int .i64 (0 : Int)) _ (op_assign rfl) rfl ?_
                refine WL.nil ?_
                show W _ _ _ _ _ _
                refine W.ret ?_
                obtain rfl := Option.some.inj h
                show FinP _ _ _ _ _ _ _
                exact FinP.ret _ (res2 rfl rfl rfl) ⟨u357, rfl, (inR_i64.2 (show (-9223372036854775808 : Int) ≤ 0 ∧ (0 : Int) ≤ 9223372036854775807 from by decide)), (Ext.trans hE15 hS359.ext), (St.out (St.pick hS359 [0] rfl) (hE15))⟩

theorem c_impl_within {w : World} {n : Int} {low : Int} {high : Int} (r_n : InR .i64 n) (r_low : InR .i64 low) (r_high : InR .i64 high) {res : Bool} (h : p_impl_within n low high  = some res) :
    Ret Try.prog 62 #[(Value.int .i64 n), (Value.int .i64 low), (Value.int .i64 high)] w (fun v w' => v = Value.bool res ∧ Ext w w') := by
  unfold p_impl_within at h
  have hS0 : St w w [] := St.start w
  refine Ret.start (fn := Try.f62) Try.func62 rfl 15 rfl rfl ?_
  refine W.seq (W.region ?_)
  refine WL.val (Value.bool false) _ (op_assign rfl) rfl ?_
  refine WL.nil ?_
  show W _ _ _ _ _ _
  refine W.seq (W.region ?_)
  refine WL.val (Value.int .i64 n) _ (op_move rfl) rfl ?_
  refine WL.val (Value.int .i64 low) _ (op_move rfl) rfl ?_
  refine WL.val (Value.bool (decide (n ≥ low))) _ (op_geq rfl rfl) rfl ?_
  refine WL.val (Value.bool (decide (n ≥ low))) _ (op_move rfl) rfl ?_
  refine WL.cut 4 (fun fq wq => fq 14 = (Value.bool ((decide (n ≥ low)) && (decide (n ≤ high)))) ∧ St w wq []) ?_ ?_
  · rcases Bool.eq_false_or_eq_true (decide (n ≥ low)) with hc1 | hc1
    · refine WL.grun rfl (bool_of rfl hc1) ?_
      refine WL.val (Value.int .i64 n) _ (op_move rfl) rfl ?_
      refine WL.grun rfl (bool_of rfl hc1) ?_
      refine WL.val (Value.int .i64 high) _ (op_move rfl) rfl ?_
      refine WL.grun rfl (bool_of rfl hc1) ?_
      refine WL.val (Value.bool (decide (n ≤ high))) _ (op_leq rfl rfl) rfl ?_
      refine WL.val (Value.bool (decide (n ≤ high))) _ (op_pick_t (evb_of rfl hc1) rfl) rfl ?_
      refine WL.nil ?_
      exact ⟨rfl, (andT hc1), hS0⟩
    · refine WL.gskip rfl (bool_of rfl hc1) rfl ?_
      refine WL.gskip rfl (bool_of rfl hc1) rfl ?_
      refine WL.gskip rfl (bool_of rfl hc1) rfl ?_
      refine WL.val (Value.bool false) _ (op_pick_f (evb_of rfl hc1) rfl) rfl ?_
      refine WL.nil ?_
      exact ⟨rfl, (andF hc1), hS0⟩
  · intro f2 wd3 hq4
    obtain ⟨hf5, hS6⟩ := hq4
    refine WL.val (Value.bool ((decide (n ≥ low)) && (decide (n ≤ high)))) _ (op_assign hf5) rfl ?_
    refine WL.nil ?_
    show W _ _ _ _ _ _
    refine W.ret ?_
    obtain rfl := Option.some.inj h
    show FinP _ _ _ _ _ _ _
    exact FinP.ret _ (res1 rfl rfl) ⟨rfl, hS6.ext⟩

theorem c_impl_allWithin_c1 {w : World} {n : Int} {b_c0 : Nat} {c0 : Int} {b_c1 : Nat} {c1 : Int} (r_n : InR .i64 n) (k_c0 : BoxAt w b_c0 [(Value.int .i64 c0)]) (r_c0 : InR .i64 c0) (k_c1 : BoxAt w b_c1 [(Value.int .i64 c1)]) (r_c1 : InR .i64 c1) {res : Bool} (h : p_impl_allWithin_c1 n c0 c1 = some res) :
    Ret Try.prog 100 #[(Value.int .i64 n), (Value.pointer (some ⟨b_c0, 0, none⟩)), (Value.pointer (some ⟨b_c1, 0, none⟩))] w (fun v w' => v = Value.bool res ∧ Ext w w') := by
  unfold p_impl_allWithin_c1 at h
  have hS0 : St w w [] := St.start w
  refine Ret.start (fn := Try.f100) Try.func100 rfl 10 rfl rfl ?_
  refine W.seq (W.region ?_)
  refine WL.val (Value.bool false) _ (op_assign rfl) rfl ?_
  refine WL.nil ?_
  show W _ _ _ _ _ _
  refine W.seq (W.region ?_)
  refine WL.val (Value.int .i64 n) _ (op_move rfl) rfl ?_
  refine WL.val (Value.int .i64 c0) _ (op_load one_2 rfl (BoxAt.cell (BoxAt.lift hS0.ext k_c0) rfl)) rfl ?_
  refine WL.val (Value.int .i64 c1) _ (op_load one_2 rfl (BoxAt.cell (BoxAt.lift hS0.ext k_c1) rfl)) rfl ?_
  obtain ⟨x1, hx2, h⟩ := bs h
  refine WL.call _ (op_call fn_62 (args3 rfl rfl rfl)) (c_impl_within r_n r_c0 r_c1 hx2) rfl ?_
  rintro _ wd3 ⟨rfl, he4⟩
  have hS6 := St.extend hS0 he4
  replace hS6 : St w wd3 [] := hS6
  refine WL.val (Value.bool (!x1)) _ (op_not rfl) rfl ?_
  refine WL.val (Value.bool (!x1)) _ (op_assign rfl) rfl ?_
  refine WL.nil ?_
  show W _ _ _ _ _ _
  refine W.ret ?_
  obtain rfl := Option.some.inj h
  show FinP _ _ _ _ _ _ _
  exact FinP.ret _ (res1 rfl rfl) ⟨rfl, hS6.ext⟩

theorem c_slices_IndexFunc_Lint64_int64 {w : World} {s1 : (List Int)} {v_s1 : Value} {f1 : Int → Option Bool} {v_f1 : Value} (r_s1 : (Ty.sl (Ty.i .i64)).rep w v_s1 s1) (r_f1 : FnT_i_to_b Try.prog v_f1 w f1) {res : Int} (h : p_slices_IndexFunc_Lint64_int64 s1 f1  = some res) :
    Ret Try.prog 104 #[v_s1, v_f1] w (fun v w' => v = Value.int .i64 res ∧ InR .i64 res ∧ Ext w w') := by
  unfold p_slices_IndexFunc_Lint64_int64 at h
  have hS0 : St w w [] := St.start w
  have q_f1 := r_f1
  obtain ⟨g_f1, fst_f1, cap_f1, eq_f1, ok_f1, call_f1⟩ := q_f1
  subst eq_f1
  refine Ret.start (fn := Try.f104) Try.func104 rfl 19 rfl rfl ?_
  refine W.seq (W.region ?_)
  refine WL.val (Value.int .i64 (0 : Int)) _ (op_assign rfl) rfl ?_
  refine WL.nil ?_
  show W _ _ _ _ _ _
  refine W.seq (W.seq (W.region ?_))
  refine WL.val v_s1 _ (op_move rfl) rfl ?_
  have hr1 := inR_len (Ty.lift _ hS0.ext r_s1)
  refine WL.val (Value.int .i64 ((s1).length : Int)) _ (op_lenL sl_25 (Ty.lift _ hS0.ext r_s1) rfl) rfl ?_
  refine WL.val (Value.int .i64 (0 : Int)) _ (op_move rfl) rfl ?_
  refine WL.nil ?_
  show W _ _ _ _ _ _
  obtain ⟨res2, hres3, h⟩ := bs h
  refine W.blockLoop (fun fq wq => ∃ s, res2 = Res.fin s ∧ St w wq []) ?_ ?_
  · refine W.forN (fun k (s : Unit) fq wq => fq 0 = v_s1 ∧ fq 1 = (Value.func (.func g_f1) fst_f1 cap_f1) ∧ fq 7 = (Value.int .i64 ((s1).length : Int)) ∧ fq 8 = Value.int .i64 (k : Int) ∧ InR .i64 (k : Int) ∧ St w wq []) hres3 ⟨rfl, rfl, rfl, rfl, (inR_i64.2 (show (-9223372036854775808 : Int) ≤ 0 ∧ (0 : Int) ≤ 9223372036854775807 from by decide)), hS0⟩ ?_ ?_
    · intro k4 s36 ct5 f6 wd7 hk8 hb9 hI10 hbrk11 hret12
      obtain ⟨⟩ := s36
      replace hI10 : f6 0 = v_s1 ∧ f6 1 = (Value.func (.func g_f1) fst_f1 cap_f1) ∧ f6 7 = (Value.int .i64 ((s1).length : Int)) ∧ f6 8 = Value.int .i64 (k4 : Int) ∧ InR .i64 (k4 : Int) ∧ St w wd7 [] := hI10
      replace hb9 : p_slices_IndexFunc_Lint64_int64_L1 s1 f1 k4  = some ct5 := hb9
      unfold p_slices_IndexFunc_Lint64_int64_L1 at hb9
      obtain ⟨hf13, hf14, hf15, hf16, hr17, hS18⟩ := hI10
      refine W.seq (W.region ?_)
      refine WL.val (Value.bool (decide ((k4 : Int) < ((s1).length : Int)))) _ (op_lss hf16 hf15) rfl ?_
      have hl19 : (k4 : Int) < ((s1).length : Int) := by omega
      refine WL.nil ?_
      show W _ _ _ _ _ _
      refine W.seq ?_
      refine W.condT (decide ((k4 : Int) < ((s1).length : Int))) rfl (decide_eq_true hl19) ?_
      refine W.skip ?_
      show W _ _ _ _ _ _
      refine W.seq ?_
      refine W.block ?_
      refine W.seq (W.region ?_)
      refine WL.val (Value.int .i64 (k4 : Int)) _ (op_move hf16) rfl ?_
      refine WL.val (Value.int .i64 (k4 : Int)) _ (op_assign rfl) rfl ?_
      refine WL.nil ?_
      show W _ _ _ _ _ _
      refine W.seq (W.region ?_)
      refine WL.val (Value.func (.func g_f1) fst_f1 cap_f1) _ (op_move hf14) rfl ?_
      refine WL.val v_s1 _ (op_move hf13) rfl ?_
      refine WL.val (Value.int .i64 (k4 : Int)) _ (op_move rfl) rfl ?_
      obtain ⟨x21, hx24, hb9⟩ := bs hb9
      obtain ⟨ha22, hb23, hx24⟩ := idx_some hx24
      refine WL.val (Value.pointer (some (elA v_s1 ((k4 : Int)).toNat))) _ (op_idx sl_25 (Ty.lift _ hS18.ext r_s1) rfl rfl ha22 hb23) rfl ?_
      obtain ⟨u25, hc26, hr27⟩ := repSl.el r_s1 hx24
      obtain ⟨rfl, hr27⟩ := hr27
      refine WL.val (Value.int .i64 x21) _ (op_load one_2 rfl (Ext.cell hS18.ext hc26)) rfl ?_
      obtain ⟨x28, hx29, hb9⟩ := bs hb9
      refine WL.call _ (op_callV rfl ok_f1 (args1 rfl)) (call_f1 wd7 x21 x28 hS18.ext hr27 hx29) rfl ?_
      rintro _ wd30 ⟨rfl, he31⟩
      have hS33 := St.extend hS18 he31
      refine WL.nil ?_
      show W _ _ _ _ _ _
      refine W.cond x28 rfl (fun hc34 => ?_) (fun hc34 => ?_)
      · replace hb9 := ip hb9 hc34
        refine W.seq (W.region ?_)
        refine WL.val (Value.int .i64 (k4 : Int)) _ (op_move rfl) rfl ?_
        refine WL.val (Value.int .i64 (k4 : Int)) _ (op_assign rfl) rfl ?_
        refine WL.nil ?_
        show W _ _ _ _ _ _
        refine W.ret ?_
        obtain rfl := Option.some.inj hb9
        obtain rfl := hret12 _ rfl
        replace h := onRes_ret h
        obtain rfl := Option.some.inj h
        show FinP _ _ _ _ _ _ _
        exact FinP.ret _ (res1 rfl rfl) ⟨rfl, hr17, hS33.ext⟩
      · replace hb9 := inegb hb9 hc34
        refine W.skip ?_
        show W _ _ _ _ _ _
        refine W.region ?_
        refine WL.val (Value.int .i64 (w64 ((k4 : Int) + (1 : Int)))) _ (op_add hf16 rfl) rfl ?_
        refine WL.val (Value.int .i64 (w64 ((k4 : Int) + (1 : Int)))) _ (op_move rfl) rfl ?_
        refine WL.nil ?_
        obtain rfl := Option.some.inj hb9
        show ∃ s, _ = Ctl.next s ∧ _
        exact ⟨_, rfl, hf13, hf14, hf15, (ctr_next hl19 hr1), (ctr_rng hl19 hr1), hS33⟩
    · intro s41 f37 wd38 hs39 hI40
      obtain ⟨⟩ := s41
      replace hI40 : f37 0 = v_s1 ∧ f37 1 = (Value.func (.func g_f1) fst_f1 cap_f1) ∧ f37 7 = (Value.int .i64 ((s1).length : Int)) ∧ f37 8 = Value.int .i64 (((s1).length : Nat) : Int) ∧ InR .i64 (((s1).length : Nat) : Int) ∧ St w wd38 [] := hI40
      obtain ⟨hf42, hf43, hf44, hf45, hr46, hS47⟩ := hI40
      refine W.seq (W.region ?_)
      refine WL.val (Value.bool (decide ((((s1).length : Nat) : Int) < ((s1).length : Int)))) _ (op_lss hf45 hf44) rfl ?_
      have hl48 : ¬ (((s1).length : Nat) : Int) < ((s1).length : Int) := by omega
      refine WL.nil ?_
      show W _ _ _ _ _ _
      refine W.seq ?_
      refine W.condF (decide ((((s1).length : Nat) : Int) < ((s1).length : Int))) rfl (decide_eq_false hl48) ?_
      refine W.exit ?_
      show _ = _ ∧ _
      exact ⟨rfl, _, hs39, hS47⟩
  · rintro f49 wd50 ⟨s52, rfl, hq51⟩
    replace h := onRes_fin h
    obtain ⟨⟩ := s52
    replace hq51 : St w wd50 [] := hq51
    have hS53 := hq51
    show W _ _ _ _ _ _
    refine W.seq (W.region ?_)
    refine WL.val (Value.int .i64 (-1 : Int)) _ (op_assign rfl) rfl ?_
    refine WL.nil ?_
    show W _ _ _ _ _ _
    refine W.ret ?_
    obtain rfl := Option.some.inj h
    show FinP _ _ _ _ _ _ _
    exact FinP.ret _ (res1 rfl rfl) ⟨rfl, (inR_i64.2 (show (-9223372036854775808 : Int) ≤ -1 ∧ (-1 : Int) ≤ 9223372036854775807 from by decide)), hS53.ext⟩

theorem c_slices_ContainsFunc_Lint64_int64 {w : World} {s1 : (List Int)} {v_s1 : Value} {f1 : Int → Option Bool} {v_f1 : Value} (r_s1 : (Ty.sl (Ty.i .i64)).rep w v_s1 s1) (r_f1 : FnT_i_to_b Try.prog v_f1 w f1) {res : Bool} (h : p_slices_ContainsFunc_Lint64_int64 s1 f1  = some res) :
    Ret Try.prog 99 #[v_s1, v_f1] w (fun v w' => v = Value.bool res ∧ Ext w w') := by
  unfold p_slices_ContainsFunc_Lint64_int64 at h
  have hS0 : St w w [] := St.start w
  have q_f1 := r_f1
  obtain ⟨g_f1, fst_f1, cap_f1, eq_f1, ok_f1, call_f1⟩ := q_f1
  subst eq_f1
  refine Ret.start (fn := Try.f99) Try.func99 rfl 9 rfl rfl ?_
  refine W.seq (W.region ?_)
  refine WL.val (Value.bool false) _ (op_assign rfl) rfl ?_
  refine WL.nil ?_
  show W _ _ _ _ _ _
  refine W.seq (W.region ?_)
  refine WL.val v_s1 _ (op_move rfl) rfl ?_
  refine WL.val (Value.func (.func g_f1) fst_f1 cap_f1) _ (op_move rfl) rfl ?_
  obtain ⟨x1, hx2, h⟩ := bs h
  refine WL.call _ (op_call fn_104 (args2 rfl rfl)) (c_slices_IndexFunc_Lint64_int64 (Ty.lift _ hS0.ext r_s1) (FnT_i_to_b.lift hS0.ext r_f1) hx2) rfl ?_
  rintro _ wd4 ⟨rfl, hr3, he5⟩
  have hS7 := St.extend hS0 he5
  replace hS7 : St w wd4 [] := hS7
  refine WL.val (Value.bool (decide (x1 ≥ (0 : Int)))) _ (op_geq rfl rfl) rfl ?_
  refine WL.val (Value.bool (decide (x1 ≥ (0 : Int)))) _ (op_assign rfl) rfl ?_
  refine WL.nil ?_
  show W _ _ _ _ _ _
  refine W.ret ?_
  obtain rfl := Option.some.inj h
  show FinP _ _ _ _ _ _ _
  exact FinP.ret _ (res1 rfl rfl) ⟨rfl, hS7.ext⟩

theorem c_impl_allWithin {w : World} {list : (List Int)} {v_list : Value} {low : Int} {high : Int} (r_list : (Ty.sl (Ty.i .i64)).rep w v_list list) (r_low : InR .i64 low) (r_high : InR .i64 high) {res : Bool} (h : p_impl_allWithin list low high  = some res) :
    Ret Try.prog 82 #[v_list, (Value.int .i64 low), (Value.int .i64 high)] w (fun v w' => v = Value.bool res ∧ Ext w w') := by
  unfold p_impl_allWithin at h
  have hS0 : St w w [] := St.start w
  refine Ret.start (fn := Try.f82) Try.func82 rfl 11 rfl rfl ?_
  refine W.seq (W.region ?_)
  refine WL.box hS0 rfl (cs := [(Value.int .i64 low)]) rfl rfl ?_
  intro b1 wd2 hS3 he4 hx5
  replace hS3 : St w wd2 [bx b1 [(Value.int .i64 low)]] := hS3
  have hx6 := St.boxAt hS3 0 rfl
  have hE7 : Ext w wd2 := hS3.ext
  have hS8 : St wd2 wd2 [] := St.start wd2
  refine WL.box hS8 rfl (cs := [(Value.int .i64 high)]) rfl rfl ?_
  intro b9 wd10 hS11 he12 hx13
  replace hS11 : St wd2 wd10 [bx b9 [(Value.int .i64 high)]] := hS11
  have hx14 := St.boxAt hS11 0 rfl
  have hE15 : Ext w wd10 := (Ext.trans hE7 hS11.ext)
  have hE16 : Ext wd2 wd10 := hS11.ext
  have hS17 : St wd10 wd10 [] := St.start wd10
  refine WL.val (Value.bool false) _ (op_assign rfl) rfl ?_
  refine WL.nil ?_
  show W _ _ _ _ _ _
  refine W.seq (W.region ?_)
  refine WL.val v_list _ (op_move rfl) rfl ?_
  refine WL.val (Value.func (.func 100) #[] #[(Value.pointer (some ⟨b1, 0, none⟩)), (Value.pointer (some ⟨b9, 0, none⟩))]) _ (op_makeFunc (va := #[]) (vb := #[(Value.pointer (some ⟨b1, 0, none⟩)), (Value.pointer (some ⟨b9, 0, none⟩))]) args0 (args2 rfl rfl)) rfl ?_
  obtain ⟨x22, hx23, h⟩ := bs h
  refine WL.call _ (op_call fn_99 (args2 rfl rfl)) (c_slices_ContainsFunc_Lint64_int64 (Ty.lift _ (Ext.trans hE15 hS17.ext) r_list) (⟨100, #[], #[(Value.pointer (some ⟨b1, 0, none⟩)), (Value.pointer (some ⟨b9, 0, none⟩))], rfl, fn_100, fun wd18 a0_19 r20 he19 ra0_19 hq21 => c_impl_allWithin_c1 ra0_19 (BoxAt.lift (Ext.trans (Ext.trans hE16 hS17.ext) he19) hx6) r_low (BoxAt.lift (Ext.trans hS17.ext he19) hx14) r_high hq21⟩) hx23) rfl ?_
  rintro _ wd24 ⟨rfl, he25⟩
  have hS27 := St.extend hS17 he25
  replace hS27 : St wd10 wd24 [] := hS27
  refine WL.val (Value.bool (!x22)) _ (op_not rfl) rfl ?_
  refine WL.val (Value.bool (!x22)) _ (op_assign rfl) rfl ?_
  refine WL.nil ?_
  show W _ _ _ _ _ _
  refine W.ret ?_
  obtain rfl := Option.some.inj h
  show FinP _ _ _ _ _ _ _
  exact FinP.ret _ (res1 rfl rfl) ⟨rfl, (Ext.trans hE15 hS27.ext)⟩

theorem c_impl_isCube_c1 {w : World} {row : (List Int)} {v_row : Value} {b_c0 : Nat} {c0 : Int} (r_row : (Ty.sl (Ty.i .i64)).rep w v_row row) (k_c0 : BoxAt w b_c0 [(Value.int .i64 c0)]) (r_c0 : InR .i64 c0) {res : Bool} (h : p_impl_isCube_c1 row c0 = some res) :
    Ret Try.prog 87 #[v_row, (Value.pointer (some ⟨b_c0, 0, none⟩))] w (fun v w' => v = Value.bool res ∧ Ext w w') := by
  unfold p_impl_isCube_c1 at h
  have hS0 : St w w [] := St.start w
  refine Ret.start (fn := Try.f87) Try.func87 rfl 13 rfl rfl ?_
  refine W.seq (W.region ?_)
  refine WL.val (Value.bool false) _ (op_assign rfl) rfl ?_
  refine WL.nil ?_
  show W _ _ _ _ _ _
  refine W.seq (W.region ?_)
  refine WL.val v_row _ (op_move rfl) rfl ?_
  have hr1 := inR_len (Ty.lift _ hS0.ext r_row)
  refine WL.val (Value.int .i64 ((row).length : Int)) _ (op_lenL sl_25 (Ty.lift _ hS0.ext r_row) rfl) rfl ?_
  refine WL.val (Value.int .i64 c0) _ (op_load one_3 rfl (BoxAt.cell (BoxAt.lift hS0.ext k_c0) rfl)) rfl ?_
  refine WL.val (Value.bool (((row).length : Int) != c0)) _ (op_neq rfl rfl) rfl ?_
  refine WL.val (Value.bool (((row).length : Int) != c0)) _ (op_move rfl) rfl ?_
  obtain ⟨x3, hj4, h⟩ := bs h
  refine WL.cut 4 (fun fq wq => fq 12 = Value.bool x3 ∧ St w wq []) ?_ ?_
  · rcases Bool.eq_false_or_eq_true (((row).length : Int) != c0) with hc2 | hc2
    · replace hj4 := ip hj4 hc2
      refine WL.gskip rfl (bool_of rfl hc2) rfl ?_
      refine WL.gskip rfl (bool_of rfl hc2) rfl ?_
      refine WL.gskip rfl (bool_of rfl hc2) rfl ?_
      refine WL.val (Value.bool true) _ (op_pick_t (evb_of rfl hc2) rfl) rfl ?_
      refine WL.nil ?_
      obtain rfl := Option.some.inj hj4
      exact ⟨rfl, rfl, hS0⟩
    · replace hj4 := inegb hj4 hc2
      refine WL.grun rfl (bool_of rfl hc2) ?_
      refine WL.val v_row _ (op_move rfl) rfl ?_
      refine WL.grun rfl (bool_of rfl hc2) ?_
      obtain ⟨x8, hx9, hj4⟩ := bs hj4
      refine WL.call _ (op_call fn_82 (args3 rfl rfl rfl)) (c_impl_allWithin (Ty.lift _ hS0.ext r_row) (inR_i64.2 (show (-9223372036854775808 : Int) ≤ 0 ∧ (0 : Int) ≤ 9223372036854775807 from by decide)) (inR_i64.2 (show (-9223372036854775808 : Int) ≤ 1000 ∧ (1000 : Int) ≤ 9223372036854775807 from by decide)) hx9) rfl ?_
      rintro _ wd10 ⟨rfl, he11⟩
      have hS13 := St.extend hS0 he11
      replace hS13 : St w wd10 [] := hS13
      refine WL.grun rfl (bool_of rfl hc2) ?_
      refine WL.val (Value.bool (!x8)) _ (op_not rfl) rfl ?_
      refine WL.val (Value.bool (!x8)) _ (op_pick_f (evb_of rfl hc2) rfl) rfl ?_
      refine WL.nil ?_
      obtain rfl := Option.some.inj hj4
      exact ⟨rfl, rfl, hS13⟩
  · intro f5 wd6 hq7
    obtain ⟨hf14, hS15⟩ := hq7
    refine WL.val (Value.bool x3) _ (op_assign hf14) rfl ?_
    refine WL.nil ?_
    show W _ _ _ _ _ _
    refine W.ret ?_
    obtain rfl := Option.some.inj h
    show FinP _ _ _ _ _ _ _
    exact FinP.ret _ (res1 rfl rfl) ⟨rfl, hS15.ext⟩

theorem c_slices_IndexFunc_LLint64_Lint64 {w : World} {s1 : (List (List Int))} {v_s1 : Value} {f1 : (List Int) → Option Bool} {v_f1 : Value} (r_s1 : (Ty.sl (Ty.sl (Ty.i .i64))).rep w v_s1 s1) (r_f1 : FnT_li_to_b Try.prog v_f1 w f1) {res : Int} (h : p_slices_IndexFunc_LLint64_Lint64 s1 f1  = some res) :
    Ret Try.prog 83 #[v_s1, v_f1] w (fun v w' => v = Value.int .i64 res ∧ InR .i64 res ∧ Ext w w') := by
  unfold p_slices_IndexFunc_LLint64_Lint64 at h
  have hS0 : St w w [] := St.start w
  have q_f1 := r_f1
  obtain ⟨g_f1, fst_f1, cap_f1, eq_f1, ok_f1, call_f1⟩ := q_f1
  subst eq_f1
  refine Ret.start (fn := Try.f83) Try.func83 rfl 19 rfl rfl ?_
  refine W.seq (W.region ?_)
  refine WL.val (Value.int .i64 (0 : Int)) _ (op_assign rfl) rfl ?_
  refine WL.nil ?_
  show W _ _ _ _ _ _
  refine W.seq (W.seq (W.region ?_))
  refine WL.val v_s1 _ (op_move rfl) rfl ?_
  have hr1 := inR_len (Ty.lift _ hS0.ext r_s1)
  refine WL.val (Value.int .i64 ((s1).length : Int)) _ (op_lenL sl_43 (Ty.lift _ hS0.ext r_s1) rfl) rfl ?_
  refine WL.val (Value.int .i64 (0 : Int)) _ (op_move rfl) rfl ?_
  refine WL.nil ?_
  show W _ _ _ _ _ _
  obtain ⟨res2, hres3, h⟩ := bs h
  refine W.blockLoop (fun fq wq => ∃ s, res2 = Res.fin s ∧ St w wq []) ?_ ?_
  · refine W.forN (fun k (s : Unit) fq wq => fq 0 = v_s1 ∧ fq 1 = (Value.func (.func g_f1) fst_f1 cap_f1) ∧ fq 7 = (Value.int .i64 ((s1).length : Int)) ∧ fq 8 = Value.int .i64 (k : Int) ∧ InR .i64 (k : Int) ∧ St w wq []) hres3 ⟨rfl, rfl, rfl, rfl, (inR_i64.2 (show (-9223372036854775808 : Int) ≤ 0 ∧ (0 : Int) ≤ 9223372036854775807 from by decide)), hS0⟩ ?_ ?_
    · intro k4 s36 ct5 f6 wd7 hk8 hb9 hI10 hbrk11 hret12
      obtain ⟨⟩ := s36
      replace hI10 : f6 0 = v_s1 ∧ f6 1 = (Value.func (.func g_f1) fst_f1 cap_f1) ∧ f6 7 = (Value.int .i64 ((s1).length : Int)) ∧ f6 8 = Value.int .i64 (k4 : Int) ∧ InR .i64 (k4 : Int) ∧ St w wd7 [] := hI10
      replace hb9 : p_slices_IndexFunc_LLint64_Lint64_L1 s1 f1 k4  = some ct5 := hb9
      unfold p_slices_IndexFunc_LLint64_Lint64_L1 at hb9
      obtain ⟨hf13, hf14, hf15, hf16, hr17, hS18⟩ := hI10
      refine W.seq (W.region ?_)
      refine WL.val (Value.bool (decide ((k4 : Int) < ((s1).length : Int)))) _ (op_lss hf16 hf15) rfl ?_
      have hl19 : (k4 : Int) < ((s1).length : Int) := by omega
      refine WL.nil ?_
      show W _ _ _ _ _ _
      refine W.seq ?_
      refine W.condT (decide ((k4 : Int) < ((s1).length : Int))) rfl (decide_eq_true hl19) ?_
      refine W.skip ?_
      show W _ _ _ _ _ _
      refine W.seq ?_
      refine W.block ?_
      refine W.seq (W.region ?_)
      refine WL.val (Value.int .i64 (k4 : Int)) _ (op_move hf16) rfl ?_
      refine WL.val (Value.int .i64 (k4 : Int)) _ (op_assign rfl) rfl ?_
      refine WL.nil ?_
      show W _ _ _ _ _ _
      refine W.seq (W.region ?_)
      refine WL.val (Value.func (.func g_f1) fst_f1 cap_f1) _ (op_move hf14) rfl ?_
      refine WL.val v_s1 _ (op_move hf13) rfl ?_
      refine WL.val (Value.int .i64 (k4 : Int)) _ (op_move rfl) rfl ?_
      obtain ⟨x21, hx24, hb9⟩ := bs hb9
      obtain ⟨ha22, hb23, hx24⟩ := idx_some hx24
      refine WL.val (Value.pointer (some (elA v_s1 ((k4 : Int)).toNat))) _ (op_idx sl_43 (Ty.lift _ hS18.ext r_s1) rfl rfl ha22 hb23) rfl ?_
      obtain ⟨u25, hc26, hr27⟩ := repSl.el r_s1 hx24
      refine WL.val u25 _ (op_load one_25 rfl (Ext.cell hS18.ext hc26)) rfl ?_
      obtain ⟨x28, hx29, hb9⟩ := bs hb9
      refine WL.call _ (op_callV rfl ok_f1 (args1 rfl)) (call_f1 wd7 u25 x21 x28 hS18.ext (Ty.lift _ hS18.ext hr27) hx29) rfl ?_
      rintro _ wd30 ⟨rfl, he31⟩
      have hS33 := St.extend hS18 he31
      refine WL.nil ?_
      show W _ _ _ _ _ _
      refine W.cond x28 rfl (fun hc34 => ?_) (fun hc34 => ?_)
      · replace hb9 := ip hb9 hc34
        refine W.seq (W.region ?_)
        refine WL.val (Value.int .i64 (k4 : Int)) _ (op_move rfl) rfl ?_
        refine WL.val (Value.int .i64 (k4 : Int)) _ (op_assign rfl) rfl ?_
        refine WL.nil ?_
        show W _ _ _ _ _ _
        refine W.ret ?_
        obtain rfl := Option.some.inj hb9
        obtain rfl := hret12 _ rfl
        replace h := onRes_ret h
        obtain rfl := Option.some.inj h
        show FinP _ _ _ _ _ _ _
        exact FinP.ret _ (res1 rfl rfl) ⟨rfl, hr17, hS33.ext⟩
      · replace hb9 := inegb hb9 hc34
        refine W.skip ?_
        show W _ _ _ _ _ _
        refine W.region ?_
        refine WL.val (Value.int .i64 (w64 ((k4 : Int) + (1 : Int)))) _ (op_add hf16 rfl) rfl ?_
        refine WL.val (Value.int .i64 (w64 ((k4 : Int) + (1 : Int)))) _ (op_move rfl) rfl ?_
        refine WL.nil ?_
        obtain rfl := Option.some.inj hb9
        show ∃ s, _ = Ctl.next s ∧ _
        exact ⟨_, rfl, hf13, hf14, hf15, (ctr_next hl19 hr1), (ctr_rng hl19 hr1), hS33⟩
    · intro s41 f37 wd38 hs39 hI40
      obtain ⟨⟩ := s41
      replace hI40 : f37 0 = v_s1 ∧ f37 1 = (Value.func (.func g_f1) fst_f1 cap_f1) ∧ f37 7 = (Value.int .i64 ((s1).length : Int)) ∧ f37 8 = Value.int .i64 (((s1).length : Nat) : Int) ∧ InR .i64 (((s1).length : Nat) : Int) ∧ St w wd38 [] := hI40
      obtain ⟨hf42, hf43, hf44, hf45, hr46, hS47⟩ := hI40
      refine W.seq (W.region ?_)
      refine WL.val (Value.bool (decide ((((s1).length : Nat) : Int) < ((s1).length : Int)))) _ (op_lss hf45 hf44) rfl ?_
      have hl48 : ¬ (((s1).length : Nat) : Int) < ((s1).length : Int) := by omega
      refine WL.nil ?_
      show W _ _ _ _ _ _
      refine W.seq ?_
      refine W.condF (decide ((((s1).length : Nat) : Int) < ((s1).length : Int))) rfl (decide_eq_false hl48) ?_
      refine W.exit ?_
      show _ = _ ∧ _
      exact ⟨rfl, _, hs39, hS47⟩
  · rintro f49 wd50 ⟨s52, rfl, hq51⟩
    replace h := onRes_fin h
    obtain ⟨⟩ := s52
    replace hq51 : St w wd50 [] := hq51
    have hS53 := hq51
    show W _ _ _ _ _ _
    refine W.seq (W.region ?_)
    refine WL.val (Value.int .i64 (-1 : Int)) _ (op_assign rfl) rfl ?_
    refine WL.nil ?_
    show W _ _ _ _ _ _
    refine W.ret ?_
    obtain rfl := Option.some.inj h
    show FinP _ _ _ _ _ _ _
    exact FinP.ret _ (res1 rfl rfl) ⟨rfl, (inR_i64.2 (show (-9223372036854775808 : Int) ≤ -1 ∧ (-1 : Int) ≤ 9223372036854775807 from by decide)), hS53.ext⟩

theorem c_slices_ContainsFunc_LLint64_Lint64 {w : World} {s1 : (List (List Int))} {v_s1 : Value} {f1 : (List Int) → Option Bool} {v_f1 : Value} (r_s1 : (Ty.sl (Ty.sl (Ty.i .i64))).rep w v_s1 s1) (r_f1 : FnT_li_to_b Try.prog v_f1 w f1) {res : Bool} (h : p_slices_ContainsFunc_LLint64_Lint64 s1 f1  = some res) :
    Ret Try.prog 61 #[v_s1, v_f1] w (fun v w' => v = Value.bool res ∧ Ext w w') := by
  unfold p_slices_ContainsFunc_LLint64_Lint64 at h
  have hS0 : St w w [] := St.start w
  have q_f1 := r_f1
  obtain ⟨g_f1, fst_f1, cap_f1, eq_f1, ok_f1, call_f1⟩ := q_f1
  subst eq_f1
  refine Ret.start (fn := Try.f61) Try.func61 rfl 9 rfl rfl ?_
  refine W.seq (W.region ?_)
  refine WL.val (Value.bool false) _ (op_assign rfl) rfl ?_
  refine WL.nil ?_
  show W _ _ _ _ _ _
  refine W.seq (W.region ?_)
  refine WL.val v_s1 _ (op_move rfl) rfl ?_
  refine WL.val (Value.func (.func g_f1) fst_f1 cap_f1) _ (op_move rfl) rfl ?_
  obtain ⟨x1, hx2, h⟩ := bs h
  refine WL.call _ (op_call fn_83 (args2 rfl rfl)) (c_slices_IndexFunc_LLint64_Lint64 (Ty.lift _ hS0.ext r_s1) (FnT_li_to_b.lift hS0.ext r_f1) hx2) rfl ?_
  rintro _ wd4 ⟨rfl, hr3, he5⟩
  have hS7 := St.extend hS0 he5
  replace hS7 : St w wd4 [] := hS7
  refine WL.val (Value.bool (decide (x1 ≥ (0 : Int)))) _ (op_geq rfl rfl) rfl ?_
  refine WL.val (Value.bool (decide (x1 ≥ (0 : Int)))) _ (op_assign rfl) rfl ?_
  refine WL.nil ?_
  show W _ _ _ _ _ _
  refine W.ret ?_
  obtain rfl := Option.some.inj h
  show FinP _ _ _ _ _ _ _
  exact FinP.ret _ (res1 rfl rfl) ⟨rfl, hS7.ext⟩

theorem c_impl_isCube {w : World} {r_Table : (List (List (List Int)))} {v_r_Table : Value} (r_r_Table : (Ty.sl (Ty.sl (Ty.sl (Ty.i .i64)))).rep w v_r_Table r_Table) {res : Bool} (h : p_impl_isCube r_Table  = some res) :
    Ret Try.prog 70 #[(Value.agg #[v_r_Table])] w (fun v w' => v = Value.bool res ∧ Ext w w') := by
  unfold p_impl_isCube at h
  have hS0 : St w w [] := St.start w
  refine Ret.start (fn := Try.f70) Try.func70 rfl 32 rfl rfl ?_
  refine W.seq (W.region ?_)
  refine WL.box hS0 rfl (cs := [v_r_Table]) rfl rfl ?_
  intro b1 wd2 hS3 he4 hx5
  replace hS3 : St w wd2 [bx b1 [v_r_Table]] := hS3
  have hx6 := St.boxAt hS3 0 rfl
  have hE7 : Ext w wd2 := hS3.ext
  have hS8 : St wd2 wd2 [] := St.start wd2
  refine WL.val (Value.bool false) _ (op_assign rfl) rfl ?_
  refine WL.nil ?_
  show W _ _ _ _ _ _
  refine W.seq (W.region ?_)
  refine WL.val (Value.pointer (some ⟨b1, 0, none⟩)) _ (op_fieldAddr fd_29_0 rfl) rfl ?_
  refine WL.val v_r_Table _ (op_load one_22 rfl (BoxAt.cell (BoxAt.lift hS8.ext hx6) rfl)) rfl ?_
  have hr9 := inR_len (Ty.lift _ (Ext.trans hE7 hS8.ext) r_r_Table)
  refine WL.val (Value.int .i64 ((r_Table).length : Int)) _ (op_lenL sl_22 (Ty.lift _ (Ext.trans hE7 hS8.ext) r_r_Table) rfl) rfl ?_
  refine WL.alloc hS8 ze_3 (cs := [(Value.int .i64 (0 : Int))]) rfl rfl ?_
  intro b10 wd11 hS12 he13
  replace hS12 : St wd2 wd11 [bx b10 [(Value.int .i64 (0 : Int))]] := hS12
  refine WL.storeBox [(Value.int .i64 ((r_Table).length : Int))] hS12 (k := 0) rfl rfl rfl (us := [(Value.int .i64 ((r_Table).length : Int))]) rfl sz_3 rfl rfl (all_cons rfl all_nil) rfl ?_
  intro wd14 hS15
  replace hS15 : St wd2 wd14 [bx b10 [(Value.int .i64 ((r_Table).length : Int))]] := hS15
  refine WL.nil ?_
  show W _ _ _ _ _ _
  refine W.seq (W.seq (W.region ?_))
  refine WL.val (Value.pointer (some ⟨b1, 0, none⟩)) _ (op_fieldAddr fd_29_0 rfl) rfl ?_
  refine WL.val v_r_Table _ (op_load one_22 rfl (BoxAt.cell (BoxAt.lift hS15.ext hx6) rfl)) rfl ?_
  have hr16 := inR_len (Ty.lift _ (Ext.trans hE7 hS15.ext) r_r_Table)
  refine WL.val (Value.int .i64 ((r_Table).length : Int)) _ (op_lenL sl_22 (Ty.lift _ (Ext.trans hE7 hS15.ext) r_r_Table) rfl) rfl ?_
  refine WL.val (Value.int .i64 (0 : Int)) _ (op_move rfl) rfl ?_
  refine WL.nil ?_
  show W _ _ _ _ _ _
  obtain ⟨res17, hres18, h⟩ := bs h
  refine W.blockLoop (fun fq wq => ∃ s, res17 = Res.fin s ∧ fq 3 = (Value.pointer (some ⟨b10, 0, none⟩)) ∧ St wd2 wq [bx b10 [(Value.int .i64 ((r_Table).length : Int))]]) ?_ ?_
  · refine W.forN (fun k (s : Unit) fq wq => fq 3 = (Value.pointer (some ⟨b10, 0, none⟩)) ∧ fq 10 = v_r_Table ∧ fq 11 = (Value.int .i64 ((r_Table).length : Int)) ∧ fq 12 = Value.int .i64 (k : Int) ∧ InR .i64 (k : Int) ∧ St wd2 wq [bx b10 [(Value.int .i64 ((r_Table).length : Int))]]) hres18 ⟨rfl, rfl, rfl, rfl, (inR_i64.2 (show (-9223372036854775808 : Int) ≤ 0 ∧ (0 : Int) ≤ 9223372036854775807 from by decide)), hS15⟩ ?_ ?_
    · intro k19 s68 ct20 f21 wd22 hk23 hb24 hI25 hbrk26 hret27
      obtain ⟨⟩ := s68
      replace hI25 : f21 3 = (Value.pointer (some ⟨b10, 0, none⟩)) ∧ f21 10 = v_r_Table ∧ f21 11 = (Value.int .i64 ((r_Table).length : Int)) ∧ f21 12 = Value.int .i64 (k19 : Int) ∧ InR .i64 (k19 : Int) ∧ St wd2 wd22 [bx b10 [(Value.int .i64 ((r_Table).length : Int))]] := hI25
      replace hb24 : p_impl_isCube_L1 r_Table k19  = some ct20 := hb24
      unfold p_impl_isCube_L1 at hb24
      obtain ⟨hf28, hf29, hf30, hf31, hr32, hS33⟩ := hI25
      refine W.seq (W.region ?_)
      refine WL.val (Value.bool (decide ((k19 : Int) < ((r_Table).length : Int)))) _ (op_lss hf31 hf30) rfl ?_
      have hl34 : (k19 : Int) < ((r_Table).length : Int) := by omega
      refine WL.nil ?_
      show W _ _ _ _ _ _
      refine W.seq ?_
      refine W.condT (decide ((k19 : Int) < ((r_Table).length : Int))) rfl (decide_eq_true hl34) ?_
      refine W.skip ?_
      show W _ _ _ _ _ _
      refine W.seq ?_
      refine W.block ?_
      refine W.seq (W.region ?_)
      obtain ⟨x36, hx39, hb24⟩ := bs hb24
      obtain ⟨ha37, hb38, hx39⟩ := idx_some hx39
      refine WL.val (Value.pointer (some (elA v_r_Table ((k19 : Int)).toNat))) _ (op_idx sl_22 (Ty.lift _ (Ext.trans hE7 hS33.ext) r_r_Table) hf29 hf31 ha37 hb38) rfl ?_
      obtain ⟨u40, hc41, hr42⟩ := repSl.el r_r_Table hx39
      refine WL.val u40 _ (op_load one_43 rfl (Ext.cell (Ext.trans hE7 hS33.ext) hc41)) rfl ?_
      refine WL.val u40 _ (op_assign rfl) rfl ?_
      refine WL.nil ?_
      show W _ _ _ _ _ _
      refine W.seq (W.region ?_)
      refine WL.val u40 _ (op_move rfl) rfl ?_
      have hr43 := inR_len (Ty.lift _ (Ext.trans hE7 hS33.ext) hr42)
      refine WL.val (Value.int .i64 ((x36).length : Int)) _ (op_lenL sl_43 (Ty.lift _ (Ext.trans hE7 hS33.ext) hr42) rfl) rfl ?_
      refine WL.val (Value.int .i64 ((r_Table).length : Int)) _ (op_load one_3 hf28 (BoxAt.cell (St.boxAt hS33 0 rfl) rfl)) rfl ?_
      refine WL.val (Value.bool (((x36).length : Int) != ((r_Table).length : Int))) _ (op_neq rfl rfl) rfl ?_
      refine WL.val (Value.bool (((x36).length : Int) != ((r_Table).length : Int))) _ (op_move rfl) rfl ?_
      obtain ⟨x45, hj46, hb24⟩ := bs hb24
      refine WL.cut 4 (fun fq wq => fq 3 = (Value.pointer (some ⟨b10, 0, none⟩)) ∧ fq 10 = v_r_Table ∧ fq 11 = (Value.int .i64 ((r_Table).length : Int)) ∧ fq 12 = (Value.int .i64 (k19 : Int)) ∧ fq 24 = Value.bool x45 ∧ St wd2 wq [bx b10 [(Value.int .i64 ((r_Table).length : Int))]]) ?_ ?_
      · rcases Bool.eq_false_or_eq_true (((x36).length : Int) != ((r_Table).length : Int)) with hc44 | hc44
        · replace hj46 := ip hj46 hc44
          refine WL.gskip rfl (bool_of rfl hc44) rfl ?_
          refine WL.gskip rfl (bool_of rfl hc44) rfl ?_
          refine WL.gskip rfl (bool_of rfl hc44) rfl ?_
          refine WL.val (Value.bool true) _ (op_pick_t (evb_of rfl hc44) rfl) rfl ?_
          refine WL.nil ?_
          obtain rfl := Option.some.inj hj46
          exact ⟨rfl, hf28, hf29, hf30, hf31, rfl, hS33⟩
        · replace hj46 := inegb hj46 hc44
          refine WL.grun rfl (bool_of rfl hc44) ?_
          refine WL.val u40 _ (op_move rfl) rfl ?_
          refine WL.grun rfl (bool_of rfl hc44) ?_
          refine WL.val (Value.func (.func 87) #[] #[(Value.pointer (some ⟨b10, 0, none⟩))]) _ (op_makeFunc (va := #[]) (vb := #[(Value.pointer (some ⟨b10, 0, none⟩))]) args0 (args1 hf28)) rfl ?_
          refine WL.grun rfl (bool_of rfl hc44) ?_
          obtain ⟨x54, hx55, hj46⟩ := bs hj46
          refine WL.call _ (op_call fn_61 (args2 rfl rfl)) (c_slices_ContainsFunc_LLint64_Lint64 (Ty.lift _ (Ext.trans hE7 hS33.ext) hr42) (⟨87, #[], #[(Value.pointer (some ⟨b10, 0, none⟩))], rfl, fn_87, fun wd50 u0_51 a0_51 r52 he51 ra0_51 hq53 => c_impl_isCube_c1 ra0_51 (BoxAt.lift he51 (St.boxAt hS33 0 rfl)) hr9 hq53⟩) hx55) rfl ?_
          rintro _ wd56 ⟨rfl, he57⟩
          have hS59 := St.extend hS33 he57
          replace hS59 : St wd2 wd56 [bx b10 [(Value.int .i64 ((r_Table).length : Int))]] := hS59
          refine WL.val (Value.bool x54) _ (op_pick_f (evb_of rfl hc44) rfl) rfl ?_
          refine WL.nil ?_
          obtain rfl := Option.some.inj hj46
          exact ⟨rfl, hf28, hf29, hf30, hf31, rfl, hS59⟩
      · intro f47 wd48 hq49
        obtain ⟨hf60, hf61, hf62, hf63, hf64, hS65⟩ := hq49
        refine WL.nil ?_
        show W _ _ _ _ _ _
        refine W.cond x45 hf64 (fun hc66 => ?_) (fun hc66 => ?_)
        · replace hb24 := ip hb24 hc66
          refine W.seq (W.region ?_)
          refine WL.val (Value.bool false) _ (op_assign rfl) rfl ?_
          refine WL.nil ?_
          show W _ _ _ _ _ _
          refine W.ret ?_
          obtain rfl := Option.some.inj hb24
          obtain rfl := hret27 _ rfl
          replace h := onRes_ret h
          obtain rfl := Option.some.inj h
          show FinP _ _ _ _ _ _ _
          exact FinP.ret _ (res1 rfl rfl) ⟨rfl, (Ext.trans hE7 hS65.ext)⟩
        · replace hb24 := inegb hb24 hc66
          refine W.skip ?_
          show W _ _ _ _ _ _
          refine W.region ?_
          refine WL.val (Value.int .i64 (w64 ((k19 : Int) + (1 : Int)))) _ (op_add hf63 rfl) rfl ?_
          refine WL.val (Value.int .i64 (w64 ((k19 : Int) + (1 : Int)))) _ (op_move rfl) rfl ?_
          refine WL.nil ?_
          obtain rfl := Option.some.inj hb24
          show ∃ s, _ = Ctl.next s ∧ _
          exact ⟨_, rfl, hf60, hf61, hf62, (ctr_next hl34 hr16), (ctr_rng hl34 hr16), hS65⟩
    · intro s73 f69 wd70 hs71 hI72
      obtain ⟨⟩ := s73
      replace hI72 : f69 3 = (Value.pointer (some ⟨b10, 0, none⟩)) ∧ f69 10 = v_r_Table ∧ f69 11 = (Value.int .i64 ((r_Table).length : Int)) ∧ f69 12 = Value.int .i64 (((r_Table).length : Nat) : Int) ∧ InR .i64 (((r_Table).length : Nat) : Int) ∧ St wd2 wd70 [bx b10 [(Value.int .i64 ((r_Table).length : Int))]] := hI72
      obtain ⟨hf74, hf75, hf76, hf77, hr78, hS79⟩ := hI72
      refine W.seq (W.region ?_)
      refine WL.val (Value.bool (decide ((((r_Table).length : Nat) : Int) < ((r_Table).length : Int)))) _ (op_lss hf77 hf76) rfl ?_
      have hl80 : ¬ (((r_Table).length : Nat) : Int) < ((r_Table).length : Int) := by omega
      refine WL.nil ?_
      show W _ _ _ _ _ _
      refine W.seq ?_
      refine W.condF (decide ((((r_Table).length : Nat) : Int) < ((r_Table).length : Int))) rfl (decide_eq_false hl80) ?_
      refine W.exit ?_
      show _ = _ ∧ _
      exact ⟨rfl, _, hs71, hf74, hS79⟩
  · rintro f81 wd82 ⟨s84, rfl, hq83⟩
    replace h := onRes_fin h
    obtain ⟨⟩ := s84
    replace hq83 : f81 3 = (Value.pointer (some ⟨b10, 0, none⟩)) ∧ St wd2 wd82 [bx b10 [(Value.int .i64 ((r_Table).length : Int))]] := hq83
    obtain ⟨hf85, hS86⟩ := hq83
    show W _ _ _ _ _ _
    refine W.seq (W.region ?_)
    refine WL.val (Value.int .i64 ((r_Table).length : Int)) _ (op_load one_3 hf85 (BoxAt.cell (St.boxAt hS86 0 rfl) rfl)) rfl ?_
    refine WL.val (Value.bool (decide (((r_Table).length : Int) ≥ (1 : Int)))) _ (op_geq rfl rfl) rfl ?_
    refine WL.val (Value.bool (decide (((r_Table).length : Int) ≥ (1 : Int)))) _ (op_move rfl) rfl ?_
    refine WL.cut 3 (fun fq wq => fq 31 = (Value.bool ((decide (((r_Table).length : Int) ≥ (1 : Int))) && (decide (((r_Table).length : Int) ≤ (16 : Int))))) ∧ St wd2 wq []) ?_ ?_
    · rcases Bool.eq_false_or_eq_true (decide (((r_Table).length : Int) ≥ (1 : Int))) with hc87 | hc87
      · refine WL.grun rfl (bool_of rfl hc87) ?_
        refine WL.val (Value.int .i64 ((r_Table).length : Int)) _ (op_load one_3 hf85 (BoxAt.cell (St.boxAt hS86 0 rfl) rfl)) rfl ?_
        refine WL.grun rfl (bool_of rfl hc87) ?_
        refine WL.val (Value.bool (decide (((r_Table).length : Int) ≤ (16 : Int)))) _ (op_leq rfl rfl) rfl ?_
        refine WL.val (Value.bool (decide (((r_Table).length : Int) ≤ (16 : Int)))) _ (op_pick_t (evb_of rfl hc87) rfl) rfl ?_
        refine WL.nil ?_
        exact ⟨rfl, (andT hc87), (St.pick hS86 [] rfl)⟩
      · refine WL.gskip rfl (bool_of rfl hc87) rfl ?_
        refine WL.gskip rfl (bool_of rfl hc87) rfl ?_
        refine WL.val (Value.bool false) _ (op_pick_f (evb_of rfl hc87) rfl) rfl ?_
        refine WL.nil ?_
        exact ⟨rfl, (andF hc87), (St.pick hS86 [] rfl)⟩
    · intro f88 wd89 hq90
      obtain ⟨hf91, hS92⟩ := hq90
      refine WL.val (Value.bool ((decide (((r_Table).length : Int) ≥ (1 : Int))) && (decide (((r_Table).length : Int) ≤ (16 : Int))))) _ (op_assign hf91) rfl ?_
      refine WL.nil ?_
      show W _ _ _ _ _ _
      refine W.ret ?_
      obtain rfl := Option.some.inj h
      show FinP _ _ _ _ _ _ _
      exact FinP.ret _ (res1 rfl rfl) ⟨rfl, (Ext.trans hE7 hS92.ext)⟩

theorem c_impl_delta {w : World} {i : Int} {k1 : Int} (r_i : InR .i64 i) (r_k1 : InR .i64 k1) {res : Int} (h : p_impl_delta i k1  = some res) :
    Ret Try.prog 103 #[(Value.int .i64 i), (Value.int .i64 k1)] w (fun v w' => v = Value.int .i64 res ∧ InR .i64 res ∧ Ext w w') := by
  unfold p_impl_delta at h
  have hS0 : St w w [] := St.start w
  refine Ret.start (fn := Try.f103) Try.func103 rfl 8 rfl rfl ?_
  refine W.seq (W.region ?_)
  refine WL.val (Value.int .i64 (0 : Int)) _ (op_assign rfl) rfl ?_
  refine WL.nil ?_
  show W _ _ _ _ _ _
  refine W.seq (W.seq (W.region ?_))
  refine WL.val (Value.int .i64 i) _ (op_move rfl) rfl ?_
  refine WL.val (Value.int .i64 k1) _ (op_move rfl) rfl ?_
  refine WL.val (Value.bool (i == k1)) _ (op_eql rfl rfl) rfl ?_
  refine WL.nil ?_
  show W _ _ _ _ _ _
  refine W.cond (i == k1) rfl (fun hc1 => ?_) (fun hc1 => ?_)
  · replace h := ip h hc1
    refine W.seq (W.region ?_)
    refine WL.val (Value.int .i64 (1 : Int)) _ (op_assign rfl) rfl ?_
    refine WL.nil ?_
    show W _ _ _ _ _ _
    refine W.ret ?_
    obtain rfl := Option.some.inj h
    show FinP _ _ _ _ _ _ _
    exact FinP.ret _ (res1 rfl rfl) ⟨rfl, (inR_i64.2 (show (-9223372036854775808 : Int) ≤ 1 ∧ (1 : Int) ≤ 9223372036854775807 from by decide)), hS0.ext⟩
  · replace h := inegb h hc1
    refine W.skip ?_
    show W _ _ _ _ _ _
    refine W.seq (W.region ?_)
    refine WL.val (Value.int .i64 (0 : Int)) _ (op_assign rfl) rfl ?_
    refine WL.nil ?_
    show W _ _ _ _ _ _
    refine W.ret ?_
    obtain rfl := Option.some.inj h
    show FinP _ _ _ _ _ _ _
    exact FinP.ret _ (res1 rfl rfl) ⟨rfl, (inR_i64.2 (show (-9223372036854775808 : Int) ≤ 0 ∧ (0 : Int) ≤ 9223372036854775807 from by decide)), hS0.ext⟩

theorem c_impl_Ring_unitFault {w : World} {r_Table : (List (List (List Int)))} {v_r_Table : Value} (r_r_Table : (Ty.sl (Ty.sl (Ty.sl (Ty.i .i64)))).rep w v_r_Table r_Table) {res : (List Int)} (h : p_impl_Ring_unitFault r_Table  = some res) :
    Ret Try.prog 88 #[(Value.agg #[v_r_Table])] w (fun v w' => ∃ (u0 : Value), v = u0 ∧ NilIff u0 res ∧ Ext w w' ∧ Sep w.heap.size w' [(Ty.sl (Ty.i .i64)).at u0 res]) := by
  unfold p_impl_Ring_unitFault at h
  have hS0 : St w w [] := St.start w
  refine Ret.start (fn := Try.f88) Try.func88 rfl 52 rfl rfl ?_
  refine W.seq (W.region ?_)
  refine WL.box hS0 rfl (cs := [v_r_Table]) rfl rfl ?_
  intro b1 wd2 hS3 he4 hx5
  replace hS3 : St w wd2 [bx b1 [v_r_Table]] := hS3
  have hx6 := St.boxAt hS3 0 rfl
  have hE7 : Ext w wd2 := hS3.ext
  have hS8 : St wd2 wd2 [] := St.start wd2
  refine WL.val (Value.slice none 0 0) _ (op_assign rfl) rfl ?_
  refine WL.nil ?_
  show W _ _ _ _ _ _
  refine W.seq (W.seq (W.region ?_))
  refine WL.val (Value.pointer (some ⟨b1, 0, none⟩)) _ (op_fieldAddr fd_29_0 rfl) rfl ?_
  refine WL.val v_r_Table _ (op_load one_22 rfl (BoxAt.cell (BoxAt.lift hS8.ext hx6) rfl)) rfl ?_
  have hr9 := inR_len (Ty.lift _ (Ext.trans hE7 hS8.ext) r_r_Table)
  refine WL.val (Value.int .i64 ((r_Table).length : Int)) _ (op_lenL sl_22 (Ty.lift _ (Ext.trans hE7 hS8.ext) r_r_Table) rfl) rfl ?_
  refine WL.val (Value.int .i64 (0 : Int)) _ (op_move rfl) rfl ?_
  refine WL.nil ?_
  show W _ _ _ _ _ _
  obtain ⟨res10, hres11, h⟩ := bs h
  refine W.blockLoop (fun fq wq => ∃ s, res10 = Res.fin s ∧ St wd2 wq []) ?_ ?_
  · refine W.forN (fun k (s : Unit) fq wq => fq 1 = (Value.pointer (some ⟨b1, 0, none⟩)) ∧ fq 7 = (Value.int .i64 ((r_Table).length : Int)) ∧ fq 8 = Value.int .i64 (k : Int) ∧ InR .i64 (k : Int) ∧ St wd2 wq []) hres11 ⟨rfl, rfl, rfl, (inR_i64.2 (show (-9223372036854775808 : Int) ≤ 0 ∧ (0 : Int) ≤ 9223372036854775807 from by decide)), hS8⟩ ?_ ?_
    · intro k12 s672 ct13 f14 wd15 hk16 hb17 hI18 hbrk19 hret20
      obtain ⟨⟩ := s672
      replace hI18 : f14 1 = (Value.pointer (some ⟨b1, 0, none⟩)) ∧ f14 7 = (Value.int .i64 ((r_Table).length : Int)) ∧ f14 8 = Value.int .i64 (k12 : Int) ∧ InR .i64 (k12 : Int) ∧ St wd2 wd15 [] := hI18
      replace hb17 : p_impl_Ring_unitFault_L1 r_Table k12  = some ct13 := hb17
      unfold p_impl_Ring_unitFault_L1 at hb17
      obtain ⟨hf21, hf22, hf23, hr24, hS25⟩ := hI18
      refine W.seq (W.region ?_)
      refine WL.val (Value.bool (decide ((k12 : Int) < ((r_Table).length : Int)))) _ (op_lss hf23 hf22) rfl ?_
      have hl26 : (k12 : Int) < ((r_Table).length : Int) := by omega
      refine WL.nil ?_
      show W _ _ _ _ _ _
      refine W.seq ?_
      refine W.condT (decide ((k12 : Int) < ((r_Table).length : Int))) rfl (decide_eq_true hl26) ?_
      refine W.skip ?_
      show W _ _ _ _ _ _
      refine W.seq ?_
      refine W.block ?_
      refine W.seq (W.region ?_)
      refine WL.val (Value.int .i64 (k12 : Int)) _ (op_move hf23) rfl ?_
      refine WL.val (Value.int .i64 (k12 : Int)) _ (op_assign rfl) rfl ?_
      refine WL.nil ?_
      show W _ _ _ _ _ _
      refine W.seq (W.region ?_)
      refine WL.val (Value.pointer (some ⟨b1, 0, none⟩)) _ (op_fieldAddr fd_29_0 hf21) rfl ?_
      refine WL.val v_r_Table _ (op_load one_22 rfl (BoxAt.cell (BoxAt.lift hS25.ext hx6) rfl)) rfl ?_
      have hr28 := inR_len (Ty.lift _ (Ext.trans hE7 hS25.ext) r_r_Table)
      refine WL.val (Value.int .i64 ((r_Table).length : Int)) _ (op_lenL sl_22 (Ty.lift _ (Ext.trans hE7 hS25.ext) r_r_Table) rfl) rfl ?_
      refine WL.val (Value.int .i64 (0 : Int)) _ (op_move rfl) rfl ?_
      refine WL.nil ?_
      show W _ _ _ _ _ _
      obtain ⟨res29, hres30, hb17⟩ := bs hb17
      refine W.blockLoop (fun fq wq => ∃ s, res29 = Res.fin s ∧ fq 1 = (Value.pointer (some ⟨b1, 0, none⟩)) ∧ fq 7 = (Value.int .i64 ((r_Table).length : Int)) ∧ fq 8 = (Value.int .i64 (k12 : Int)) ∧ St wd2 wq []) ?_ ?_
      · refine W.forN (fun k (s : Unit) fq wq => fq 1 = (Value.pointer (some ⟨b1, 0, none⟩)) ∧ fq 3 = (Value.int .i64 (k12 : Int)) ∧ fq 7 = (Value.int .i64 ((r_Table).length : Int)) ∧ fq 8 = (Value.int .i64 (k12 : Int)) ∧ fq 13 = (Value.int .i64 ((r_Table).length : Int)) ∧ fq 14 = Value.int .i64 (k : Int) ∧ InR .i64 (k : Int) ∧ St wd2 wq []) hres30 ⟨hf21, rfl, hf22, hf23, rfl, rfl, (inR_i64.2 (show (-9223372036854775808 : Int) ≤ 0 ∧ (0 : Int) ≤ 9223372036854775807 from by decide)), hS25⟩ ?_ ?_
        · intro k31 s648 ct32 f33 wd34 hk35 hb36 hI37 hbrk38 hret39
          obtain ⟨⟩ := s648
          replace hI37 : f33 1 = (Value.pointer (some ⟨b1, 0, none⟩)) ∧ f33 3 = (Value.int .i64 (k12 : Int)) ∧ f33 7 = (Value.int .i64 ((r_Table).length : Int)) ∧ f33 8 = (Value.int .i64 (k12 : Int)) ∧ f33 13 = (Value.int .i64 ((r_Table).length : Int)) ∧ f33 14 = Value.int .i64 (k31 : Int) ∧ InR .i64 (k31 : Int) ∧ St wd2 wd34 [] := hI37
          replace hb36 : p_impl_Ring_unitFault_L2 r_Table k12 k31  = some ct32 := hb36
          unfold p_impl_Ring_unitFault_L2 at hb36
          obtain ⟨hf40, hf41, hf42, hf43, hf44, hf45, hr46, hS47⟩ := hI37
          refine W.seq (W.region ?_)
          refine WL.val (Value.bool (decide ((k31 : Int) < ((r_Table).length : Int)))) _ (op_lss hf45 hf44) rfl ?_
          have hl48 : (k31 : Int) < ((r_Table).length : Int) := by omega
          refine WL.nil ?_
          show W _ _ _ _ _ _
          refine W.seq ?_
          refine W.condT (decide ((k31 : Int) < ((r_Table).length : Int))) rfl (decide_eq_true hl48) ?_
          refine W.skip ?_
          show W _ _ _ _ _ _
          refine W.seq ?_
          refine W.block ?_
          refine W.seq (W.region ?_)
          refine WL.val (Value.int .i64 (k31 : Int)) _ (op_move hf45) rfl ?_
          refine WL.val (Value.int .i64 (k31 : Int)) _ (op_assign rfl) rfl ?_
          refine WL.nil ?_
          show W _ _ _ _ _ _
          refine W.seq ?_
          obtain ⟨x77, hx80, hb36⟩ := bs hb36
          obtain ⟨ha78, hb79, hx80⟩ := idx_some hx80
          obtain ⟨u91, hc92, hr93⟩ := repSl.el r_r_Table hx80
          obtain ⟨x116, hx119, hb36⟩ := bs hb36
          obtain ⟨ha117, hb118, hx119⟩ := idx_some hx119
          obtain ⟨u130, hc131, hr132⟩ := repSl.el hr93 hx119
          obtain ⟨x155, hx158, hb36⟩ := bs hb36
          obtain ⟨ha156, hb157, hx158⟩ := idx_some hx158
          obtain ⟨u169, hc170, hr171⟩ := repSl.el hr132 hx158
          obtain ⟨rfl, hr171⟩ := hr171
          obtain ⟨x202, hx203, hb36⟩ := bs hb36
          obtain ⟨x234, hj235, hb36⟩ := bs hb36
          refine W.cutCode (fun fq wq => fq 1 = (Value.pointer (some ⟨b1, 0, none⟩)) ∧ fq 3 = (Value.int .i64 (k12 : Int)) ∧ fq 4 = (Value.int .i64 (k31 : Int)) ∧ fq 7 = (Value.int .i64 ((r_Table).length : Int)) ∧ fq 8 = (Value.int .i64 (k12 : Int)) ∧ fq 13 = (Value.int .i64 ((r_Table).length : Int)) ∧ fq 14 = (Value.int .i64 (k31 : Int)) ∧ fq 46 = Value.bool x234 ∧ St wd2 wq []) ?_ ?_
          · rcases Bool.eq_false_or_eq_true (x155 != x202) with hc236 | hc236
            · replace hj235 := ip hj235 hc236
              refine W.drawR mixo 28 [] [fun _ v _ _ => v = (Value.pointer (some ⟨b1, 0, none⟩)), fun _ v _ _ => v = v_r_Table, fun _ v _ _ => v = (Value.pointer (some (elA v_r_Table ((0 : Int)).toNat))), fun _ v _ _ => v = u91, fun _ v _ _ => v = (Value.int .i64 (k12 : Int)) ∧ InR .i64 (k12 : Int), fun _ v _ _ => v = (Value.pointer (some (elA u91 ((k12 : Int)).toNat))), fun _ v _ _ => v = u130, fun _ v _ _ => v = (Value.int .i64 (k31 : Int)) ∧ InR .i64 (k31 : Int), fun _ v _ _ => v = (Value.pointer (some (elA u130 ((k31 : Int)).toNat))), fun _ v _ _ => v = (Value.int .i64 x155) ∧ InR .i64 x155, fun _ v _ _ => v = (Value.int .i64 (k12 : Int)) ∧ InR .i64 (k12 : Int), fun _ v _ _ => v = (Value.int .i64 (k31 : Int)) ∧ InR .i64 (k31 : Int), fun _ v _ _ => v = (Value.int .i64 x202) ∧ InR .i64 x202, fun _ v _ _ => v = (Value.bool (x155 != x202)), fun _ v _ _ => v = (Value.bool (x155 != x202)), fun _ v _ _ => v = undef, fun _ v _ _ => v = undef, fun _ v _ _ => v = undef, fun _ v _ _ => v = undef, fun _ v _ _ => v = undef, fun _ v _ _ => v = undef, fun _ v _ _ => v = undef, fun _ v _ _ => v = undef, fun _ v _ _ => v = undef, fun _ v _ _ => v = undef, fun _ v _ _ => v = undef, fun _ v _ _ => v = undef, fun _ v _ _ => v = undef] (by kernel_rfl) (by kernel_rfl) ⟨⟨fun _ _ _ _ _ _ h => h, fun _ _ _ _ _ _ h => h⟩, ⟨fun _ _ _ _ _ _ h => h, fun _ _ _ _ _ _ h => h⟩, ⟨fun _ _ _ _ _ _ h => h, fun _ _ _ _ _ _ h => h⟩, ⟨fun _ _ _ _ _ _ h => h, fun _ _ _ _ _ _ h => h⟩, ⟨fun _ _ _ _ _ _ h => h, fun _ _ _ _ _ _ h => h⟩, ⟨fun _ _ _ _ _ _ h => h, fun _ _ _ _ _ _ h => h⟩, ⟨fun _ _ _ _ _ _ h => h, fun _ _ _ _ _ _ h => h⟩, ⟨fun _ _ _ _ _ _ h => h, fun _ _ _ _ _ _ h => h⟩, ⟨fun _ _ _ _ _ _ h => h, fun _ _ _ _ _ _ h => h⟩, ⟨fun _ _ _ _ _ _ h => h, fun _ _ _ _ _ _ h => h⟩, ⟨fun _ _ _ _ _ _ h => h, fun _ _ _ _ _ _ h => h⟩, ⟨fun _ _ _ _ _ _ h => h, fun _ _ _ _ _ _ h => h⟩, ⟨fun _ _ _ _ _ _ h => h, fun _ _ _ _ _ _ h => h⟩, ⟨fun _ _ _ _ _ _ h => h, fun _ _ _ _ _ _ h => h⟩, ⟨fun _ _ _ _ _ _ h => h, fun _ _ _ _ _ _ h => h⟩, ⟨fun _ _ _ _ _ _ h => h, fun _ _ _ _ _ _ h => h⟩, ⟨fun _ _ _ _ _ _ h => h, fun _ _ _ _ _ _ h => h⟩, ⟨fun _ _ _ _ _ _ h => h, fun _ _ _ _ _ _ h => h⟩, ⟨fun _ _ _ _ _ _ h => h, fun _ _ _ _ _ _ h => h⟩, ⟨fun _ _ _ _ _ _ h => h, fun _ _ _ _ _ _ h => h⟩, ⟨fun _ _ _ _ _ _ h => h, fun _ _ _ _ _ _ h => h⟩, ⟨fun _ _ _ _ _ _ h => h, fun _ _ _ _ _ _ h => h⟩, ⟨fun _ _ _ _ _ _ h => h, fun _ _ _ _ _ _ h => h⟩, ⟨fun _ _ _ _ _ _ h => h, fun _ _ _ _ _ _ h => h⟩, ⟨fun _ _ _ _ _ _ h => h, fun _ _ _ _ _ _ h => h⟩, ⟨fun _ _ _ _ _ _ h => h, fun _ _ _ _ _ _ h => h⟩, ⟨fun _ _ _ _ _ _ h => h, fun _ _ _ _ _ _ h => h⟩, ⟨fun _ _ _ _ _ _ h => h, fun _ _ _ _ _ _ h => h⟩, trivial⟩ ⟨?_, ?_, ?_, ?_, ?_, ?_, ?_, ?_, ?_, ?_, ?_, ?_, ?_, ?_, ?_, ?_, ?_, ?_, ?_, ?_, ?_, ?_, ?_, ?_, ?_, ?_, ?_, ?_, trivial⟩ ?_
              · refine ObX.op rfl ?_
                intro f50 wd51 he52 hout53 hphi54
                have hS55 : St wd2 wd51 [] := St.extend hS47 he52
                have e56 : f50 1 = (Value.pointer (some ⟨b1, 0, none⟩)) := (hout53 1 rfl).trans hf40
                exact OpX.val (Value.pointer (some ⟨b1, 0, none⟩)) wd51 rfl (op_fieldAddr fd_29_0 e56) (Ext.refl _) rfl
              · refine ObX.op rfl ?_
                intro f57 wd58 he59 hout60 hphi61
                have hS62 : St wd2 wd58 [] := St.extend hS47 he59
                obtain ⟨S63, hS64, hf65⟩ := hphi61 0 17 _ rfl rfl rfl
                have e66 : f57 17 = (Value.pointer (some ⟨b1, 0, none⟩)) := hf65
                exact OpX.val v_r_Table wd58 rfl (op_load one_22 e66 (BoxAt.cell (BoxAt.lift hS62.ext hx6) rfl)) (Ext.refl _) rfl
              · refine ObX.op rfl ?_
                intro f67 wd68 he69 hout70 hphi71
                have hS72 : St wd2 wd68 [] := St.extend hS47 he69
                obtain ⟨S73, hS74, hf75⟩ := hphi71 1 18 _ rfl rfl rfl
                have e76 : f67 18 = v_r_Table := hf75
                exact OpX.val (Value.pointer (some (elA v_r_Table ((0 : Int)).toNat))) wd68 rfl (op_idx sl_22 (Ty.lift _ (Ext.trans hE7 hS72.ext) r_r_Table) e76 rfl ha78 hb79) (Ext.refl _) rfl
              · refine ObX.op rfl ?_
                intro f81 wd82 he83 hout84 hphi85
                have hS86 : St wd2 wd82 [] := St.extend hS47 he83
                obtain ⟨S87, hS88, hf89⟩ := hphi85 2 19 _ rfl rfl rfl
                have e90 : f81 19 = (Value.pointer (some (elA v_r_Table ((0 : Int)).toNat))) := hf89
                exact OpX.val u91 wd82 rfl (op_load one_43 e90 (Ext.cell (Ext.trans hE7 hS86.ext) hc92)) (Ext.refl _) rfl
              · refine ObX.op rfl ?_
                intro f94 wd95 he96 hout97 hphi98
                have hS99 : St wd2 wd95 [] := St.extend hS47 he96
                have e100 : f94 3 = (Value.int .i64 (k12 : Int)) := (hout97 3 rfl).trans hf41
                exact OpX.val (Value.int .i64 (k12 : Int)) wd95 rfl (op_move e100) (Ext.refl _) ⟨rfl, hr24⟩
              · refine ObX.op rfl ?_
                intro f101 wd102 he103 hout104 hphi105
                have hS106 : St wd2 wd102 [] := St.extend hS47 he103
                obtain ⟨S107, hS108, hf109⟩ := hphi105 3 20 _ rfl rfl rfl
                have e110 : f101 20 = u91 := hf109
                obtain ⟨S111, hS112, hf113⟩ := hphi105 4 21 _ rfl rfl rfl
                obtain ⟨e114, hr115⟩ : f101 21 = (Value.int .i64 (k12 : Int)) ∧ InR .i64 (k12 : Int) := hf113
                exact OpX.val (Value.pointer (some (elA u91 ((k12 : Int)).toNat))) wd102 rfl (op_idx sl_43 (Ty.lift _ (Ext.trans hE7 hS106.ext) hr93) e110 e114 ha117 hb118) (Ext.refl _) rfl
              · refine ObX.op rfl ?_
                intro f120 wd121 he122 hout123 hphi124
                have hS125 : St wd2 wd121 [] := St.extend hS47 he122
                obtain ⟨S126, hS127, hf128⟩ := hphi124 5 22 _ rfl rfl rfl
                have e129 : f120 22 = (Value.pointer (some (elA u91 ((k12 : Int)).toNat))) := hf128
                exact OpX.val u130 wd121 rfl (op_load one_25 e129 (Ext.cell (Ext.trans hE7 hS125.ext) hc131)) (Ext.refl _) rfl
              · refine ObX.op rfl ?_
                intro f133 wd134 he135 hout136 hphi137
                have hS138 : St wd2 wd134 [] := St.extend hS47 he135
                have e139 : f133 4 = (Value.int .i64 (k31 : Int)) := (hout136 4 rfl).trans rfl
                exact OpX.val (Value.int .i64 (k31 : Int)) wd134 rfl (op_move e139) (Ext.refl _) ⟨rfl, hr46⟩
              · refine ObX.op rfl ?_
                intro f140 wd141 he142 hout143 hphi144
                have hS145 : St wd2 wd141 [] := St.extend hS47 he142
                obtain ⟨S146, hS147, hf148⟩ := hphi144 6 23 _ rfl rfl rfl
                have e149 : f140 23 = u130 := hf148
                obtain ⟨S150, hS151, hf152⟩ := hphi144 7 24 _ rfl rfl rfl
                obtain ⟨e153, hr154⟩ : f140 24 = (Value.int .i64 (k31 : Int)) ∧ InR .i64 (k31 : Int) := hf152
                exact OpX.val (Value.pointer (some (elA u130 ((k31 : Int)).toNat))) wd141 rfl (op_idx sl_25 (Ty.lift _ (Ext.trans hE7 hS145.ext) hr132) e149 e153 ha156 hb157) (Ext.refl _) rfl
              · refine ObX.op rfl ?_
                intro f159 wd160 he161 hout162 hphi163
                have hS164 : St wd2 wd160 [] := St.extend hS47 he161
                obtain ⟨S165, hS166, hf167⟩ := hphi163 8 25 _ rfl rfl rfl
                have e168 : f159 25 = (Value.pointer (some (elA u130 ((k31 : Int)).toNat))) := hf167
                exact OpX.val (Value.int .i64 x155) wd160 rfl (op_load one_2 e168 (Ext.cell (Ext.trans hE7 hS164.ext) hc170)) (Ext.refl _) ⟨rfl, hr171⟩
              · refine ObX.op rfl ?_
                intro f172 wd173 he174 hout175 hphi176
                have hS177 : St wd2 wd173 [] := St.extend hS47 he174
                have e178 : f172 3 = (Value.int .i64 (k12 : Int)) := (hout175 3 rfl).trans hf41
                exact OpX.val (Value.int .i64 (k12 : Int)) wd173 rfl (op_move e178) (Ext.refl _) ⟨rfl, hr24⟩
              · refine ObX.op rfl ?_
                intro f179 wd180 he181 hout182 hphi183
                have hS184 : St wd2 wd180 [] := St.extend hS47 he181
                have e185 : f179 4 = (Value.int .i64 (k31 : Int)) := (hout182 4 rfl).trans rfl
                exact OpX.val (Value.int .i64 (k31 : Int)) wd180 rfl (op_move e185) (Ext.refl _) ⟨rfl, hr46⟩
              · refine ObX.op rfl ?_
                intro f186 wd187 he188 hout189 hphi190
                have hS191 : St wd2 wd187 [] := St.extend hS47 he188
                obtain ⟨S192, hS193, hf194⟩ := hphi190 10 27 _ rfl rfl rfl
                obtain ⟨e195, hr196⟩ : f186 27 = (Value.int .i64 (k12 : Int)) ∧ InR .i64 (k12 : Int) := hf194
                obtain ⟨S197, hS198, hf199⟩ := hphi190 11 28 _ rfl rfl rfl
                obtain ⟨e200, hr201⟩ : f186 28 = (Value.int .i64 (k31 : Int)) ∧ InR .i64 (k31 : Int) := hf199
                refine OpX.call rfl (op_call fn_103 (args2 e195 e200)) (Ret.mono (c_impl_delta hr196 hr201 hx203) ?_)
                rintro _ wd205 ⟨rfl, hr204, he206⟩
                exact ⟨he206, _, noS _ _, ⟨rfl, hr204⟩⟩
              · refine ObX.op rfl ?_
                intro f208 wd209 he210 hout211 hphi212
                have hS213 : St wd2 wd209 [] := St.extend hS47 he210
                obtain ⟨S214, hS215, hf216⟩ := hphi212 9 26 _ rfl rfl rfl
                obtain ⟨e217, hr218⟩ : f208 26 = (Value.int .i64 x155) ∧ InR .i64 x155 := hf216
                obtain ⟨S219, hS220, hf221⟩ := hphi212 12 29 _ rfl rfl rfl
                obtain ⟨e222, hr223⟩ : f208 29 = (Value.int .i64 x202) ∧ InR .i64 x202 := hf221
                exact OpX.val (Value.bool (x155 != x202)) wd209 rfl (op_neq e217 e222) (Ext.refl _) rfl
              · refine ObX.op rfl ?_
                intro f224 wd225 he226 hout227 hphi228
                have hS229 : St wd2 wd225 [] := St.extend hS47 he226
                obtain ⟨S230, hS231, hf232⟩ := hphi228 13 30 _ rfl rfl rfl
                have e233 : f224 30 = (Value.bool (x155 != x202)) := hf232
                exact OpX.val (Value.bool (x155 != x202)) wd225 rfl (op_move e233) (Ext.refl _) rfl
              · refine ObX.op rfl ?_
                intro f237 wd238 he239 hout240 hphi241
                obtain ⟨S242, hS243, hf244⟩ := hphi241 14 31 _ rfl rfl rfl
                have e245 : f237 31 = (Value.bool (x155 != x202)) := hf244
                exact OpX.skip (wanted_skip rfl rfl e245 hc236) rfl
              · refine ObX.op rfl ?_
                intro f246 wd247 he248 hout249 hphi250
                obtain ⟨S251, hS252, hf253⟩ := hphi250 14 31 _ rfl rfl rfl
                have e254 : f246 31 = (Value.bool (x155 != x202)) := hf253
                exact OpX.skip (wanted_skip rfl rfl e254 hc236) rfl
              · refine ObX.op rfl ?_
                intro f255 wd256 he257 hout258 hphi259
                obtain ⟨S260, hS261, hf262⟩ := hphi259 14 31 _ rfl rfl rfl
                have e263 : f255 31 = (Value.bool (x155 != x202)) := hf262
                exact OpX.skip (wanted_skip rfl rfl e263 hc236) rfl
              · refine ObX.op rfl ?_
                intro f264 wd265 he266 hout267 hphi268
                obtain ⟨S269, hS270, hf271⟩ := hphi268 14 31 _ rfl rfl rfl
                have e272 : f264 31 = (Value.bool (x155 != x202)) := hf271
                exact OpX.skip (wanted_skip rfl rfl e272 hc236) rfl
              · refine ObX.op rfl ?_
                intro f273 wd274 he275 hout276 hphi277
                obtain ⟨S278, hS279, hf280⟩ := hphi277 14 31 _ rfl rfl rfl
                have e281 : f273 31 = (Value.bool (x155 != x202)) := hf280
                exact OpX.skip (wanted_skip rfl rfl e281 hc236) rfl
              · refine ObX.op rfl ?_
                intro f282 wd283 he284 hout285 hphi286
                obtain ⟨S287, hS288, hf289⟩ := hphi286 14 31 _ rfl rfl rfl
                have e290 : f282 31 = (Value.bool (x155 != x202)) := hf289
                exact OpX.skip (wanted_skip rfl rfl e290 hc236) rfl
              · refine ObX.op rfl ?_
                intro f291 wd292 he293 hout294 hphi295
                obtain ⟨S296, hS297, hf298⟩ := hphi295 14 31 _ rfl rfl rfl
                have e299 : f291 31 = (Value.bool (x155 != x202)) := hf298
                exact OpX.skip (wanted_skip rfl rfl e299 hc236) rfl
              · refine ObX.op rfl ?_
                intro f300 wd301 he302 hout303 hphi304
                obtain ⟨S305, hS306, hf307⟩ := hphi304 14 31 _ rfl rfl rfl
                have e308 : f300 31 = (Value.bool (x155 != x202)) := hf307
                exact OpX.skip (wanted_skip rfl rfl e308 hc236) rfl
              · refine ObX.op rfl ?_
                intro f309 wd310 he311 hout312 hphi313
                obtain ⟨S314, hS315, hf316⟩ := hphi313 14 31 _ rfl rfl rfl
                have e317 : f309 31 = (Value.bool (x155 != x202)) := hf316
                exact OpX.skip (wanted_skip rfl rfl e317 hc236) rfl
              · refine ObX.op rfl ?_
                intro f318 wd319 he320 hout321 hphi322
                obtain ⟨S323, hS324, hf325⟩ := hphi322 14 31 _ rfl rfl rfl
                have e326 : f318 31 = (Value.bool (x155 != x202)) := hf325
                exact OpX.skip (wanted_skip rfl rfl e326 hc236) rfl
              · refine ObX.op rfl ?_
                intro f327 wd328 he329 hout330 hphi331
                obtain ⟨S332, hS333, hf334⟩ := hphi331 14 31 _ rfl rfl rfl
                have e335 : f327 31 = (Value.bool (x155 != x202)) := hf334
                exact OpX.skip (wanted_skip rfl rfl e335 hc236) rfl
              · refine ObX.op rfl ?_
                intro f336 wd337 he338 hout339 hphi340
                obtain ⟨S341, hS342, hf343⟩ := hphi340 14 31 _ rfl rfl rfl
                have e344 : f336 31 = (Value.bool (x155 != x202)) := hf343
                exact OpX.skip (wanted_skip rfl rfl e344 hc236) rfl
              · refine ObX.op rfl ?_
                intro f345 wd346 he347 hout348 hphi349
                obtain ⟨S350, hS351, hf352⟩ := hphi349 14 31 _ rfl rfl rfl
                have e353 : f345 31 = (Value.bool (x155 != x202)) := hf352
                exact OpX.skip (wanted_skip rfl rfl e353 hc236) rfl
              · intro f354 wd355 Ss356 he357 hout358 hSn359 hSd360 hphi361
                show WL _ _ _ _ _ _ _
                have hS362 : St wd2 wd355 [] := St.extend hS47 he357
                have e363 : f354 31 = (Value.bool (x155 != x202)) := hphi361 14 31 _ (by decide) rfl rfl
                have e364 : f354 32 = undef := hphi361 15 32 _ (by decide) rfl rfl
                have e365 : f354 33 = undef := hphi361 16 33 _ (by decide) rfl rfl
                have e366 : f354 34 = undef := hphi361 17 34 _ (by decide) rfl rfl
                have e367 : f354 35 = undef := hphi361 18 35 _ (by decide) rfl rfl
                have e368 : f354 36 = undef := hphi361 19 36 _ (by decide) rfl rfl
                have e369 : f354 37 = undef := hphi361 20 37 _ (by decide) rfl rfl
                have e370 : f354 38 = undef := hphi361 21 38 _ (by decide) rfl rfl
                have e371 : f354 39 = undef := hphi361 22 39 _ (by decide) rfl rfl
                have e372 : f354 40 = undef := hphi361 23 40 _ (by decide) rfl rfl
                have e373 : f354 41 = undef := hphi361 24 41 _ (by decide) rfl rfl
                have e374 : f354 42 = undef := hphi361 25 42 _ (by decide) rfl rfl
                have e375 : f354 43 = undef := hphi361 26 43 _ (by decide) rfl rfl
                have e376 : f354 44 = undef := hphi361 27 44 _ (by decide) rfl rfl
                have e377 : f354 1 = (Value.pointer (some ⟨b1, 0, none⟩)) := (hout358 1 rfl).trans hf40
                have e378 : f354 3 = (Value.int .i64 (k12 : Int)) := (hout358 3 rfl).trans hf41
                have e379 : f354 4 = (Value.int .i64 (k31 : Int)) := (hout358 4 rfl).trans rfl
                have e380 : f354 7 = (Value.int .i64 ((r_Table).length : Int)) := (hout358 7 rfl).trans hf42
                have e381 : f354 8 = (Value.int .i64 (k12 : Int)) := (hout358 8 rfl).trans hf43
                have e382 : f354 13 = (Value.int .i64 ((r_Table).length : Int)) := (hout358 13 rfl).trans hf44
                have e383 : f354 14 = (Value.int .i64 (k31 : Int)) := (hout358 14 rfl).trans hf45
                refine WL.gskip rfl (bool_of e363 hc236) rfl ?_
                refine WL.val (Value.bool true) _ (op_pick_t (evb_of e363 hc236) rfl) rfl ?_
                refine WL.nil ?_
                obtain rfl := Option.some.inj hj235
                exact ⟨e377, e378, e379, e380, e381, e382, e383, rfl, hS362⟩
            · replace hj235 := inegb hj235 hc236
              obtain ⟨x439, hx442, hj235⟩ := bs hj235
              obtain ⟨ha440, hb441, hx442⟩ := idx_some hx442
              obtain ⟨u457, hc458, hr459⟩ := repSl.el r_r_Table hx442
              obtain ⟨x474, hx477, hj235⟩ := bs hj235
              obtain ⟨ha475, hb476, hx477⟩ := idx_some hx477
              obtain ⟨u492, hc493, hr494⟩ := repSl.el hr459 hx477
              obtain ⟨x525, hx528, hj235⟩ := bs hj235
              obtain ⟨ha526, hb527, hx528⟩ := idx_some hx528
              obtain ⟨u543, hc544, hr545⟩ := repSl.el hr494 hx528
              obtain ⟨rfl, hr545⟩ := hr545
              obtain ⟨x588, hx589, hj235⟩ := bs hj235
              refine W.drawR mixo 28 [] [fun _ v _ _ => v = (Value.pointer (some ⟨b1, 0, none⟩)), fun _ v _ _ => v = v_r_Table, fun _ v _ _ => v = (Value.pointer (some (elA v_r_Table ((0 : Int)).toNat))), fun _ v _ _ => v = u91, fun _ v _ _ => v = (Value.int .i64 (k12 : Int)) ∧ InR .i64 (k12 : Int), fun _ v _ _ => v = (Value.pointer (some (elA u91 ((k12 : Int)).toNat))), fun _ v _ _ => v = u130, fun _ v _ _ => v = (Value.int .i64 (k31 : Int)) ∧ InR .i64 (k31 : Int), fun _ v _ _ => v = (Value.pointer (some (elA u130 ((k31 : Int)).toNat))), fun _ v _ _ => v = (Value.int .i64 x155) ∧ InR .i64 x155, fun _ v _ _ => v = (Value.int .i64 (k12 : Int)) ∧ InR .i64 (k12 : Int), fun _ v _ _ => v = (Value.int .i64 (k31 : Int)) ∧ InR .i64 (k31 : Int), fun _ v _ _ => v = (Value.int .i64 x202) ∧ InR .i64 x202, fun _ v _ _ => v = (Value.bool (x155 != x202)), fun _ v _ _ => v = (Value.bool (x155 != x202)), fun _ v _ _ => v = (Value.pointer (some ⟨b1, 0, none⟩)), fun _ v _ _ => v = v_r_Table, fun _ v _ _ => v = (Value.int .i64 (k12 : Int)) ∧ InR .i64 (k12 : Int), fun _ v _ _ => v = (Value.pointer (some (elA v_r_Table ((k12 : Int)).toNat))), fun _ v _ _ => v = u457, fun _ v _ _ => v = (Value.pointer (some (elA u457 ((0 : Int)).toNat))), fun _ v _ _ => v = u492, fun _ v _ _ => v = (Value.int .i64 (k31 : Int)) ∧ InR .i64 (k31 : Int), fun _ v _ _ => v = (Value.pointer (some (elA u492 ((k31 : Int)).toNat))), fun _ v _ _ => v = (Value.int .i64 x525) ∧ InR .i64 x525, fun _ v _ _ => v = (Value.int .i64 (k12 : Int)) ∧ InR .i64 (k12 : Int), fun _ v _ _ => v = (Value.int .i64 (k31 : Int)) ∧ InR .i64 (k31 : Int), fun _ v _ _ => v = (Value.int .i64 x588) ∧ InR .i64 x588] (by kernel_rfl) (by kernel_rfl) ⟨⟨fun _ _ _ _ _ _ h => h, fun _ _ _ _ _ _ h => h⟩, ⟨fun _ _ _ _ _ _ h => h, fun _ _ _ _ _ _ h => h⟩, ⟨fun _ _ _ _ _ _ h => h, fun _ _ _ _ _ _ h => h⟩, ⟨fun _ _ _ _ _ _ h => h, fun _ _ _ _ _ _ h => h⟩, ⟨fun _ _ _ _ _ _ h => h, fun _ _ _ _ _ _ h => h⟩, ⟨fun _ _ _ _ _ _ h => h, fun _ _ _ _ _ _ h => h⟩, ⟨fun _ _ _ _ _ _ h => h, fun _ _ _ _ _ _ h => h⟩, ⟨fun _ _ _ _ _ _ h => h, fun _ _ _ _ _ _ h => h⟩, ⟨fun _ _ _ _ _ _ h => h, fun _ _ _ _ _ _ h => h⟩, ⟨fun _ _ _ _ _ _ h => h, fun _ _ _ _ _ _ h => h⟩, ⟨fun _ _ _ _ _ _ h => h, fun _ _ _ _ _ _ h => h⟩, ⟨fun _ _ _ _ _ _ h => h, fun _ _ _ _ _ _ h => h⟩, ⟨fun _ _ _ _ _ _ h => h, fun _ _ _ _ _ _ h => h⟩, ⟨fun _ _ _ _ _ _ h => h, fun _ _ _ _ _ _ h => h⟩, ⟨fun _ _ _ _ _ _ h => h, fun _ _ _ _ _ _ h => h⟩, ⟨fun _ _ _ _ _ _ h => h, fun _ _ _ _ _ _ h => h⟩, ⟨fun _ _ _ _ _ _ h => h, fun _ _ _ _ _ _ h => h⟩, ⟨fun _ _ _ _ _ _ h => h, fun _ _ _ _ _ _ h => h⟩, ⟨fun _ _ _ _ _ _ h => h, fun _ _ _ _ _ _ h => h⟩, ⟨fun _ _ _ _ _ _ h => h, fun _ _ _ _ _ _ h => h⟩, ⟨fun _ _ _ _ _ _ h => h, fun _ _ _ _ _ _ h => h⟩, ⟨fun _ _ _ _ _ _ h => h, fun _ _ _ _ _ _ h => h⟩, ⟨fun _ _ _ _ _ _ h => h, fun _ _ _ _ _ _ h => h⟩, ⟨fun _ _ _ _ _ _ h => h, fun _ _ _ _ _ _ h => h⟩, ⟨fun _ _ _ _ _ _ h => h, fun _ _ _ _ _ _ h => h⟩, ⟨fun _ _ _ _ _ _ h => h, fun _ _ _ _ _ _ h => h⟩, ⟨fun _ _ _ _ _ _ h => h, fun _ _ _ _ _ _ h => h⟩, ⟨fun _ _ _ _ _ _ h => h, fun _ _ _ _ _ _ h => h⟩, trivial⟩ ⟨?_, ?_, ?_, ?_, ?_, ?_, ?_, ?_, ?_, ?_, ?_, ?_, ?_, ?_, ?_, ?_, ?_, ?_, ?_, ?_, ?_, ?_, ?_, ?_, ?_, ?_, ?_, ?_, trivial⟩ ?_
              · refine ObX.op rfl ?_
                intro f50 wd51 he52 hout53 hphi54
                have hS55 : St wd2 wd51 [] := St.extend hS47 he52
                have e56 : f50 1 = (Value.pointer (some ⟨b1, 0, none⟩)) := (hout53 1 rfl).trans hf40
                exact OpX.val (Value.pointer (some ⟨b1, 0, none⟩)) wd51 rfl (op_fieldAddr fd_29_0 e56) (Ext.refl _) rfl
              · refine ObX.op rfl ?_
                intro f57 wd58 he59 hout60 hphi61
                have hS62 : St wd2 wd58 [] := St.extend hS47 he59
                obtain ⟨S63, hS64, hf65⟩ := hphi61 0 17 _ rfl rfl rfl
                have e66 : f57 17 = (Value.pointer (some ⟨b1, 0, none⟩)) := hf65
                exact OpX.val v_r_Table wd58 rfl (op_load one_22 e66 (BoxAt.cell (BoxAt.lift hS62.ext hx6) rfl)) (Ext.refl _) rfl
              · refine ObX.op rfl ?_
                intro f67 wd68 he69 hout70 hphi71
                have hS72 : St wd2 wd68 [] := St.extend hS47 he69
                obtain ⟨S73, hS74, hf75⟩ := hphi71 1 18 _ rfl rfl rfl
                have e76 : f67 18 = v_r_Table := hf75
                exact OpX.val (Value.pointer (some (elA v_r_Table ((0 : Int)).toNat))) wd68 rfl (op_idx sl_22 (Ty.lift _ (Ext.trans hE7 hS72.ext) r_r_Table) e76 rfl ha78 hb79) (Ext.refl _) rfl
              · refine ObX.op rfl ?_
                intro f81 wd82 he83 hout84 hphi85
                have hS86 : St wd2 wd82 [] := St.extend hS47 he83
                obtain ⟨S87, hS88, hf89⟩ := hphi85 2 19 _ rfl rfl rfl
                have e90 : f81 19 = (Value.pointer (some (elA v_r_Table ((0 : Int)).toNat))) := hf89
                exact OpX.val u91 wd82 rfl (op_load one_43 e90 (Ext.cell (Ext.trans hE7 hS86.ext) hc92)) (Ext.refl _) rfl
              · refine ObX.op rfl ?_
                intro f94 wd95 he96 hout97 hphi98
                have hS99 : St wd2 wd95 [] := St.extend hS47 he96
                have e100 : f94 3 = (Value.int .i64 (k12 : Int)) := (hout97 3 rfl).trans hf41
                exact OpX.val (Value.int .i64 (k12 : Int)) wd95 rfl (op_move e100) (Ext.refl _) ⟨rfl, hr24⟩
              · refine ObX.op rfl ?_
                intro f101 wd102 he103 hout104 hphi105
                have hS106 : St wd2 wd102 [] := St.extend hS47 he103
                obtain ⟨S107, hS108, hf109⟩ := hphi105 3 20 _ rfl rfl rfl
                have e110 : f101 20 = u91 := hf109
                obtain ⟨S111, hS112, hf113⟩ := hphi105 4 21 _ rfl rfl rfl
                obtain ⟨e114, hr115⟩ : f101 21 = (Value.int .i64 (k12 : Int)) ∧ InR .i64 (k12 : Int) := hf113
                exact OpX.val (Value.pointer (some (elA u91 ((k12 : Int)).toNat))) wd102 rfl (op_idx sl_43 (Ty.lift _ (Ext.trans hE7 hS106.ext) hr93) e110 e114 ha117 hb118) (Ext.refl _) rfl
              · refine ObX.op rfl ?_
                intro f120 wd121 he122 hout123 hphi124
                have hS125 : St wd2 wd121 [] := St.extend hS47 he122
                obtain ⟨S126, hS127, hf128⟩ := hphi124 5 22 _ rfl rfl rfl
                have e129 : f120 22 = (Value.pointer (some (elA u91 ((k12 : Int)).toNat))) := hf128
                exact OpX.val u130 wd121 rfl (op_load one_25 e129 (Ext.cell (Ext.trans hE7 hS125.ext) hc131)) (Ext.refl _) rfl
              · refine ObX.op rfl ?_
                intro f133 wd134 he135 hout136 hphi137
                have hS138 : St wd2 wd134 [] := St.extend hS47 he135
                have e139 : f133 4 = (Value.int .i64 (k31 : Int)) := (hout136 4 rfl).trans rfl
                exact OpX.val (Value.int .i64 (k31 : Int)) wd134 rfl (op_move e139) (Ext.refl _) ⟨rfl, hr46⟩
              · refine ObX.op rfl ?_
                intro f140 wd141 he142 hout143 hphi144
                have hS145 : St wd2 wd141 [] := St.extend hS47 he142
                obtain ⟨S146, hS147, hf148⟩ := hphi144 6 23 _ rfl rfl rfl
                have e149 : f140 23 = u130 := hf148
                obtain ⟨S150, hS151, hf152⟩ := hphi144 7 24 _ rfl rfl rfl
                obtain ⟨e153, hr154⟩ : f140 24 = (Value.int .i64 (k31 : Int)) ∧ InR .i64 (k31 : Int) := hf152
                exact OpX.val (Value.pointer (some (elA u130 ((k31 : Int)).toNat))) wd141 rfl (op_idx sl_25 (Ty.lift _ (Ext.trans hE7 hS145.ext) hr132) e149 e153 ha156 hb157) (Ext.refl _) rfl
              · refine ObX.op rfl ?_
                intro f159 wd160 he161 hout162 hphi163
                have hS164 : St wd2 wd160 [] := St.extend hS47 he161
                obtain ⟨S165, hS166, hf167⟩ := hphi163 8 25 _ rfl rfl rfl
                have e168 : f159 25 = (Value.pointer (some (elA u130 ((k31 : Int)).toNat))) := hf167
                exact OpX.val (Value.int .i64 x155) wd160 rfl (op_load one_2 e168 (Ext.cell (Ext.trans hE7 hS164.ext) hc170)) (Ext.refl _) ⟨rfl, hr171⟩
              · refine ObX.op rfl ?_
                intro f172 wd173 he174 hout175 hphi176
                have hS177 : St wd2 wd173 [] := St.extend hS47 he174
                have e178 : f172 3 = (Value.int .i64 (k12 : Int)) := (hout175 3 rfl).trans hf41
                exact OpX.val (Value.int .i64 (k12 : Int)) wd173 rfl (op_move e178) (Ext.refl _) ⟨rfl, hr24⟩
              · refine ObX.op rfl ?_
                intro f179 wd180 he181 hout182 hphi183
                have hS184 : St wd2 wd180 [] := St.extend hS47 he181
                have e185 : f179 4 = (Value.int .i64 (k31 : Int)) := (hout182 4 rfl).trans rfl
                exact OpX.val (Value.int .i64 (k31 : Int)) wd180 rfl (op_move e185) (Ext.refl _) ⟨rfl, hr46⟩
              · refine ObX.op rfl ?_
                intro f186 wd187 he188 hout189 hphi190
                have hS191 : St wd2 wd187 [] := St.extend hS47 he188
                obtain ⟨S192, hS193, hf194⟩ := hphi190 10 27 _ rfl rfl rfl
                obtain ⟨e195, hr196⟩ : f186 27 = (Value.int .i64 (k12 : Int)) ∧ InR .i64 (k12 : Int) := hf194
                obtain ⟨S197, hS198, hf199⟩ := hphi190 11 28 _ rfl rfl rfl
                obtain ⟨e200, hr201⟩ : f186 28 = (Value.int .i64 (k31 : Int)) ∧ InR .i64 (k31 : Int) := hf199
                refine OpX.call rfl (op_call fn_103 (args2 e195 e200)) (Ret.mono (c_impl_delta hr196 hr201 hx203) ?_)
                rintro _ wd205 ⟨rfl, hr204, he206⟩
                exact ⟨he206, _, noS _ _, ⟨rfl, hr204⟩⟩
              · refine ObX.op rfl ?_
                intro f208 wd209 he210 hout211 hphi212
                have hS213 : St wd2 wd209 [] := St.extend hS47 he210
                obtain ⟨S214, hS215, hf216⟩ := hphi212 9 26 _ rfl rfl rfl
                obtain ⟨e217, hr218⟩ : f208 26 = (Value.int .i64 x155) ∧ InR .i64 x155 := hf216
                obtain ⟨S219, hS220, hf221⟩ := hphi212 12 29 _ rfl rfl rfl
                obtain ⟨e222, hr223⟩ : f208 29 = (Value.int .i64 x202) ∧ InR .i64 x202 := hf221
                exact OpX.val (Value.bool (x155 != x202)) wd209 rfl (op_neq e217 e222) (Ext.refl _) rfl
              · refine ObX.op rfl ?_
                intro f224 wd225 he226 hout227 hphi228
                have hS229 : St wd2 wd225 [] := St.extend hS47 he226
                obtain ⟨S230, hS231, hf232⟩ := hphi228 13 30 _ rfl rfl rfl
                have e233 : f224 30 = (Value.bool (x155 != x202)) := hf232
                exact OpX.val (Value.bool (x155 != x202)) wd225 rfl (op_move e233) (Ext.refl _) rfl
              · refine ObX.op rfl ?_
                intro f384 wd385 he386 hout387 hphi388
                have hS389 : St wd2 wd385 [] := St.extend hS47 he386
                have e390 : f384 1 = (Value.pointer (some ⟨b1, 0, none⟩)) := (hout387 1 rfl).trans hf40
                obtain ⟨S391, hS392, hf393⟩ := hphi388 14 31 _ rfl rfl rfl
                have e394 : f384 31 = (Value.bool (x155 != x202)) := hf393
                exact OpX.val (Value.pointer (some ⟨b1, 0, none⟩)) wd385 (wanted_run rfl rfl e394 hc236) (op_fieldAddr fd_29_0 e390) (Ext.refl _) rfl
              · refine ObX.op rfl ?_
                intro f395 wd396 he397 hout398 hphi399
                have hS400 : St wd2 wd396 [] := St.extend hS47 he397
                obtain ⟨S401, hS402, hf403⟩ := hphi399 14 31 _ rfl rfl rfl
                have e404 : f395 31 = (Value.bool (x155 != x202)) := hf403
                obtain ⟨S405, hS406, hf407⟩ := hphi399 15 32 _ rfl rfl rfl
                have e408 : f395 32 = (Value.pointer (some ⟨b1, 0, none⟩)) := hf407
                exact OpX.val v_r_Table wd396 (wanted_run rfl rfl e404 hc236) (op_load one_22 e408 (BoxAt.cell (BoxAt.lift hS400.ext hx6) rfl)) (Ext.refl _) rfl
              · refine ObX.op rfl ?_
                intro f409 wd410 he411 hout412 hphi413
                have hS414 : St wd2 wd410 [] := St.extend hS47 he411
                have e415 : f409 3 = (Value.int .i64 (k12 : Int)) := (hout412 3 rfl).trans hf41
                obtain ⟨S416, hS417, hf418⟩ := hphi413 14 31 _ rfl rfl rfl
                have e419 : f409 31 = (Value.bool (x155 != x202)) := hf418
                exact OpX.val (Value.int .i64 (k12 : Int)) wd410 (wanted_run rfl rfl e419 hc236) (op_move e415) (Ext.refl _) ⟨rfl, hr24⟩
              · refine ObX.op rfl ?_
                intro f420 wd421 he422 hout423 hphi424
                have hS425 : St wd2 wd421 [] := St.extend hS47 he422
                obtain ⟨S426, hS427, hf428⟩ := hphi424 14 31 _ rfl rfl rfl
                have e429 : f420 31 = (Value.bool (x155 != x202)) := hf428
                obtain ⟨S430, hS431, hf432⟩ := hphi424 16 33 _ rfl rfl rfl
                have e433 : f420 33 = v_r_Table := hf432
                obtain ⟨S434, hS435, hf436⟩ := hphi424 17 34 _ rfl rfl rfl
                obtain ⟨e437, hr438⟩ : f420 34 = (Value.int .i64 (k12 : Int)) ∧ InR .i64 (k12 : Int) := hf436
                exact OpX.val (Value.pointer (some (elA v_r_Table ((k12 : Int)).toNat))) wd421 (wanted_run rfl rfl e429 hc236) (op_idx sl_22 (Ty.lift _ (Ext.trans hE7 hS425.ext) r_r_Table) e433 e437 ha440 hb441) (Ext.refl _) rfl
              · refine ObX.op rfl ?_
                intro f443 wd444 he445 hout446 hphi447
                have hS448 : St wd2 wd444 [] := St.extend hS47 he445
                obtain ⟨S449, hS450, hf451⟩ := hphi447 14 31 _ rfl rfl rfl
                have e452 : f443 31 = (Value.bool (x155 != x202)) := hf451
                obtain ⟨S453, hS454, hf455⟩ := hphi447 18 35 _ rfl rfl rfl
                have e456 : f443 35 = (Value.pointer (some (elA v_r_Table ((k12 : Int)).toNat))) := hf455
                exact OpX.val u457 wd444 (wanted_run rfl rfl e452 hc236) (op_load one_43 e456 (Ext.cell (Ext.trans hE7 hS448.ext) hc458)) (Ext.refl _) rfl
              · refine ObX.op rfl ?_
                intro f460 wd461 he462 hout463 hphi464
                have hS465 : St wd2 wd461 [] := St.extend hS47 he462
                obtain ⟨S466, hS467, hf468⟩ := hphi464 14 31 _ rfl rfl rfl
                have e469 : f460 31 = (Value.bool (x155 != x202)) := hf468
                obtain ⟨S470, hS471, hf472⟩ := hphi464 19 36 _ rfl rfl rfl
                have e473 : f460 36 = u457 := hf472
                exact OpX.val (Value.pointer (some (elA u457 ((0 : Int)).toNat))) wd461 (wanted_run rfl rfl e469 hc236) (op_idx sl_43 (Ty.lift _ (Ext.trans hE7 hS465.ext) hr459) e473 rfl ha475 hb476) (Ext.refl _) rfl
              · refine ObX.op rfl ?_
                intro f478 wd479 he480 hout481 hphi482
                have hS483 : St wd2 wd479 [] := St.extend hS47 he480
                obtain ⟨S484, hS485, hf486⟩ := hphi482 14 31 _ rfl rfl rfl
                have e487 : f478 31 = (Value.bool (x155 != x202)) := hf486
                obtain ⟨S488, hS489, hf490⟩ := hphi482 20 37 _ rfl rfl rfl
                have e491 : f478 37 = (Value.pointer (some (elA u457 ((0 : Int)).toNat))) := hf490
                exact OpX.val u492 wd479 (wanted_run rfl rfl e487 hc236) (op_load one_25 e491 (Ext.cell (Ext.trans hE7 hS483.ext) hc493)) (Ext.refl _) rfl
              · refine ObX.op rfl ?_
                intro f495 wd496 he497 hout498 hphi499
                have hS500 : St wd2 wd496 [] := St.extend hS47 he497
                have e501 : f495 4 = (Value.int .i64 (k31 : Int)) := (hout498 4 rfl).trans rfl
                obtain ⟨S502, hS503, hf504⟩ := hphi499 14 31 _ rfl rfl rfl
                have e505 : f495 31 = (Value.bool (x155 != x202)) := hf504
                exact OpX.val (Value.int .i64 (k31 : Int)) wd496 (wanted_run rfl rfl e505 hc236) (op_move e501) (Ext.refl _) ⟨rfl, hr46⟩
              · refine ObX.op rfl ?_
                intro f506 wd507 he508 hout509 hphi510
                have hS511 : St wd2 wd507 [] := St.extend hS47 he508
                obtain ⟨S512, hS513, hf514⟩ := hphi510 14 31 _ rfl rfl rfl
                have e515 : f506 31 = (Value.bool (x155 != x202)) := hf514
                obtain ⟨S516, hS517, hf518⟩ := hphi510 21 38 _ rfl rfl rfl
                have e519 : f506 38 = u492 := hf518
                obtain ⟨S520, hS521, hf522⟩ := hphi510 22 39 _ rfl rfl rfl
                obtain ⟨e523, hr524⟩ : f506 39 = (Value.int .i64 (k31 : Int)) ∧ InR .i64 (k31 : Int) := hf522
                exact OpX.val (Value.pointer (some (elA u492 ((k31 : Int)).toNat))) wd507 (wanted_run rfl rfl e515 hc236) (op_idx sl_25 (Ty.lift _ (Ext.trans hE7 hS511.ext) hr494) e519 e523 ha526 hb527) (Ext.refl _) rfl
              · refine ObX.op rfl ?_
                intro f529 wd530 he531 hout532 hphi533
                have hS534 : St wd2 wd530 [] := St.extend hS47 he531
                obtain ⟨S535, hS536, hf537⟩ := hphi533 14 31 _ rfl rfl rfl
                have e538 : f529 31 = (Value.bool (x155 != x202)) := hf537
                obtain ⟨S539, hS540, hf541⟩ := hphi533 23 40 _ rfl rfl rfl
                have e542 : f529 40 = (Value.pointer (some (elA u492 ((k31 : Int)).toNat))) := hf541
                exact OpX.val (Value.int .i64 x525) wd530 (wanted_run rfl rfl e538 hc236) (op_load one_2 e542 (Ext.cell (Ext.trans hE7 hS534.ext) hc544)) (Ext.refl _) ⟨rfl, hr545⟩
              · refine ObX.op rfl ?_
                intro f546 wd547 he548 hout549 hphi550
                have hS551 : St wd2 wd547 [] := St.extend hS47 he548
                have e552 : f546 3 = (Value.int .i64 (k12 : Int)) := (hout549 3 rfl).trans hf41
                obtain ⟨S553, hS554, hf555⟩ := hphi550 14 31 _ rfl rfl rfl
                have e556 : f546 31 = (Value.bool (x155 != x202)) := hf555
                exact OpX.val (Value.int .i64 (k12 : Int)) wd547 (wanted_run rfl rfl e556 hc236) (op_move e552) (Ext.refl _) ⟨rfl, hr24⟩
              · refine ObX.op rfl ?_
                intro f557 wd558 he559 hout560 hphi561
                have hS562 : St wd2 wd558 [] := St.extend hS47 he559
                have e563 : f557 4 = (Value.int .i64 (k31 : Int)) := (hout560 4 rfl).trans rfl
                obtain ⟨S564, hS565, hf566⟩ := hphi561 14 31 _ rfl rfl rfl
                have e567 : f557 31 = (Value.bool (x155 != x202)) := hf566
                exact OpX.val (Value.int .i64 (k31 : Int)) wd558 (wanted_run rfl rfl e567 hc236) (op_move e563) (Ext.refl _) ⟨rfl, hr46⟩
              · refine ObX.op rfl ?_
                intro f568 wd569 he570 hout571 hphi572
                have hS573 : St wd2 wd569 [] := St.extend hS47 he570
                obtain ⟨S574, hS575, hf576⟩ := hphi572 14 31 _ rfl rfl rfl
                have e577 : f568 31 = (Value.bool (x155 != x202)) := hf576
                obtain ⟨S578, hS579, hf580⟩ := hphi572 25 42 _ rfl rfl rfl
                obtain ⟨e581, hr582⟩ : f568 42 = (Value.int .i64 (k12 : Int)) ∧ InR .i64 (k12 : Int) := hf580
                obtain ⟨S583, hS584, hf585⟩ := hphi572 26 43 _ rfl rfl rfl
                obtain ⟨e586, hr587⟩ : f568 43 = (Value.int .i64 (k31 : Int)) ∧ InR .i64 (k31 : Int) := hf585
                refine OpX.call (wanted_run rfl rfl e577 hc236) (op_call fn_103 (args2 e581 e586)) (Ret.mono (c_impl_delta hr582 hr587 hx589) ?_)
                rintro _ wd591 ⟨rfl, hr590, he592⟩
                exact ⟨he592, _, noS _ _, ⟨rfl, hr590⟩⟩
              · intro f594 wd595 Ss596 he597 hout598 hSn599 hSd600 hphi601
                show WL _ _ _ _ _ _ _
                have hS602 : St wd2 wd595 [] := St.extend hS47 he597
                have e603 : f594 31 = (Value.bool (x155 != x202)) := hphi601 14 31 _ (by decide) rfl rfl
                have e604 : f594 32 = (Value.pointer (some ⟨b1, 0, none⟩)) := hphi601 15 32 _ (by decide) rfl rfl
                have e605 : f594 33 = v_r_Table := hphi601 16 33 _ (by decide) rfl rfl
                obtain ⟨e606, hr607⟩ : f594 34 = (Value.int .i64 (k12 : Int)) ∧ InR .i64 (k12 : Int) := hphi601 17 34 _ (by decide) rfl rfl
                have e608 : f594 35 = (Value.pointer (some (elA v_r_Table ((k12 : Int)).toNat))) := hphi601 18 35 _ (by decide) rfl rfl
                have e609 : f594 36 = u457 := hphi601 19 36 _ (by decide) rfl rfl
                have e610 : f594 37 = (Value.pointer (some (elA u457 ((0 : Int)).toNat))) := hphi601 20 37 _ (by decide) rfl rfl
                have e611 : f594 38 = u492 := hphi601 21 38 _ (by decide) rfl rfl
                obtain ⟨e612, hr613⟩ : f594 39 = (Value.int .i64 (k31 : Int)) ∧ InR .i64 (k31 : Int) := hphi601 22 39 _ (by decide) rfl rfl
                have e614 : f594 40 = (Value.pointer (some (elA u492 ((k31 : Int)).toNat))) := hphi601 23 40 _ (by decide) rfl rfl
                obtain ⟨e615, hr616⟩ : f594 41 = (Value.int .i64 x525) ∧ InR .i64 x525 := hphi601 24 41 _ (by decide) rfl rfl
                obtain ⟨e617, hr618⟩ : f594 42 = (Value.int .i64 (k12 : Int)) ∧ InR .i64 (k12 : Int) := hphi601 25 42 _ (by decide) rfl rfl
                obtain ⟨e619, hr620⟩ : f594 43 = (Value.int .i64 (k31 : Int)) ∧ InR .i64 (k31 : Int) := hphi601 26 43 _ (by decide) rfl rfl
                obtain ⟨e621, hr622⟩ : f594 44 = (Value.int .i64 x588) ∧ InR .i64 x588 := hphi601 27 44 _ (by decide) rfl rfl
                have e623 : f594 1 = (Value.pointer (some ⟨b1, 0, none⟩)) := (hout598 1 rfl).trans hf40
                have e624 : f594 3 = (Value.int .i64 (k12 : Int)) := (hout598 3 rfl).trans hf41
                have e625 : f594 4 = (Value.int .i64 (k31 : Int)) := (hout598 4 rfl).trans rfl
                have e626 : f594 7 = (Value.int .i64 ((r_Table).length : Int)) := (hout598 7 rfl).trans hf42
                have e627 : f594 8 = (Value.int .i64 (k12 : Int)) := (hout598 8 rfl).trans hf43
                have e628 : f594 13 = (Value.int .i64 ((r_Table).length : Int)) := (hout598 13 rfl).trans hf44
                have e629 : f594 14 = (Value.int .i64 (k31 : Int)) := (hout598 14 rfl).trans hf45
                refine WL.grun rfl (bool_of e603 hc236) ?_
                refine WL.val (Value.bool (x525 != x588)) _ (op_neq e615 e621) rfl ?_
                refine WL.val (Value.bool (x525 != x588)) _ (op_pick_f (evb_of e603 hc236) rfl) rfl ?_
                refine WL.nil ?_
                obtain rfl := Option.some.inj hj235
                exact ⟨e623, e624, e625, e626, e627, e628, e629, rfl, hS602⟩
          · intro f630 wd631 hq632
            obtain ⟨hf633, hf634, hf635, hf636, hf637, hf638, hf639, hf640, hS641⟩ := hq632
            show W _ _ _ _ _ _
            refine W.cond x234 hf640 (fun hc642 => ?_) (fun hc642 => ?_)
            · replace hb36 := ip hb36 hc642
              refine W.seq (W.region ?_)
              refine WL.val (Value.int .i64 (k12 : Int)) _ (op_move hf634) rfl ?_
              refine WL.val (Value.int .i64 (k31 : Int)) _ (op_move hf635) rfl ?_
              refine WL.litFlat (t := (Ty.i .i64)) (flat_i .i64) [(Value.int .i64 (0 : Int)), (Value.int .i64 (k12 : Int)), (Value.int .i64 (k31 : Int))] [(0 : Int), (k12 : Int), (k31 : Int)] hS641 sl_25 rfl rfl (fillL rfl ⟨rfl, rfl, rfl, rfl, rfl, rfl, rfl, rfl, rfl, trivial⟩) rfl rfl (litL ⟨⟨rfl, (inR_i64.2 (show (-9223372036854775808 : Int) ≤ 0 ∧ (0 : Int) ≤ 9223372036854775807 from by decide))⟩, ⟨rfl, hr24⟩, ⟨rfl, hr46⟩, trivial⟩) rfl ?_
              intro u644 wd645 hS646 he647
              replace hS646 : St wd2 wd645 [(Ty.sl (Ty.i .i64)).at u644 ([(0 : Int), (k12 : Int), (k31 : Int)] : (List Int))] := hS646
              refine WL.val u644 _ (op_assign rfl) rfl ?_
              refine WL.nil ?_
              show W _ _ _ _ _ _
              refine W.ret ?_
              obtain rfl := Option.some.inj hb36
              obtain rfl := hret39 _ rfl
              replace hb17 := onRes_ret hb17
              obtain rfl := Option.some.inj hb17
              obtain rfl := hret20 _ rfl
              replace h := onRes_ret h
              obtain rfl := Option.some.inj h
              show FinP _ _ _ _ _ _ _
              exact FinP.ret _ (res1 rfl rfl) ⟨u644, rfl, (nil_cons), (Ext.trans hE7 hS646.ext), (St.out (St.pick hS646 [0] rfl) (hE7))⟩
            · replace hb36 := inegb hb36 hc642
              refine W.skip ?_
              show W _ _ _ _ _ _
              refine W.region ?_
              refine WL.val (Value.int .i64 (w64 ((k31 : Int) + (1 : Int)))) _ (op_add hf639 rfl) rfl ?_
              refine WL.val (Value.int .i64 (w64 ((k31 : Int) + (1 : Int)))) _ (op_move rfl) rfl ?_
              refine WL.nil ?_
              obtain rfl := Option.some.inj hb36
              show ∃ s, _ = Ctl.next s ∧ _
              exact ⟨_, rfl, hf633, hf634, hf636, hf637, hf638, (ctr_next hl48 hr28), (ctr_rng hl48 hr28), hS641⟩
        · intro s653 f649 wd650 hs651 hI652
          obtain ⟨⟩ := s653
          replace hI652 : f649 1 = (Value.pointer (some ⟨b1, 0, none⟩)) ∧ f649 3 = (Value.int .i64 (k12 : Int)) ∧ f649 7 = (Value.int .i64 ((r_Table).length : Int)) ∧ f649 8 = (Value.int .i64 (k12 : Int)) ∧ f649 13 = (Value.int .i64 ((r_Table).length : Int)) ∧ f649 14 = Value.int .i64 (((r_Table).length : Nat) : Int) ∧ InR .i64 (((r_Table).length : Nat) : Int) ∧ St wd2 wd650 [] := hI652
          obtain ⟨hf654, hf655, hf656, hf657, hf658, hf659, hr660, hS661⟩ := hI652
          refine W.seq (W.region ?_)
          refine WL.val (Value.bool (decide ((((r_Table).length : Nat) : Int) < ((r_Table).length : Int)))) _ (op_lss hf659 hf658) rfl ?_
          have hl662 : ¬ (((r_Table).length : Nat) : Int) < ((r_Table).length : Int) := by omega
          refine WL.nil ?_
          show W _ _ _ _ _ _
          refine W.seq ?_
          refine W.condF (decide ((((r_Table).length : Nat) : Int) < ((r_Table).length : Int))) rfl (decide_eq_false hl662) ?_
          refine W.exit ?_
          show _ = _ ∧ _
          exact ⟨rfl, _, hs651, hf654, hf656, hf657, hS661⟩
      · rintro f663 wd664 ⟨s666, rfl, hq665⟩
        replace hb17 := onRes_fin hb17
        obtain ⟨⟩ := s666
        replace hq665 : f663 1 = (Value.pointer (some ⟨b1, 0, none⟩)) ∧ f663 7 = (Value.int .i64 ((r_Table).length : Int)) ∧ f663 8 = (Value.int .i64 (k12 : Int)) ∧ St wd2 wd664 [] := hq665
        obtain ⟨hf667, hf668, hf669, hS670⟩ := hq665
        show W _ _ _ _ _ _
        refine W.region ?_
        refine WL.val (Value.int .i64 (w64 ((k12 : Int) + (1 : Int)))) _ (op_add hf669 rfl) rfl ?_
        refine WL.val (Value.int .i64 (w64 ((k12 : Int) + (1 : Int)))) _ (op_move rfl) rfl ?_
        refine WL.nil ?_
        obtain rfl := Option.some.inj hb17
        show ∃ s, _ = Ctl.next s ∧ _
        exact ⟨_, rfl, hf667, hf668, (ctr_next hl26 hr9), (ctr_rng hl26 hr9), hS670⟩
    · intro s677 f673 wd674 hs675 hI676
      obtain ⟨⟩ := s677
      replace hI676 : f673 1 = (Value.pointer (some ⟨b1, 0, none⟩)) ∧ f673 7 = (Value.int .i64 ((r_Table).length : Int)) ∧ f673 8 = Value.int .i64 (((r_Table).length : Nat) : Int) ∧ InR .i64 (((r_Table).length : Nat) : Int) ∧ St wd2 wd674 [] := hI676
      obtain ⟨hf678, hf679, hf680, hr681, hS682⟩ := hI676
      refine W.seq (W.region ?_)
      refine WL.val (Value.bool (decide ((((r_Table).length : Nat) : Int) < ((r_Table).length : Int)))) _ (op_lss hf680 hf679) rfl ?_
      have hl683 : ¬ (((r_Table).length : Nat) : Int) < ((r_Table).length : Int) := by omega
      refine WL.nil ?_
      show W _ _ _ _ _ _
      refine W.seq ?_
      refine W.condF (decide ((((r_Table).length : Nat) : Int) < ((r_Table).length : Int))) rfl (decide_eq_false hl683) ?_
      refine W.exit ?_
      show _ = _ ∧ _
      exact ⟨rfl, _, hs675, hS682⟩
  · rintro f684 wd685 ⟨s687, rfl, hq686⟩
    replace h := onRes_fin h
    obtain ⟨⟩ := s687
    replace hq686 : St wd2 wd685 [] := hq686
    have hS688 := hq686
    show W _ _ _ _ _ _
    refine W.seq (W.region ?_)
    refine WL.val (Value.slice none 0 0) _ (op_assign rfl) rfl ?_
    refine WL.nil ?_
    show W _ _ _ _ _ _
    refine W.ret ?_
    obtain rfl := Option.some.inj h
    show FinP _ _ _ _ _ _ _
    exact FinP.ret _ (res1 rfl rfl) ⟨(Value.slice none 0 0), rfl, (fun _ => ⟨0, 0, rfl⟩), (Ext.trans hE7 hS688.ext), (St.out (St.pick (St.addNil (Ty.i .i64) hS688) [0] rfl) (hE7))⟩

theorem c_impl_Ring_onlyOf {w : World} {r_Table : (List (List (List Int)))} {v_r_Table : Value} {i : Int} (r_r_Table : (Ty.sl (Ty.sl (Ty.sl (Ty.i .i64)))).rep w v_r_Table r_Table) (r_i : InR .i64 i) {res : Int} (h : p_impl_Ring_onlyOf r_Table i  = some res) :
    Ret Try.prog 78 #[(Value.agg #[v_r_Table]), (Value.int .i64 i)] w (fun v w' => v = Value.int .i64 res ∧ InR .i64 res ∧ Ext w w') := by
  unfold p_impl_Ring_onlyOf at h
  have hS0 : St w w [] := St.start w
  refine Ret.start (fn := Try.f78) Try.func78 rfl 34 rfl rfl ?_
  refine W.seq (W.region ?_)
  refine WL.box hS0 rfl (cs := [v_r_Table]) rfl rfl ?_
  intro b1 wd2 hS3 he4 hx5
  replace hS3 : St w wd2 [bx b1 [v_r_Table]] := hS3
  have hx6 := St.boxAt hS3 0 rfl
  have hE7 : Ext w wd2 := hS3.ext
  have hS8 : St wd2 wd2 [] := St.start wd2
  refine WL.val (Value.int .i64 (0 : Int)) _ (op_assign rfl) rfl ?_
  refine WL.nil ?_
  show W _ _ _ _ _ _
  refine W.seq (W.region ?_)
  refine WL.val (Value.int .i64 (-1 : Int)) _ (op_assign rfl) rfl ?_
  refine WL.nil ?_
  show W _ _ _ _ _ _
  refine W.seq (W.seq (W.region ?_))
  refine WL.val (Value.pointer (some ⟨b1, 0, none⟩)) _ (op_fieldAddr fd_29_0 rfl) rfl ?_
  refine WL.val v_r_Table _ (op_load one_22 rfl (BoxAt.cell (BoxAt.lift hS8.ext hx6) rfl)) rfl ?_
  refine WL.val (Value.int .i64 i) _ (op_move rfl) rfl ?_
  obtain ⟨x9, hx12, h⟩ := bs h
  obtain ⟨ha10, hb11, hx12⟩ := idx_some hx12
  refine WL.val (Value.pointer (some (elA v_r_Table (i).toNat))) _ (op_idx sl_22 (Ty.lift _ (Ext.trans hE7 hS8.ext) r_r_Table) rfl rfl ha10 hb11) rfl ?_
  obtain ⟨u13, hc14, hr15⟩ := repSl.el r_r_Table hx12
  refine WL.val u13 _ (op_load one_43 rfl (Ext.cell (Ext.trans hE7 hS8.ext) hc14)) rfl ?_
  have hr16 := inR_len (Ty.lift _ (Ext.trans hE7 hS8.ext) hr15)
  refine WL.val (Value.int .i64 ((x9).length : Int)) _ (op_lenL sl_43 (Ty.lift _ (Ext.trans hE7 hS8.ext) hr15) rfl) rfl ?_
  refine WL.val (Value.int .i64 (0 : Int)) _ (op_move rfl) rfl ?_
  refine WL.nil ?_
  show W _ _ _ _ _ _
  obtain ⟨res17, hres18, h⟩ := bs h
  refine W.blockLoop (fun fq wq => ∃ s, res17 = Res.fin s ∧ fq 5 = Value.int .i64 s ∧ InR .i64 s ∧ St wd2 wq []) ?_ ?_
  · refine W.forN (fun k (s : Int) fq wq => fq 5 = Value.int .i64 s ∧ InR .i64 s ∧ fq 12 = u13 ∧ fq 13 = (Value.int .i64 ((x9).length : Int)) ∧ fq 14 = Value.int .i64 (k : Int) ∧ InR .i64 (k : Int) ∧ St wd2 wq []) hres18 ⟨rfl, (inR_i64.2 (show (-9223372036854775808 : Int) ≤ -1 ∧ (-1 : Int) ≤ 9223372036854775807 from by decide)), rfl, rfl, rfl, (inR_i64.2 (show (-9223372036854775808 : Int) ≤ 0 ∧ (0 : Int) ≤ 9223372036854775807 from by decide)), hS8⟩ ?_ ?_
    · intro k19 x20 ct21 f22 wd23 hk24 hb25 hI26 hbrk27 hret28
      replace hI26 : f22 5 = Value.int .i64 x20 ∧ InR .i64 x20 ∧ f22 12 = u13 ∧ f22 13 = (Value.int .i64 ((x9).length : Int)) ∧ f22 14 = Value.int .i64 (k19 : Int) ∧ InR .i64 (k19 : Int) ∧ St wd2 wd23 [] := hI26
      replace hb25 : p_impl_Ring_onlyOf_L1 x9 k19 x20 = some ct21 := hb25
      unfold p_impl_Ring_onlyOf_L1 at hb25
      obtain ⟨hf29, hr30, hf31, hf32, hf33, hr34, hS35⟩ := hI26
      refine W.seq (W.region ?_)
      refine WL.val (Value.bool (decide ((k19 : Int) < ((x9).length : Int)))) _ (op_lss hf33 hf32) rfl ?_
      have hl36 : (k19 : Int) < ((x9).length : Int) := by omega
      refine WL.nil ?_
      show W _ _ _ _ _ _
      refine W.seq ?_
      refine W.condT (decide ((k19 : Int) < ((x9).length : Int))) rfl (decide_eq_true hl36) ?_
      refine W.skip ?_
      show W _ _ _ _ _ _
      refine W.seq ?_
      refine W.block ?_
      refine W.seq (W.region ?_)
      refine WL.val (Value.int .i64 (k19 : Int)) _ (op_move hf33) rfl ?_
      obtain ⟨x38, hx41, hb25⟩ := bs hb25
      obtain ⟨ha39, hb40, hx41⟩ := idx_some hx41
      refine WL.val (Value.pointer (some (elA u13 ((k19 : Int)).toNat))) _ (op_idx sl_43 (Ty.lift _ (Ext.trans hE7 hS35.ext) hr15) hf31 hf33 ha39 hb40) rfl ?_
      obtain ⟨u42, hc43, hr44⟩ := repSl.el hr15 hx41
      refine WL.val u42 _ (op_load one_25 rfl (Ext.cell (Ext.trans hE7 hS35.ext) hc43)) rfl ?_
      refine WL.val (Value.int .i64 (k19 : Int)) _ (op_assign rfl) rfl ?_
      refine WL.val u42 _ (op_assign rfl) rfl ?_
      refine WL.nil ?_
      show W _ _ _ _ _ _
      refine W.seq (W.seq (W.region ?_))
      refine WL.val u42 _ (op_move rfl) rfl ?_
      obtain ⟨x45, hx48, hb25⟩ := bs hb25
      obtain ⟨ha46, hb47, hx48⟩ := idx_some hx48
      refine WL.val (Value.pointer (some (elA u42 ((0 : Int)).toNat))) _ (op_idx sl_25 (Ty.lift _ (Ext.trans hE7 hS35.ext) hr44) rfl rfl ha46 hb47) rfl ?_
      obtain ⟨u49, hc50, hr51⟩ := repSl.el hr44 hx48
      obtain ⟨rfl, hr51⟩ := hr51
      refine WL.val (Value.int .i64 x45) _ (op_load one_2 rfl (Ext.cell (Ext.trans hE7 hS35.ext) hc50)) rfl ?_
      refine WL.val (Value.bool (x45 == (0 : Int))) _ (op_eql rfl rfl) rfl ?_
      refine WL.nil ?_
      show W _ _ _ _ _ _
      refine W.cond (x45 == (0 : Int)) rfl (fun hc52 => ?_) (fun hc52 => ?_)
      · replace hb25 := ip hb25 hc52
        refine W.exit ?_
        show W _ _ _ _ _ _
        refine W.region ?_
        refine WL.val (Value.int .i64 (w64 ((k19 : Int) + (1 : Int)))) _ (op_add hf33 rfl) rfl ?_
        refine WL.val (Value.int .i64 (w64 ((k19 : Int) + (1 : Int)))) _ (op_move rfl) rfl ?_
        refine WL.nil ?_
        obtain rfl := Option.some.inj hb25
        show ∃ s, _ = Ctl.next s ∧ _
        exact ⟨_, rfl, hf29, hr30, hf31, hf32, (ctr_next hl36 hr16), (ctr_rng hl36 hr16), hS35⟩
      · replace hb25 := inegb hb25 hc52
        refine W.skip ?_
        show W _ _ _ _ _ _
        refine W.seq (W.seq (W.region ?_))
        refine WL.val (Value.int .i64 x20) _ (op_move hf29) rfl ?_
        refine WL.val (Value.bool (decide (x20 ≥ (0 : Int)))) _ (op_geq rfl rfl) rfl ?_
        refine WL.val (Value.bool (decide (x20 ≥ (0 : Int)))) _ (op_move rfl) rfl ?_
        refine WL.cut 5 (fun fq wq => fq 6 = (Value.int .i64 (k19 : Int)) ∧ fq 12 = u13 ∧ fq 13 = (Value.int .i64 ((x9).length : Int)) ∧ fq 14 = (Value.int .i64 (k19 : Int)) ∧ fq 30 = (Value.bool ((decide (x20 ≥ (0 : Int))) || (x45 != (1 : Int)))) ∧ St wd2 wq []) ?_ ?_
        · rcases Bool.eq_false_or_eq_true (decide (x20 ≥ (0 : Int))) with hc54 | hc54
          · refine WL.gskip rfl (bool_of rfl hc54) rfl ?_
            refine WL.gskip rfl (bool_of rfl hc54) rfl ?_
            refine WL.gskip rfl (bool_of rfl hc54) rfl ?_
            refine WL.gskip rfl (bool_of rfl hc54) rfl ?_
            refine WL.val (Value.bool true) _ (op_pick_t (evb_of rfl hc54) rfl) rfl ?_
            refine WL.nil ?_
            exact ⟨rfl, rfl, hf31, hf32, hf33, (orT hc54), hS35⟩
          · refine WL.grun rfl (bool_of rfl hc54) ?_
            refine WL.val u42 _ (op_move rfl) rfl ?_
            refine WL.grun rfl (bool_of rfl hc54) ?_
            refine WL.val (Value.pointer (some (elA u42 ((0 : Int)).toNat))) _ (op_idx sl_25 (Ty.lift _ (Ext.trans hE7 hS35.ext) hr44) rfl rfl ha46 hb47) rfl ?_
            refine WL.grun rfl (bool_of rfl hc54) ?_
            obtain ⟨u58, hc59, hr60⟩ := repSl.el hr44 hx48
            obtain ⟨rfl, hr60⟩ := hr60
            refine WL.val (Value.int .i64 x45) _ (op_load one_2 rfl (Ext.cell (Ext.trans hE7 hS35.ext) hc59)) rfl ?_
            refine WL.grun rfl (bool_of rfl hc54) ?_
            refine WL.val (Value.bool (x45 != (1 : Int))) _ (op_neq rfl rfl) rfl ?_
            refine WL.val (Value.bool (x45 != (1 : Int))) _ (op_pick_f (evb_of rfl hc54) rfl) rfl ?_
            refine WL.nil ?_
            exact ⟨rfl, rfl, hf31, hf32, hf33, (orF hc54), hS35⟩
        · intro f55 wd56 hq57
          obtain ⟨hf61, hf62, hf63, hf64, hf65, hS66⟩ := hq57
          refine WL.nil ?_
          show W _ _ _ _ _ _
          refine W.cond ((decide (x20 ≥ (0 : Int))) || (x45 != (1 : Int))) hf65 (fun hc67 => ?_) (fun hc67 => ?_)
          · replace hb25 := ip hb25 hc67
            refine W.seq (W.region ?_)
            refine WL.val (Value.int .i64 (-1 : Int)) _ (op_assign rfl) rfl ?_
            refine WL.nil ?_
            show W _ _ _ _ _ _
            refine W.ret ?_
            obtain rfl := Option.some.inj hb25
            obtain rfl := hret28 _ rfl
            replace h := onRes_ret h
            obtain rfl := Option.some.inj h
            show FinP _ _ _ _ _ _ _
            exact FinP.ret _ (res1 rfl rfl) ⟨rfl, (inR_i64.2 (show (-9223372036854775808 : Int) ≤ -1 ∧ (-1 : Int) ≤ 9223372036854775807 from by decide)), (Ext.trans hE7 hS66.ext)⟩
          · replace hb25 := inegb hb25 hc67
            refine W.skip ?_
            show W _ _ _ _ _ _
            refine W.region ?_
            refine WL.val (Value.int .i64 (k19 : Int)) _ (op_move hf61) rfl ?_
            refine WL.val (Value.int .i64 (k19 : Int)) _ (op_assign rfl) rfl ?_
            refine WL.nil ?_
            show W _ _ _ _ _ _
            refine W.region ?_
            refine WL.val (Value.int .i64 (w64 ((k19 : Int) + (1 : Int)))) _ (op_add hf64 rfl) rfl ?_
            refine WL.val (Value.int .i64 (w64 ((k19 : Int) + (1 : Int)))) _ (op_move rfl) rfl ?_
            refine WL.nil ?_
            obtain rfl := Option.some.inj hb25
            show ∃ s, _ = Ctl.next s ∧ _
            exact ⟨_, rfl, rfl, hr34, hf62, hf63, (ctr_next hl36 hr16), (ctr_rng hl36 hr16), hS66⟩
    · intro x75 f70 wd71 hs72 hI73
      replace hI73 : f70 5 = Value.int .i64 x75 ∧ InR .i64 x75 ∧ f70 12 = u13 ∧ f70 13 = (Value.int .i64 ((x9).length : Int)) ∧ f70 14 = Value.int .i64 (((x9).length : Nat) : Int) ∧ InR .i64 (((x9).length : Nat) : Int) ∧ St wd2 wd71 [] := hI73
      obtain ⟨hf76, hr77, hf78, hf79, hf80, hr81, hS82⟩ := hI73
      refine W.seq (W.region ?_)
      refine WL.val (Value.bool (decide ((((x9).length : Nat) : Int) < ((x9).length : Int)))) _ (op_lss hf80 hf79) rfl ?_
      have hl83 : ¬ (((x9).length : Nat) : Int) < ((x9).length : Int) := by omega
      refine WL.nil ?_
      show W _ _ _ _ _ _
      refine W.seq ?_
      refine W.condF (decide ((((x9).length : Nat) : Int) < ((x9).length : Int))) rfl (decide_eq_false hl83) ?_
      refine W.exit ?_
      show _ = _ ∧ _
      exact ⟨rfl, _, hs72, hf76, hr77, hS82⟩
  · rintro f84 wd85 ⟨x88, rfl, hq86⟩
    replace h := onRes_fin h
    replace hq86 : f84 5 = Value.int .i64 x88 ∧ InR .i64 x88 ∧ St wd2 wd85 [] := hq86
    obtain ⟨hf89, hr90, hS91⟩ := hq86
    show W _ _ _ _ _ _
    refine W.seq (W.region ?_)
    refine WL.val (Value.int .i64 x88) _ (op_move hf89) rfl ?_
    refine WL.val (Value.int .i64 x88) _ (op_assign rfl) rfl ?_
    refine WL.nil ?_
    show W _ _ _ _ _ _
    refine W.ret ?_
    obtain rfl := Option.some.inj h
    show FinP _ _ _ _ _ _ _
    exact FinP.ret _ (res1 rfl rfl) ⟨rfl, hr90, (Ext.trans hE7 hS91.ext)⟩

theorem c_impl_Ring_dualFault {w : World} {r_Table : (List (List (List Int)))} {v_r_Table : Value} (r_r_Table : (Ty.sl (Ty.sl (Ty.sl (Ty.i .i64)))).rep w v_r_Table r_Table) {res : Int} (h : p_impl_Ring_dualFault r_Table  = some res) :
    Ret Try.prog 89 #[(Value.agg #[v_r_Table])] w (fun v w' => v = Value.int .i64 res ∧ InR .i64 res ∧ Ext w w') := by
  unfold p_impl_Ring_dualFault at h
  have hS0 : St w w [] := St.start w
  refine Ret.start (fn := Try.f89) Try.func89 rfl 25 rfl rfl ?_
  refine W.seq (W.region ?_)
  refine WL.box hS0 rfl (cs := [v_r_Table]) rfl rfl ?_
  intro b1 wd2 hS3 he4 hx5
  replace hS3 : St w wd2 [bx b1 [v_r_Table]] := hS3
  have hx6 := St.boxAt hS3 0 rfl
  have hE7 : Ext w wd2 := hS3.ext
  have hS8 : St wd2 wd2 [] := St.start wd2
  refine WL.val (Value.int .i64 (0 : Int)) _ (op_assign rfl) rfl ?_
  refine WL.nil ?_
  show W _ _ _ _ _ _
  refine W.seq (W.seq (W.region ?_))
  refine WL.val (Value.pointer (some ⟨b1, 0, none⟩)) _ (op_fieldAddr fd_29_0 rfl) rfl ?_
  refine WL.val v_r_Table _ (op_load one_22 rfl (BoxAt.cell (BoxAt.lift hS8.ext hx6) rfl)) rfl ?_
  have hr9 := inR_len (Ty.lift _ (Ext.trans hE7 hS8.ext) r_r_Table)
  refine WL.val (Value.int .i64 ((r_Table).length : Int)) _ (op_lenL sl_22 (Ty.lift _ (Ext.trans hE7 hS8.ext) r_r_Table) rfl) rfl ?_
  refine WL.val (Value.int .i64 (0 : Int)) _ (op_move rfl) rfl ?_
  refine WL.nil ?_
  show W _ _ _ _ _ _
  obtain ⟨res10, hres11, h⟩ := bs h
  refine W.blockLoop (fun fq wq => ∃ s, res10 = Res.fin s ∧ St wd2 wq []) ?_ ?_
  · refine W.forN (fun k (s : Unit) fq wq => fq 1 = (Value.pointer (some ⟨b1, 0, none⟩)) ∧ fq 7 = (Value.int .i64 ((r_Table).length : Int)) ∧ fq 8 = Value.int .i64 (k : Int) ∧ InR .i64 (k : Int) ∧ St wd2 wq []) hres11 ⟨rfl, rfl, rfl, (inR_i64.2 (show (-9223372036854775808 : Int) ≤ 0 ∧ (0 : Int) ≤ 9223372036854775807 from by decide)), hS8⟩ ?_ ?_
    · intro k12 s56 ct13 f14 wd15 hk16 hb17 hI18 hbrk19 hret20
      obtain ⟨⟩ := s56
      replace hI18 : f14 1 = (Value.pointer (some ⟨b1, 0, none⟩)) ∧ f14 7 = (Value.int .i64 ((r_Table).length : Int)) ∧ f14 8 = Value.int .i64 (k12 : Int) ∧ InR .i64 (k12 : Int) ∧ St wd2 wd15 [] := hI18
      replace hb17 : p_impl_Ring_dualFault_L1 r_Table k12  = some ct13 := hb17
      unfold p_impl_Ring_dualFault_L1 at hb17
      obtain ⟨hf21, hf22, hf23, hr24, hS25⟩ := hI18
      refine W.seq (W.region ?_)
      refine WL.val (Value.bool (decide ((k12 : Int) < ((r_Table).length : Int)))) _ (op_lss hf23 hf22) rfl ?_
      have hl26 : (k12 : Int) < ((r_Table).length : Int) := by omega
      refine WL.nil ?_
      show W _ _ _ _ _ _
      refine W.seq ?_
      refine W.condT (decide ((k12 : Int) < ((r_Table).length : Int))) rfl (decide_eq_true hl26) ?_
      refine W.skip ?_
      show W _ _ _ _ _ _
      refine W.seq ?_
      refine W.block ?_
      refine W.seq (W.region ?_)
      refine WL.val (Value.int .i64 (k12 : Int)) _ (op_move hf23) rfl ?_
      refine WL.val (Value.int .i64 (k12 : Int)) _ (op_assign rfl) rfl ?_
      refine WL.nil ?_
      show W _ _ _ _ _ _
      refine W.seq (W.region ?_)
      refine WL.val (Value.agg #[v_r_Table]) _ (op_loadBox st_29 hf21 (BoxAt.lift hS25.ext hx6) rfl rfl) rfl ?_
      refine WL.val (Value.int .i64 (k12 : Int)) _ (op_move rfl) rfl ?_
      obtain ⟨x28, hx29, hb17⟩ := bs hb17
      refine WL.call _ (op_call fn_78 (args2 rfl rfl)) (c_impl_Ring_onlyOf (Ty.lift _ (Ext.trans hE7 hS25.ext) r_r_Table) hr24 hx29) rfl ?_
      rintro _ wd31 ⟨rfl, hr30, he32⟩
      have hS34 := St.extend hS25 he32
      replace hS34 : St wd2 wd31 [] := hS34
      refine WL.val (Value.int .i64 x28) _ (op_assign rfl) rfl ?_
      refine WL.nil ?_
      show W _ _ _ _ _ _
      refine W.seq (W.region ?_)
      refine WL.val (Value.int .i64 x28) _ (op_move rfl) rfl ?_
      refine WL.val (Value.bool (decide (x28 < (0 : Int)))) _ (op_lss rfl rfl) rfl ?_
      refine WL.val (Value.bool (decide (x28 < (0 : Int)))) _ (op_move rfl) rfl ?_
      obtain ⟨x36, hj37, hb17⟩ := bs hb17
      refine WL.cut 6 (fun fq wq => fq 1 = (Value.pointer (some ⟨b1, 0, none⟩)) ∧ fq 3 = (Value.int .i64 (k12 : Int)) ∧ fq 7 = (Value.int .i64 ((r_Table).length : Int)) ∧ fq 8 = (Value.int .i64 (k12 : Int)) ∧ fq 22 = Value.bool x36 ∧ St wd2 wq []) ?_ ?_
      · rcases Bool.eq_false_or_eq_true (decide (x28 < (0 : Int))) with hc35 | hc35
        · replace hj37 := ip hj37 hc35
          refine WL.gskip rfl (bool_of rfl hc35) rfl ?_
          refine WL.gskip rfl (bool_of rfl hc35) rfl ?_
          refine WL.gskip rfl (bool_of rfl hc35) rfl ?_
          refine WL.gskip rfl (bool_of rfl hc35) rfl ?_
          refine WL.gskip rfl (bool_of rfl hc35) rfl ?_
          refine WL.val (Value.bool true) _ (op_pick_t (evb_of rfl hc35) rfl) rfl ?_
          refine WL.nil ?_
          obtain rfl := Option.some.inj hj37
          exact ⟨rfl, hf21, rfl, hf22, hf23, rfl, hS34⟩
        · replace hj37 := inegb hj37 hc35
          refine WL.grun rfl (bool_of rfl hc35) ?_
          refine WL.val (Value.agg #[v_r_Table]) _ (op_loadBox st_29 hf21 (BoxAt.lift hS34.ext hx6) rfl rfl) rfl ?_
          refine WL.grun rfl (bool_of rfl hc35) ?_
          refine WL.val (Value.int .i64 x28) _ (op_move rfl) rfl ?_
          refine WL.grun rfl (bool_of rfl hc35) ?_
          obtain ⟨x41, hx42, hj37⟩ := bs hj37
          refine WL.call _ (op_call fn_78 (args2 rfl rfl)) (c_impl_Ring_onlyOf (Ty.lift _ (Ext.trans hE7 hS34.ext) r_r_Table) hr30 hx42) rfl ?_
          rintro _ wd44 ⟨rfl, hr43, he45⟩
          have hS47 := St.extend hS34 he45
          replace hS47 : St wd2 wd44 [] := hS47
          refine WL.grun rfl (bool_of rfl hc35) ?_
          refine WL.val (Value.int .i64 (k12 : Int)) _ (op_move rfl) rfl ?_
          refine WL.grun rfl (bool_of rfl hc35) ?_
          refine WL.val (Value.bool (x41 != (k12 : Int))) _ (op_neq rfl rfl) rfl ?_
          refine WL.val (Value.bool (x41 != (k12 : Int))) _ (op_pick_f (evb_of rfl hc35) rfl) rfl ?_
          refine WL.nil ?_
          obtain rfl := Option.some.inj hj37
          exact ⟨rfl, hf21, rfl, hf22, hf23, rfl, hS47⟩
      · intro f38 wd39 hq40
        obtain ⟨hf48, hf49, hf50, hf51, hf52, hS53⟩ := hq40
        refine WL.nil ?_
        show W _ _ _ _ _ _
        refine W.cond x36 hf52 (fun hc54 => ?_) (fun hc54 => ?_)
        · replace hb17 := ip hb17 hc54
          refine W.seq (W.region ?_)
          refine WL.val (Value.int .i64 (k12 : Int)) _ (op_move hf49) rfl ?_
          refine WL.val (Value.int .i64 (k12 : Int)) _ (op_assign rfl) rfl ?_
          refine WL.nil ?_
          show W _ _ _ _ _ _
          refine W.ret ?_
          obtain rfl := Option.some.inj hb17
          obtain rfl := hret20 _ rfl
          replace h := onRes_ret h
          obtain rfl := Option.some.inj h
          show FinP _ _ _ _ _ _ _
          exact FinP.ret _ (res1 rfl rfl) ⟨rfl, hr24, (Ext.trans hE7 hS53.ext)⟩
        · replace hb17 := inegb hb17 hc54
          refine W.skip ?_
          show W _ _ _ _ _ _
          refine W.region ?_
          refine WL.val (Value.int .i64 (w64 ((k12 : Int) + (1 : Int)))) _ (op_add hf51 rfl) rfl ?_
          refine WL.val (Value.int .i64 (w64 ((k12 : Int) + (1 : Int)))) _ (op_move rfl) rfl ?_
          refine WL.nil ?_
          obtain rfl := Option.some.inj hb17
          show ∃ s, _ = Ctl.next s ∧ _
          exact ⟨_, rfl, hf48, hf50, (ctr_next hl26 hr9), (ctr_rng hl26 hr9), hS53⟩
    · intro s61 f57 wd58 hs59 hI60
      obtain ⟨⟩ := s61
      replace hI60 : f57 1 = (Value.pointer (some ⟨b1, 0, none⟩)) ∧ f57 7 = (Value.int .i64 ((r_Table).length : Int)) ∧ f57 8 = Value.int .i64 (((r_Table).length : Nat) : Int) ∧ InR .i64 (((r_Table).length : Nat) : Int) ∧ St wd2 wd58 [] := hI60
      obtain ⟨hf62, hf63, hf64, hr65, hS66⟩ := hI60
      refine W.seq (W.region ?_)
      refine WL.val (Value.bool (decide ((((r_Table).length : Nat) : Int) < ((r_Table).length : Int)))) _ (op_lss hf64 hf63) rfl ?_
      have hl67 : ¬ (((r_Table).length : Nat) : Int) < ((r_Table).length : Int) := by omega
      refine WL.nil ?_
      show W _ _ _ _ _ _
      refine W.seq ?_
      refine W.condF (decide ((((r_Table).length : Nat) : Int) < ((r_Table).length : Int))) rfl (decide_eq_false hl67) ?_
      refine W.exit ?_
      show _ = _ ∧ _
      exact ⟨rfl, _, hs59, hS66⟩
  · rintro f68 wd69 ⟨s71, rfl, hq70⟩
    replace h := onRes_fin h
    obtain ⟨⟩ := s71
    replace hq70 : St wd2 wd69 [] := hq70
    have hS72 := hq70
    show W _ _ _ _ _ _
    refine W.seq (W.region ?_)
    refine WL.val (Value.int .i64 (-1 : Int)) _ (op_assign rfl) rfl ?_
    refine WL.nil ?_
    show W _ _ _ _ _ _
    refine W.ret ?_
    obtain rfl := Option.some.inj h
    show FinP _ _ _ _ _ _ _
    exact FinP.ret _ (res1 rfl rfl) ⟨rfl, (inR_i64.2 (show (-9223372036854775808 : Int) ≤ -1 ∧ (-1 : Int) ≤ 9223372036854775807 from by decide)), (Ext.trans hE7 hS72.ext)⟩

theorem c_impl_Ring_duals {w : World} {r_Table : (List (List (List Int)))} {v_r_Table : Value} (r_r_Table : (Ty.sl (Ty.sl (Ty.sl (Ty.i .i64)))).rep w v_r_Table r_Table) {res : (List Int)} (h : p_impl_Ring_duals r_Table  = some res) :
    Ret Try.prog 54 #[(Value.agg #[v_r_Table])] w (fun v w' => ∃ (u0 : Value), v = u0 ∧ Ext w w' ∧ Sep w.heap.size w' [(Ty.sl (Ty.i .i64)).at u0 res]) := by
  unfold p_impl_Ring_duals at h
  have hS0 : St w w [] := St.start w
  refine Ret.start (fn := Try.f54) Try.func54 rfl 20 rfl rfl ?_
  refine W.seq (W.region ?_)
  refine WL.box hS0 rfl (cs := [v_r_Table]) rfl rfl ?_
  intro b1 wd2 hS3 he4 hx5
  replace hS3 : St w wd2 [bx b1 [v_r_Table]] := hS3
  have hx6 := St.boxAt hS3 0 rfl
  have hE7 : Ext w wd2 := hS3.ext
  have hS8 : St wd2 wd2 [] := St.start wd2
  refine WL.val (Value.slice none 0 0) _ (op_assign rfl) rfl ?_
  refine WL.nil ?_
  show W _ _ _ _ _ _
  refine W.seq (W.region ?_)
  refine WL.lit0 (t := (Ty.i .i64)) hS8 sl_64 rfl rfl ?_
  intro u9 wd10 hS11 he12
  replace hS11 : St wd2 wd10 [(Ty.sl (Ty.i .i64)).at u9 ([] : (List Int))] := hS11
  refine WL.val u9 _ (op_assign rfl) rfl ?_
  refine WL.nil ?_
  show W _ _ _ _ _ _
  refine W.seq (W.seq (W.region ?_))
  refine WL.val (Value.pointer (some ⟨b1, 0, none⟩)) _ (op_fieldAddr fd_29_0 rfl) rfl ?_
  refine WL.val v_r_Table _ (op_load one_22 rfl (BoxAt.cell (BoxAt.lift hS11.ext hx6) rfl)) rfl ?_
  have hr13 := inR_len (Ty.lift _ (Ext.trans hE7 hS11.ext) r_r_Table)
  refine WL.val (Value.int .i64 ((r_Table).length : Int)) _ (op_lenL sl_22 (Ty.lift _ (Ext.trans hE7 hS11.ext) r_r_Table) rfl) rfl ?_
  refine WL.val (Value.int .i64 (0 : Int)) _ (op_move rfl) rfl ?_
  refine WL.nil ?_
  show W _ _ _ _ _ _
  obtain ⟨res14, hres15, h⟩ := bs h
  refine W.blockLoop (fun fq wq => ∃ s, res14 = Res.fin s ∧ ∃ (uu0 : Value), fq 3 = uu0 ∧ St wd2 wq [(Ty.sl (Ty.i .i64)).at uu0 s]) ?_ ?_
  · refine W.forN (fun k (s : (List Int)) fq wq => ∃ (uu0 : Value), fq 1 = (Value.pointer (some ⟨b1, 0, none⟩)) ∧ fq 3 = uu0 ∧ fq 8 = (Value.int .i64 ((r_Table).length : Int)) ∧ fq 9 = Value.int .i64 (k : Int) ∧ InR .i64 (k : Int) ∧ St wd2 wq [(Ty.sl (Ty.i .i64)).at uu0 s]) hres15 ⟨u9, rfl, rfl, rfl, rfl, (inR_i64.2 (show (-9223372036854775808 : Int) ≤ 0 ∧ (0 : Int) ≤ 9223372036854775807 from by decide)), hS11⟩ ?_ ?_
    · intro k16 x17 ct18 f19 wd20 hk21 hb22 hI23 hbrk24 hret25
      replace hI23 : ∃ (uu0 : Value), f19 1 = (Value.pointer (some ⟨b1, 0, none⟩)) ∧ f19 3 = uu0 ∧ f19 8 = (Value.int .i64 ((r_Table).length : Int)) ∧ f19 9 = Value.int .i64 (k16 : Int) ∧ InR .i64 (k16 : Int) ∧ St wd2 wd20 [(Ty.sl (Ty.i .i64)).at uu0 x17] := hI23
      replace hb22 : p_impl_Ring_duals_L1 r_Table k16 x17 = some ct18 := hb22
      unfold p_impl_Ring_duals_L1 at hb22
      obtain ⟨u26, hf27, hf28, hf29, hf30, hr31, hS32⟩ := hI23
      refine W.seq (W.region ?_)
      refine WL.val (Value.bool (decide ((k16 : Int) < ((r_Table).length : Int)))) _ (op_lss hf30 hf29) rfl ?_
      have hl33 : (k16 : Int) < ((r_Table).length : Int) := by omega
      refine WL.nil ?_
      show W _ _ _ _ _ _
      refine W.seq ?_
      refine W.condT (decide ((k16 : Int) < ((r_Table).length : Int))) rfl (decide_eq_true hl33) ?_
      refine W.skip ?_
      show W _ _ _ _ _ _
      refine W.seq ?_
      refine W.block ?_
      refine W.seq (W.region ?_)
      refine WL.val (Value.int .i64 (k16 : Int)) _ (op_move hf30) rfl ?_
      refine WL.val (Value.int .i64 (k16 : Int)) _ (op_assign rfl) rfl ?_
      refine WL.nil ?_
      show W _ _ _ _ _ _
      refine W.region ?_
      refine WL.val u26 _ (op_move hf28) rfl ?_
      refine WL.val (Value.agg #[v_r_Table]) _ (op_loadBox st_29 hf27 (BoxAt.lift hS32.ext hx6) rfl rfl) rfl ?_
      refine WL.val (Value.int .i64 (k16 : Int)) _ (op_move rfl) rfl ?_
      obtain ⟨x35, hx36, hb22⟩ := bs hb22
      refine WL.call _ (op_call fn_78 (args2 rfl rfl)) (c_impl_Ring_onlyOf (Ty.lift _ (Ext.trans hE7 hS32.ext) r_r_Table) hr31 hx36) rfl ?_
      rintro _ wd38 ⟨rfl, hr37, he39⟩
      have hS41 := St.extend hS32 he39
      replace hS41 : St wd2 wd38 [(Ty.sl (Ty.i .i64)).at u26 x17] := hS41
      refine WL.litFlat (t := (Ty.i .i64)) (flat_i .i64) [(Value.int .i64 x35)] [x35] hS41 sl_64 rfl rfl (fillL rfl ⟨rfl, rfl, rfl, trivial⟩) rfl rfl (litL ⟨⟨rfl, hr37⟩, trivial⟩) rfl ?_
      intro u42 wd43 hS44 he45
      replace hS44 : St wd2 wd43 [(Ty.sl (Ty.i .i64)).at u26 x17, (Ty.sl (Ty.i .i64)).at u42 ([x35] : (List Int))] := hS44
      obtain ⟨x46, hx47, hb22⟩ := bs hb22
      refine WL.append (flat_i .i64) hS44 (k := 0) rfl sl_64 rfl rfl rfl rfl (St.rep (t := (Ty.sl (Ty.i .i64))) hS44 1 rfl) hx47 rfl ?_
      intro u48 wd49 hS50 hz51
      replace hS50 : St wd2 wd49 [(Ty.sl (Ty.i .i64)).at u48 x46, (Ty.sl (Ty.i .i64)).at u42 ([x35] : (List Int))] := hS50
      refine WL.val u48 _ (op_assign rfl) rfl ?_
      refine WL.nil ?_
      show W _ _ _ _ _ _
      refine W.region ?_
      refine WL.val (Value.int .i64 (w64 ((k16 : Int) + (1 : Int)))) _ (op_add hf30 rfl) rfl ?_
      refine WL.val (Value.int .i64 (w64 ((k16 : Int) + (1 : Int)))) _ (op_move rfl) rfl ?_
      refine WL.nil ?_
      obtain rfl := Option.some.inj hb22
      show ∃ s, _ = Ctl.next s ∧ _
      exact ⟨_, rfl, u48, hf27, rfl, hf29, (ctr_next hl33 hr13), (ctr_rng hl33 hr13), (St.pick hS50 [0] rfl)⟩
    · intro x58 f53 wd54 hs55 hI56
      replace hI56 : ∃ (uu0 : Value), f53 1 = (Value.pointer (some ⟨b1, 0, none⟩)) ∧ f53 3 = uu0 ∧ f53 8 = (Value.int .i64 ((r_Table).length : Int)) ∧ f53 9 = Value.int .i64 (((r_Table).length : Nat) : Int) ∧ InR .i64 (((r_Table).length : Nat) : Int) ∧ St wd2 wd54 [(Ty.sl (Ty.i .i64)).at uu0 x58] := hI56
      obtain ⟨u59, hf60, hf61, hf62, hf63, hr64, hS65⟩ := hI56
      refine W.seq (W.region ?_)
      refine WL.val (Value.bool (decide ((((r_Table).length : Nat) : Int) < ((r_Table).length : Int)))) _ (op_lss hf63 hf62) rfl ?_
      have hl66 : ¬ (((r_Table).length : Nat) : Int) < ((r_Table).length : Int) := by omega
      refine WL.nil ?_
      show W _ _ _ _ _ _
      refine W.seq ?_
      refine W.condF (decide ((((r_Table).length : Nat) : Int) < ((r_Table).length : Int))) rfl (decide_eq_false hl66) ?_
      refine W.exit ?_
      show _ = _ ∧ _
      exact ⟨rfl, _, hs55, u59, hf61, hS65⟩
  · rintro f67 wd68 ⟨x71, rfl, hq69⟩
    replace h := onRes_fin h
    replace hq69 : ∃ (uu0 : Value), f67 3 = uu0 ∧ St wd2 wd68 [(Ty.sl (Ty.i .i64)).at uu0 x71] := hq69
    obtain ⟨u72, hf73, hS74⟩ := hq69
    show W _ _ _ _ _ _
    refine W.seq (W.region ?_)
    refine WL.val u72 _ (op_move hf73) rfl ?_
    refine WL.val u72 _ (op_assign rfl) rfl ?_
    refine WL.nil ?_
    show W _ _ _ _ _ _
    refine W.ret ?_
    obtain rfl := Option.some.inj h
    show FinP _ _ _ _ _ _ _
    exact FinP.ret _ (res1 rfl rfl) ⟨u72, rfl, (Ext.trans hE7 hS74.ext), (St.out (St.pick hS74 [0] rfl) (hE7))⟩

end Go.VG
