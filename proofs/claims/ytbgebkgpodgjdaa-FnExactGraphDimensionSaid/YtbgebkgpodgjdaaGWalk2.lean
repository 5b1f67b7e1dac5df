/- The walks, part 2: each Go function returns what its plain twin returns. No condition beyond what each names. -/
import Derived.Test.YtbgebkgpodgjdaaGWalk1
set_option linter.all false
namespace Go.VG
open Go.Proofs
attribute [local irreducible] W WL Sep FinP

theorem c_spec_l01Same {w : World} {a : (List Int)} {v_a : Value} {b : (List Int)} {v_b : Value} (r_a : (Ty.sl (Ty.i .i64)).rep w v_a a) (r_b : (Ty.sl (Ty.i .i64)).rep w v_b b) {res : Bool} (h : p_spec_l01Same a b  = some res) :
    Ret Try.prog 47 #[v_a, v_b] w (fun v w' => v = Value.bool res ∧ Ext w w') := by
  unfold p_spec_l01Same at h
  have hS0 : St w w [] := St.start w
  refine Ret.start (fn := Try.f47) Try.func47 rfl 26 rfl rfl ?_
  refine W.seq (W.region ?_)
  refine WL.val (Value.bool false) _ (op_assign rfl) rfl ?_
  refine WL.nil ?_
  refine W.seq (W.seq (W.region ?_))
  refine WL.val v_a _ (op_move rfl) rfl ?_
  have hr1 := inR_len (Ty.lift _ hS0.ext r_a)
  refine WL.val (Value.int .i64 ((a).length : Int)) _ (op_lenL sl_36 (Ty.lift _ hS0.ext r_a) rfl) rfl ?_
  refine WL.val v_b _ (op_move rfl) rfl ?_
  have hr2 := inR_len (Ty.lift _ hS0.ext r_b)
  refine WL.val (Value.int .i64 ((b).length : Int)) _ (op_lenL sl_36 (Ty.lift _ hS0.ext r_b) rfl) rfl ?_
  refine WL.val (Value.bool (((a).length : Int) != ((b).length : Int))) _ (op_neq rfl rfl) rfl ?_
  refine WL.nil ?_
  refine W.cond (((a).length : Int) != ((b).length : Int)) rfl (fun hc3 => ?_) (fun hc3 => ?_)
  · replace h := ip h hc3
    refine W.seq (W.region ?_)
    refine WL.val (Value.bool false) _ (op_assign rfl) rfl ?_
    refine WL.nil ?_
    refine W.ret ?_
    obtain rfl := Option.some.inj h
    show FinP _ _ _ _ _ _ _
    exact FinP.ret _ (res1 rfl rfl) ⟨rfl, hS0.ext⟩
  · replace h := inegb h hc3
    refine W.skip ?_
    refine W.seq (W.seq (W.region ?_))
    refine WL.val (Value.int .i64 (0 : Int)) _ (op_assign rfl) rfl ?_
    refine WL.nil ?_
    show W _ _ _ _ _ _
    obtain ⟨res5, hres6, h⟩ := bs h
    refine W.blockLoop (fun fq wq => ∃ s, res5 = Res.fin s ∧ St w wq []) ?_ ?_
    · refine W.forN (fun k (s : Unit) fq wq => fq 0 = v_a ∧ fq 1 = v_b ∧ fq 5 = Value.int .i64 (k : Int) ∧ InR .i64 (k : Int) ∧ St w wq []) hres6 ⟨rfl, rfl, rfl, (inL rfl), hS0⟩ ?_ ?_
      · intro k7 s134 ct8 f9 wd10 hk11 hb12 hI13 hbrk14 hret15
        obtain ⟨⟩ := s134
        replace hI13 : f9 0 = v_a ∧ f9 1 = v_b ∧ f9 5 = Value.int .i64 (k7 : Int) ∧ InR .i64 (k7 : Int) ∧ St w wd10 [] := hI13
        replace hb12 : p_spec_l01Same_L1 a b k7  = some ct8 := hb12
        unfold p_spec_l01Same_L1 at hb12
        obtain ⟨hf16, hf17, hf18, hr19, hS20⟩ := hI13
        refine W.seq (W.seq (W.region ?_))
        refine WL.val (Value.int .i64 (k7 : Int)) _ (op_move hf18) rfl ?_
        refine WL.val v_a _ (op_move hf16) rfl ?_
        have hr21 := inR_len (Ty.lift _ hS20.ext r_a)
        refine WL.val (Value.int .i64 ((a).length : Int)) _ (op_lenL sl_36 (Ty.lift _ hS20.ext r_a) rfl) rfl ?_
        refine WL.val (Value.bool (decide ((k7 : Int) < ((a).length : Int)))) _ (op_lss rfl rfl) rfl ?_
        have hl22 : (k7 : Int) < ((a).length : Int) := by omega
        refine WL.nil ?_
        refine W.condT (decide ((k7 : Int) < ((a).length : Int))) rfl (decide_eq_true hl22) ?_
        refine W.skip ?_
        refine W.seq ?_
        refine W.block ?_
        refine W.seq ?_
        obtain ⟨x53, hx56, hb12⟩ := bs hb12
        obtain ⟨ha54, hb55, hx56⟩ := idx_some hx56
        obtain ⟨u67, hc68, hr69⟩ := repSl.el r_a hx56
        obtain ⟨rfl, hr69⟩ := hr69
        obtain ⟨x99, hx102, hb12⟩ := bs hb12
        obtain ⟨ha100, hb101, hx102⟩ := idx_some hx102
        obtain ⟨u113, hc114, hr115⟩ := repSl.el r_b hx102
        obtain ⟨rfl, hr115⟩ := hr115
        refine W.drawR mixo 8 [] [fun _ v _ _ => v = v_a, fun _ v _ _ => v = (Value.int .i64 (k7 : Int)) ∧ InR .i64 (k7 : Int), fun _ v _ _ => v = (Value.pointer (some (elA v_a ((k7 : Int)).toNat))), fun _ v _ _ => v = (Value.int .i64 x53) ∧ InR .i64 x53, fun _ v _ _ => v = v_b, fun _ v _ _ => v = (Value.int .i64 (k7 : Int)) ∧ InR .i64 (k7 : Int), fun _ v _ _ => v = (Value.pointer (some (elA v_b ((k7 : Int)).toNat))), fun _ v _ _ => v = (Value.int .i64 x99) ∧ InR .i64 x99] (by kernel_rfl) (by kernel_rfl) ⟨pk, pk, pk, pk, pk, pk, pk, pk, trivial⟩ ⟨?_, ?_, ?_, ?_, ?_, ?_, ?_, ?_, trivial⟩ ?_
        · refine ObX.op rfl fun f24 wd25 he26 hout27 hphi28 => ?_
          have e30 : f24 0 = v_a := (hout27 0 rfl).trans hf16
          exact OpX.val v_a wd25 rfl (op_move e30) (Ext.refl _) rfl
        · refine ObX.op rfl fun f31 wd32 he33 hout34 hphi35 => ?_
          have e37 : f31 5 = (Value.int .i64 (k7 : Int)) := (hout34 5 rfl).trans hf18
          exact OpX.val (Value.int .i64 (k7 : Int)) wd32 rfl (op_move e37) (Ext.refl _) ⟨rfl, hr19⟩
        · refine ObX.op rfl fun f38 wd39 he40 hout41 hphi42 => ?_
          have hS43 := St.extend hS20 he40
          obtain ⟨S44, hS45, hf46⟩ := hphi42 0 17 _ rfl rfl rfl
          have e47 : f38 17 = v_a := hf46
          obtain ⟨S48, hS49, hf50⟩ := hphi42 1 18 _ rfl rfl rfl
          obtain ⟨e51, hr52⟩ := hf50
          exact OpX.val (Value.pointer (some (elA v_a ((k7 : Int)).toNat))) wd39 rfl (op_idx sl_36 (Ty.lift _ hS43.ext r_a) e47 e51 ha54 hb55) (Ext.refl _) rfl
        · refine ObX.op rfl fun f57 wd58 he59 hout60 hphi61 => ?_
          have hS62 := St.extend hS20 he59
          obtain ⟨S63, hS64, hf65⟩ := hphi61 2 19 _ rfl rfl rfl
          have e66 : f57 19 = (Value.pointer (some (elA v_a ((k7 : Int)).toNat))) := hf65
          exact OpX.val (Value.int .i64 x53) wd58 rfl (op_load one_2 e66 (Ext.cell hS62.ext hc68)) (Ext.refl _) ⟨rfl, hr69⟩
        · refine ObX.op rfl fun f70 wd71 he72 hout73 hphi74 => ?_
          have e76 : f70 1 = v_b := (hout73 1 rfl).trans hf17
          exact OpX.val v_b wd71 rfl (op_move e76) (Ext.refl _) rfl
        · refine ObX.op rfl fun f77 wd78 he79 hout80 hphi81 => ?_
          have e83 : f77 5 = (Value.int .i64 (k7 : Int)) := (hout80 5 rfl).trans hf18
          exact OpX.val (Value.int .i64 (k7 : Int)) wd78 rfl (op_move e83) (Ext.refl _) ⟨rfl, hr19⟩
        · refine ObX.op rfl fun f84 wd85 he86 hout87 hphi88 => ?_
          have hS89 := St.extend hS20 he86
          obtain ⟨S90, hS91, hf92⟩ := hphi88 4 21 _ rfl rfl rfl
          have e93 : f84 21 = v_b := hf92
          obtain ⟨S94, hS95, hf96⟩ := hphi88 5 22 _ rfl rfl rfl
          obtain ⟨e97, hr98⟩ := hf96
          exact OpX.val (Value.pointer (some (elA v_b ((k7 : Int)).toNat))) wd85 rfl (op_idx sl_36 (Ty.lift _ hS89.ext r_b) e93 e97 ha100 hb101) (Ext.refl _) rfl
        · refine ObX.op rfl fun f103 wd104 he105 hout106 hphi107 => ?_
          have hS108 := St.extend hS20 he105
          obtain ⟨S109, hS110, hf111⟩ := hphi107 6 23 _ rfl rfl rfl
          have e112 : f103 23 = (Value.pointer (some (elA v_b ((k7 : Int)).toNat))) := hf111
          exact OpX.val (Value.int .i64 x99) wd104 rfl (op_load one_2 e112 (Ext.cell hS108.ext hc114)) (Ext.refl _) ⟨rfl, hr115⟩
        · intro f116 wd117 Ss118 he119 hout120 hSn121 hSd122 hphi123
          show WL _ _ _ _ _ _ _
          have hS124 := St.extend hS20 he119
          obtain ⟨e125, hr126⟩ := hphi123 3 20 _ (by decide) rfl rfl
          obtain ⟨e127, hr128⟩ := hphi123 7 24 _ (by decide) rfl rfl
          have e129 : f116 0 = v_a := (hout120 0 rfl).trans hf16
          have e130 : f116 1 = v_b := (hout120 1 rfl).trans hf17
          have e131 : f116 5 = (Value.int .i64 (k7 : Int)) := (hout120 5 rfl).trans hf18
          refine WL.val (Value.bool (x53 != x99)) _ (op_neq e125 e127) rfl ?_
          refine WL.nil ?_
          refine W.cond (x53 != x99) rfl (fun hc132 => ?_) (fun hc132 => ?_)
          · replace hb12 := ip hb12 hc132
            refine W.seq (W.region ?_)
            refine WL.val (Value.bool false) _ (op_assign rfl) rfl ?_
            refine WL.nil ?_
            refine W.ret ?_
            obtain rfl := Option.some.inj hb12
            obtain rfl := hret15 _ rfl
            replace h := onRes_ret h
            obtain rfl := Option.some.inj h
            show FinP _ _ _ _ _ _ _
            exact FinP.ret _ (res1 rfl rfl) ⟨rfl, hS124.ext⟩
          · replace hb12 := inegb hb12 hc132
            refine W.skip ?_
            show W _ _ _ _ _ _
            refine W.region ?_
            refine WL.val (Value.int .i64 (k7 : Int)) _ (op_move e131) rfl ?_
            refine WL.val (Value.int .i64 (w64 ((k7 : Int) + (1 : Int)))) _ (op_add rfl rfl) rfl ?_
            refine WL.val (Value.int .i64 (w64 ((k7 : Int) + (1 : Int)))) _ (op_assign rfl) rfl ?_
            refine WL.nil ?_
            obtain rfl := Option.some.inj hb12
            show ∃ s, _ = Ctl.next s ∧ _
            exact ⟨_, rfl, e129, e130, (ctr_next hl22 hr21), (ctr_rng hl22 hr21), hS124⟩
      · intro s139 f135 wd136 hs137 hI138
        obtain ⟨⟩ := s139
        replace hI138 : f135 0 = v_a ∧ f135 1 = v_b ∧ f135 5 = Value.int .i64 (((a).length : Nat) : Int) ∧ InR .i64 (((a).length : Nat) : Int) ∧ St w wd136 [] := hI138
        obtain ⟨hf140, hf141, hf142, hr143, hS144⟩ := hI138
        refine W.seq (W.seq (W.region ?_))
        refine WL.val (Value.int .i64 (((a).length : Nat) : Int)) _ (op_move hf142) rfl ?_
        refine WL.val v_a _ (op_move hf140) rfl ?_
        have hr145 := inR_len (Ty.lift _ hS144.ext r_a)
        refine WL.val (Value.int .i64 ((a).length : Int)) _ (op_lenL sl_36 (Ty.lift _ hS144.ext r_a) rfl) rfl ?_
        refine WL.val (Value.bool (decide ((((a).length : Nat) : Int) < ((a).length : Int)))) _ (op_lss rfl rfl) rfl ?_
        have hl146 : ¬ (((a).length : Nat) : Int) < ((a).length : Int) := by omega
        refine WL.nil ?_
        refine W.condF (decide ((((a).length : Nat) : Int) < ((a).length : Int))) rfl (decide_eq_false hl146) ?_
        refine W.exit ?_
        show _ = _ ∧ _
        exact ⟨rfl, _, hs137, hS144⟩
    · rintro f147 wd148 ⟨s150, rfl, hq149⟩
      replace h := onRes_fin h
      obtain ⟨⟩ := s150
      replace hq149 : St w wd148 [] := hq149
      have hS151 := hq149
      refine W.seq (W.region ?_)
      refine WL.val (Value.bool true) _ (op_assign rfl) rfl ?_
      refine WL.nil ?_
      refine W.ret ?_
      obtain rfl := Option.some.inj h
      show FinP _ _ _ _ _ _ _
      exact FinP.ret _ (res1 rfl rfl) ⟨rfl, hS151.ext⟩

theorem c_spec_l03Commutative {w : World} {r_Table : (List (List (List Int)))} {v_r_Table : Value} (r_r_Table : (Ty.sl (Ty.sl (Ty.sl (Ty.i .i64)))).rep w v_r_Table r_Table) {res : Bool} (h : p_spec_l03Commutative r_Table  = some res) :
    Ret Try.prog 25 #[(Value.agg #[v_r_Table])] w (fun v w' => v = Value.bool res ∧ Ext w w') := by
  unfold p_spec_l03Commutative at h
  have hS0 : St w w [] := St.start w
  refine Ret.start (fn := Try.f25) Try.func25 rfl 35 rfl rfl ?_
  refine W.seq (W.region ?_)
  refine WL.box hS0 rfl (cs := [v_r_Table]) rfl rfl ?_
  intro b1 wd2 hS3 he4 hx5
  replace hS3 : St w wd2 [bx b1 [v_r_Table]] := hS3
  have hx6 := St.boxAt hS3 0 rfl
  have hE7 : Ext w wd2 := hS3.ext
  have hS8 : St wd2 wd2 [] := St.start wd2
  refine WL.val (Value.bool false) _ (op_assign rfl) rfl ?_
  refine WL.nil ?_
  refine W.seq (W.seq (W.region ?_))
  refine WL.val (Value.int .i64 (0 : Int)) _ (op_assign rfl) rfl ?_
  refine WL.nil ?_
  show W _ _ _ _ _ _
  obtain ⟨res9, hres10, h⟩ := bs h
  refine W.blockLoop (fun fq wq => ∃ s, res9 = Res.fin s ∧ St wd2 wq []) ?_ ?_
  · refine W.forN (fun k (s : Unit) fq wq => fq 1 = (Value.pointer (some ⟨b1, 0, none⟩)) ∧ fq 3 = Value.int .i64 (k : Int) ∧ InR .i64 (k : Int) ∧ St wd2 wq []) hres10 ⟨rfl, rfl, (inL rfl), hS8⟩ ?_ ?_
    · intro k11 s277 ct12 f13 wd14 hk15 hb16 hI17 hbrk18 hret19
      obtain ⟨⟩ := s277
      replace hI17 : f13 1 = (Value.pointer (some ⟨b1, 0, none⟩)) ∧ f13 3 = Value.int .i64 (k11 : Int) ∧ InR .i64 (k11 : Int) ∧ St wd2 wd14 [] := hI17
      replace hb16 : p_spec_l03Commutative_L1 r_Table k11  = some ct12 := hb16
      unfold p_spec_l03Commutative_L1 at hb16
      obtain ⟨hf20, hf21, hr22, hS23⟩ := hI17
      refine W.seq (W.seq (W.region ?_))
      refine WL.val (Value.int .i64 (k11 : Int)) _ (op_move hf21) rfl ?_
      refine WL.val (Value.pointer (some ⟨b1, 0, none⟩)) _ (op_fieldAddr fd_30_0 hf20) rfl ?_
      refine WL.val v_r_Table _ (op_load one_22 rfl (BoxAt.cell (BoxAt.lift hS23.ext hx6) rfl)) rfl ?_
      have hr24 := inR_len (Ty.lift _ (Ext.trans hE7 hS23.ext) r_r_Table)
      refine WL.val (Value.int .i64 ((r_Table).length : Int)) _ (op_lenL sl_22 (Ty.lift _ (Ext.trans hE7 hS23.ext) r_r_Table) rfl) rfl ?_
      refine WL.val (Value.bool (decide ((k11 : Int) < ((r_Table).length : Int)))) _ (op_lss rfl rfl) rfl ?_
      have hl25 : (k11 : Int) < ((r_Table).length : Int) := by omega
      refine WL.nil ?_
      refine W.condT (decide ((k11 : Int) < ((r_Table).length : Int))) rfl (decide_eq_true hl25) ?_
      refine W.skip ?_
      refine W.seq ?_
      refine W.block ?_
      refine W.seq (W.region ?_)
      refine WL.val (Value.int .i64 (0 : Int)) _ (op_assign rfl) rfl ?_
      refine WL.nil ?_
      show W _ _ _ _ _ _
      obtain ⟨res27, hres28, hb16⟩ := bs hb16
      refine W.blockLoop (fun fq wq => ∃ s, res27 = Res.fin s ∧ fq 1 = (Value.pointer (some ⟨b1, 0, none⟩)) ∧ fq 3 = (Value.int .i64 (k11 : Int)) ∧ St wd2 wq []) ?_ ?_
      · refine W.forN (fun k (s : Unit) fq wq => fq 1 = (Value.pointer (some ⟨b1, 0, none⟩)) ∧ fq 3 = (Value.int .i64 (k11 : Int)) ∧ fq 4 = Value.int .i64 (k : Int) ∧ InR .i64 (k : Int) ∧ St wd2 wq []) hres28 ⟨hf20, hf21, rfl, (inL rfl), hS23⟩ ?_ ?_
        · intro k29 s257 ct30 f31 wd32 hk33 hb34 hI35 hbrk36 hret37
          obtain ⟨⟩ := s257
          replace hI35 : f31 1 = (Value.pointer (some ⟨b1, 0, none⟩)) ∧ f31 3 = (Value.int .i64 (k11 : Int)) ∧ f31 4 = Value.int .i64 (k29 : Int) ∧ InR .i64 (k29 : Int) ∧ St wd2 wd32 [] := hI35
          replace hb34 : p_spec_l03Commutative_L2 r_Table k11 k29  = some ct30 := hb34
          unfold p_spec_l03Commutative_L2 at hb34
          obtain ⟨hf38, hf39, hf40, hr41, hS42⟩ := hI35
          refine W.seq (W.seq (W.region ?_))
          refine WL.val (Value.int .i64 (k29 : Int)) _ (op_move hf40) rfl ?_
          refine WL.val (Value.int .i64 (k11 : Int)) _ (op_move hf39) rfl ?_
          refine WL.val (Value.bool (decide ((k29 : Int) < (k11 : Int)))) _ (op_lss rfl rfl) rfl ?_
          have hl43 : (k29 : Int) < (k11 : Int) := by omega
          refine WL.nil ?_
          refine W.condT (decide ((k29 : Int) < (k11 : Int))) rfl (decide_eq_true hl43) ?_
          refine W.skip ?_
          refine W.seq ?_
          refine W.block ?_
          refine W.seq ?_
          obtain ⟨x84, hx87, hb34⟩ := bs hb34
          obtain ⟨ha85, hb86, hx87⟩ := idx_some hx87
          obtain ⟨u98, hc99, hr100⟩ := repSl.el r_r_Table hx87
          obtain ⟨x123, hx126, hb34⟩ := bs hb34
          obtain ⟨ha124, hb125, hx126⟩ := idx_some hx126
          obtain ⟨u137, hc138, hr139⟩ := repSl.el hr100 hx126
          obtain ⟨x179, hx182, hb34⟩ := bs hb34
          obtain ⟨ha180, hb181, hx182⟩ := idx_some hx182
          obtain ⟨u193, hc194, hr195⟩ := repSl.el r_r_Table hx182
          obtain ⟨x218, hx221, hb34⟩ := bs hb34
          obtain ⟨ha219, hb220, hx221⟩ := idx_some hx221
          obtain ⟨u232, hc233, hr234⟩ := repSl.el hr195 hx221
          refine W.drawR mixo 16 [] [fun _ v _ _ => v = (Value.pointer (some ⟨b1, 0, none⟩)), fun _ v _ _ => v = v_r_Table, fun _ v _ _ => v = (Value.int .i64 (k11 : Int)) ∧ InR .i64 (k11 : Int), fun _ v _ _ => v = (Value.pointer (some (elA v_r_Table ((k11 : Int)).toNat))), fun _ v _ _ => v = u98, fun _ v _ _ => v = (Value.int .i64 (k29 : Int)) ∧ InR .i64 (k29 : Int), fun _ v _ _ => v = (Value.pointer (some (elA u98 ((k29 : Int)).toNat))), fun _ v _ _ => v = u137, fun _ v _ _ => v = (Value.pointer (some ⟨b1, 0, none⟩)), fun _ v _ _ => v = v_r_Table, fun _ v _ _ => v = (Value.int .i64 (k29 : Int)) ∧ InR .i64 (k29 : Int), fun _ v _ _ => v = (Value.pointer (some (elA v_r_Table ((k29 : Int)).toNat))), fun _ v _ _ => v = u193, fun _ v _ _ => v = (Value.int .i64 (k11 : Int)) ∧ InR .i64 (k11 : Int), fun _ v _ _ => v = (Value.pointer (some (elA u193 ((k11 : Int)).toNat))), fun _ v _ _ => v = u232] (by kernel_rfl) (by kernel_rfl) ⟨pk, pk, pk, pk, pk, pk, pk, pk, pk, pk, pk, pk, pk, pk, pk, pk, trivial⟩ ⟨?_, ?_, ?_, ?_, ?_, ?_, ?_, ?_, ?_, ?_, ?_, ?_, ?_, ?_, ?_, ?_, trivial⟩ ?_
          · refine ObX.op rfl fun f45 wd46 he47 hout48 hphi49 => ?_
            have e51 : f45 1 = (Value.pointer (some ⟨b1, 0, none⟩)) := (hout48 1 rfl).trans hf38
            exact OpX.val (Value.pointer (some ⟨b1, 0, none⟩)) wd46 rfl (op_fieldAddr fd_30_0 e51) (Ext.refl _) rfl
          · refine ObX.op rfl fun f52 wd53 he54 hout55 hphi56 => ?_
            have hS57 := St.extend hS42 he54
            obtain ⟨S58, hS59, hf60⟩ := hphi56 0 17 _ rfl rfl rfl
            have e61 : f52 17 = (Value.pointer (some ⟨b1, 0, none⟩)) := hf60
            exact OpX.val v_r_Table wd53 rfl (op_load one_22 e61 (BoxAt.cell (BoxAt.lift hS57.ext hx6) rfl)) (Ext.refl _) rfl
          · refine ObX.op rfl fun f62 wd63 he64 hout65 hphi66 => ?_
            have e68 : f62 3 = (Value.int .i64 (k11 : Int)) := (hout65 3 rfl).trans hf39
            exact OpX.val (Value.int .i64 (k11 : Int)) wd63 rfl (op_move e68) (Ext.refl _) ⟨rfl, hr22⟩
          · refine ObX.op rfl fun f69 wd70 he71 hout72 hphi73 => ?_
            have hS74 := St.extend hS42 he71
            obtain ⟨S75, hS76, hf77⟩ := hphi73 1 18 _ rfl rfl rfl
            have e78 : f69 18 = v_r_Table := hf77
            obtain ⟨S79, hS80, hf81⟩ := hphi73 2 19 _ rfl rfl rfl
            obtain ⟨e82, hr83⟩ := hf81
            exact OpX.val (Value.pointer (some (elA v_r_Table ((k11 : Int)).toNat))) wd70 rfl (op_idx sl_22 (Ty.lift _ (Ext.trans hE7 hS74.ext) r_r_Table) e78 e82 ha85 hb86) (Ext.refl _) rfl
          · refine ObX.op rfl fun f88 wd89 he90 hout91 hphi92 => ?_
            have hS93 := St.extend hS42 he90
            obtain ⟨S94, hS95, hf96⟩ := hphi92 3 20 _ rfl rfl rfl
            have e97 : f88 20 = (Value.pointer (some (elA v_r_Table ((k11 : Int)).toNat))) := hf96
            exact OpX.val u98 wd89 rfl (op_load one_25 e97 (Ext.cell (Ext.trans hE7 hS93.ext) hc99)) (Ext.refl _) rfl
          · refine ObX.op rfl fun f101 wd102 he103 hout104 hphi105 => ?_
            have e107 : f101 4 = (Value.int .i64 (k29 : Int)) := (hout104 4 rfl).trans hf40
            exact OpX.val (Value.int .i64 (k29 : Int)) wd102 rfl (op_move e107) (Ext.refl _) ⟨rfl, hr41⟩
          · refine ObX.op rfl fun f108 wd109 he110 hout111 hphi112 => ?_
            have hS113 := St.extend hS42 he110
            obtain ⟨S114, hS115, hf116⟩ := hphi112 4 21 _ rfl rfl rfl
            have e117 : f108 21 = u98 := hf116
            obtain ⟨S118, hS119, hf120⟩ := hphi112 5 22 _ rfl rfl rfl
            obtain ⟨e121, hr122⟩ := hf120
            exact OpX.val (Value.pointer (some (elA u98 ((k29 : Int)).toNat))) wd109 rfl (op_idx sl_25 (Ty.lift _ (Ext.trans hE7 hS113.ext) hr100) e117 e121 ha124 hb125) (Ext.refl _) rfl
          · refine ObX.op rfl fun f127 wd128 he129 hout130 hphi131 => ?_
            have hS132 := St.extend hS42 he129
            obtain ⟨S133, hS134, hf135⟩ := hphi131 6 23 _ rfl rfl rfl
            have e136 : f127 23 = (Value.pointer (some (elA u98 ((k29 : Int)).toNat))) := hf135
            exact OpX.val u137 wd128 rfl (op_load one_36 e136 (Ext.cell (Ext.trans hE7 hS132.ext) hc138)) (Ext.refl _) rfl
          · refine ObX.op rfl fun f140 wd141 he142 hout143 hphi144 => ?_
            have e146 : f140 1 = (Value.pointer (some ⟨b1, 0, none⟩)) := (hout143 1 rfl).trans hf38
            exact OpX.val (Value.pointer (some ⟨b1, 0, none⟩)) wd141 rfl (op_fieldAddr fd_30_0 e146) (Ext.refl _) rfl
          · refine ObX.op rfl fun f147 wd148 he149 hout150 hphi151 => ?_
            have hS152 := St.extend hS42 he149
            obtain ⟨S153, hS154, hf155⟩ := hphi151 8 25 _ rfl rfl rfl
            have e156 : f147 25 = (Value.pointer (some ⟨b1, 0, none⟩)) := hf155
            exact OpX.val v_r_Table wd148 rfl (op_load one_22 e156 (BoxAt.cell (BoxAt.lift hS152.ext hx6) rfl)) (Ext.refl _) rfl
          · refine ObX.op rfl fun f157 wd158 he159 hout160 hphi161 => ?_
            have e163 : f157 4 = (Value.int .i64 (k29 : Int)) := (hout160 4 rfl).trans hf40
            exact OpX.val (Value.int .i64 (k29 : Int)) wd158 rfl (op_move e163) (Ext.refl _) ⟨rfl, hr41⟩
          · refine ObX.op rfl fun f164 wd165 he166 hout167 hphi168 => ?_
            have hS169 := St.extend hS42 he166
            obtain ⟨S170, hS171, hf172⟩ := hphi168 9 26 _ rfl rfl rfl
            have e173 : f164 26 = v_r_Table := hf172
            obtain ⟨S174, hS175, hf176⟩ := hphi168 10 27 _ rfl rfl rfl
            obtain ⟨e177, hr178⟩ := hf176
            exact OpX.val (Value.pointer (some (elA v_r_Table ((k29 : Int)).toNat))) wd165 rfl (op_idx sl_22 (Ty.lift _ (Ext.trans hE7 hS169.ext) r_r_Table) e173 e177 ha180 hb181) (Ext.refl _) rfl
          · refine ObX.op rfl fun f183 wd184 he185 hout186 hphi187 => ?_
            have hS188 := St.extend hS42 he185
            obtain ⟨S189, hS190, hf191⟩ := hphi187 11 28 _ rfl rfl rfl
            have e192 : f183 28 = (Value.pointer (some (elA v_r_Table ((k29 : Int)).toNat))) := hf191
            exact OpX.val u193 wd184 rfl (op_load one_25 e192 (Ext.cell (Ext.trans hE7 hS188.ext) hc194)) (Ext.refl _) rfl
          · refine ObX.op rfl fun f196 wd197 he198 hout199 hphi200 => ?_
            have e202 : f196 3 = (Value.int .i64 (k11 : Int)) := (hout199 3 rfl).trans hf39
            exact OpX.val (Value.int .i64 (k11 : Int)) wd197 rfl (op_move e202) (Ext.refl _) ⟨rfl, hr22⟩
          · refine ObX.op rfl fun f203 wd204 he205 hout206 hphi207 => ?_
            have hS208 := St.extend hS42 he205
            obtain ⟨S209, hS210, hf211⟩ := hphi207 12 29 _ rfl rfl rfl
            have e212 : f203 29 = u193 := hf211
            obtain ⟨S213, hS214, hf215⟩ := hphi207 13 30 _ rfl rfl rfl
            obtain ⟨e216, hr217⟩ := hf215
            exact OpX.val (Value.pointer (some (elA u193 ((k11 : Int)).toNat))) wd204 rfl (op_idx sl_25 (Ty.lift _ (Ext.trans hE7 hS208.ext) hr195) e212 e216 ha219 hb220) (Ext.refl _) rfl
          · refine ObX.op rfl fun f222 wd223 he224 hout225 hphi226 => ?_
            have hS227 := St.extend hS42 he224
            obtain ⟨S228, hS229, hf230⟩ := hphi226 14 31 _ rfl rfl rfl
            have e231 : f222 31 = (Value.pointer (some (elA u193 ((k11 : Int)).toNat))) := hf230
            exact OpX.val u232 wd223 rfl (op_load one_36 e231 (Ext.cell (Ext.trans hE7 hS227.ext) hc233)) (Ext.refl _) rfl
          · intro f235 wd236 Ss237 he238 hout239 hSn240 hSd241 hphi242
            show WL _ _ _ _ _ _ _
            have hS243 := St.extend hS42 he238
            have e244 : f235 24 = u137 := hphi242 7 24 _ (by decide) rfl rfl
            have e245 : f235 32 = u232 := hphi242 15 32 _ (by decide) rfl rfl
            have e246 : f235 1 = (Value.pointer (some ⟨b1, 0, none⟩)) := (hout239 1 rfl).trans hf38
            have e247 : f235 3 = (Value.int .i64 (k11 : Int)) := (hout239 3 rfl).trans hf39
            have e248 : f235 4 = (Value.int .i64 (k29 : Int)) := (hout239 4 rfl).trans hf40
            obtain ⟨x249, hx250, hb34⟩ := bs hb34
            refine WL.call _ (op_call fn_47 (args2 e244 e245)) (c_spec_l01Same (Ty.lift _ (Ext.trans hE7 hS243.ext) hr139) (Ty.lift _ (Ext.trans hE7 hS243.ext) hr234) hx250) rfl ?_
            rintro _ wd251 ⟨rfl, he252⟩
            have hS254 := St.extend hS243 he252
            replace hS254 : St wd2 wd251 [] := hS254
            refine WL.val (Value.bool (!x249)) _ (op_not rfl) rfl ?_
            refine WL.nil ?_
            refine W.cond (!x249) rfl (fun hc255 => ?_) (fun hc255 => ?_)
            · replace hb34 := ip hb34 hc255
              refine W.seq (W.region ?_)
              refine WL.val (Value.bool false) _ (op_assign rfl) rfl ?_
              refine WL.nil ?_
              refine W.ret ?_
              obtain rfl := Option.some.inj hb34
              obtain rfl := hret37 _ rfl
              replace hb16 := onRes_ret hb16
              obtain rfl := Option.some.inj hb16
              obtain rfl := hret19 _ rfl
              replace h := onRes_ret h
              obtain rfl := Option.some.inj h
              show FinP _ _ _ _ _ _ _
              exact FinP.ret _ (res1 rfl rfl) ⟨rfl, (Ext.trans hE7 hS254.ext)⟩
            · replace hb34 := inegb hb34 hc255
              refine W.skip ?_
              show W _ _ _ _ _ _
              refine W.region ?_
              refine WL.val (Value.int .i64 (k29 : Int)) _ (op_move e248) rfl ?_
              refine WL.val (Value.int .i64 (w64 ((k29 : Int) + (1 : Int)))) _ (op_add rfl rfl) rfl ?_
              refine WL.val (Value.int .i64 (w64 ((k29 : Int) + (1 : Int)))) _ (op_assign rfl) rfl ?_
              refine WL.nil ?_
              obtain rfl := Option.some.inj hb34
              show ∃ s, _ = Ctl.next s ∧ _
              exact ⟨_, rfl, e246, e247, (ctr_next hl43 hr22), (ctr_rng hl43 hr22), hS254⟩
        · intro s262 f258 wd259 hs260 hI261
          obtain ⟨⟩ := s262
          replace hI261 : f258 1 = (Value.pointer (some ⟨b1, 0, none⟩)) ∧ f258 3 = (Value.int .i64 (k11 : Int)) ∧ f258 4 = Value.int .i64 ((((k11 : Int)).toNat : Nat) : Int) ∧ InR .i64 ((((k11 : Int)).toNat : Nat) : Int) ∧ St wd2 wd259 [] := hI261
          obtain ⟨hf263, hf264, hf265, hr266, hS267⟩ := hI261
          refine W.seq (W.seq (W.region ?_))
          refine WL.val (Value.int .i64 ((((k11 : Int)).toNat : Nat) : Int)) _ (op_move hf265) rfl ?_
          refine WL.val (Value.int .i64 (k11 : Int)) _ (op_move hf264) rfl ?_
          refine WL.val (Value.bool (decide (((((k11 : Int)).toNat : Nat) : Int) < (k11 : Int)))) _ (op_lss rfl rfl) rfl ?_
          have hl268 : ¬ ((((k11 : Int)).toNat : Nat) : Int) < (k11 : Int) := by omega
          refine WL.nil ?_
          refine W.condF (decide (((((k11 : Int)).toNat : Nat) : Int) < (k11 : Int))) rfl (decide_eq_false hl268) ?_
          refine W.exit ?_
          show _ = _ ∧ _
          exact ⟨rfl, _, hs260, hf263, hf264, hS267⟩
      · rintro f269 wd270 ⟨s272, rfl, hq271⟩
        replace hb16 := onRes_fin hb16
        obtain ⟨⟩ := s272
        replace hq271 : f269 1 = (Value.pointer (some ⟨b1, 0, none⟩)) ∧ f269 3 = (Value.int .i64 (k11 : Int)) ∧ St wd2 wd270 [] := hq271
        obtain ⟨hf273, hf274, hS275⟩ := hq271
        show W _ _ _ _ _ _
        refine W.region ?_
        refine WL.val (Value.int .i64 (k11 : Int)) _ (op_move hf274) rfl ?_
        refine WL.val (Value.int .i64 (w64 ((k11 : Int) + (1 : Int)))) _ (op_add rfl rfl) rfl ?_
        refine WL.val (Value.int .i64 (w64 ((k11 : Int) + (1 : Int)))) _ (op_assign rfl) rfl ?_
        refine WL.nil ?_
        obtain rfl := Option.some.inj hb16
        show ∃ s, _ = Ctl.next s ∧ _
        exact ⟨_, rfl, hf273, (ctr_next hl25 hr24), (ctr_rng hl25 hr24), hS275⟩
    · intro s282 f278 wd279 hs280 hI281
      obtain ⟨⟩ := s282
      replace hI281 : f278 1 = (Value.pointer (some ⟨b1, 0, none⟩)) ∧ f278 3 = Value.int .i64 (((r_Table).length : Nat) : Int) ∧ InR .i64 (((r_Table).length : Nat) : Int) ∧ St wd2 wd279 [] := hI281
      obtain ⟨hf283, hf284, hr285, hS286⟩ := hI281
      refine W.seq (W.seq (W.region ?_))
      refine WL.val (Value.int .i64 (((r_Table).length : Nat) : Int)) _ (op_move hf284) rfl ?_
      refine WL.val (Value.pointer (some ⟨b1, 0, none⟩)) _ (op_fieldAddr fd_30_0 hf283) rfl ?_
      refine WL.val v_r_Table _ (op_load one_22 rfl (BoxAt.cell (BoxAt.lift hS286.ext hx6) rfl)) rfl ?_
      have hr287 := inR_len (Ty.lift _ (Ext.trans hE7 hS286.ext) r_r_Table)
      refine WL.val (Value.int .i64 ((r_Table).length : Int)) _ (op_lenL sl_22 (Ty.lift _ (Ext.trans hE7 hS286.ext) r_r_Table) rfl) rfl ?_
      refine WL.val (Value.bool (decide ((((r_Table).length : Nat) : Int) < ((r_Table).length : Int)))) _ (op_lss rfl rfl) rfl ?_
      have hl288 : ¬ (((r_Table).length : Nat) : Int) < ((r_Table).length : Int) := by omega
      refine WL.nil ?_
      refine W.condF (decide ((((r_Table).length : Nat) : Int) < ((r_Table).length : Int))) rfl (decide_eq_false hl288) ?_
      refine W.exit ?_
      show _ = _ ∧ _
      exact ⟨rfl, _, hs280, hS286⟩
  · rintro f289 wd290 ⟨s292, rfl, hq291⟩
    replace h := onRes_fin h
    obtain ⟨⟩ := s292
    replace hq291 : St wd2 wd290 [] := hq291
    have hS293 := hq291
    refine W.seq (W.region ?_)
    refine WL.val (Value.bool true) _ (op_assign rfl) rfl ?_
    refine WL.nil ?_
    refine W.ret ?_
    obtain rfl := Option.some.inj h
    show FinP _ _ _ _ _ _ _
    exact FinP.ret _ (res1 rfl rfl) ⟨rfl, (Ext.trans hE7 hS293.ext)⟩

theorem c_spec_l03Duals {w : World} {r_Table : (List (List (List Int)))} {v_r_Table : Value} (r_r_Table : (Ty.sl (Ty.sl (Ty.sl (Ty.i .i64)))).rep w v_r_Table r_Table) {res : (List Int)} (h : p_spec_l03Duals r_Table  = some res) :
    Ret Try.prog 27 #[(Value.agg #[v_r_Table])] w (fun v w' => ∃ (u0 : Value), v = u0 ∧ Ext w w' ∧ Sep w.heap.size w' [(Ty.sl (Ty.i .i64)).at u0 res]) := by
  unfold p_spec_l03Duals at h
  have hS0 : St w w [] := St.start w
  refine Ret.start (fn := Try.f27) Try.func27 rfl 21 rfl rfl ?_
  refine W.seq (W.region ?_)
  refine WL.box hS0 rfl (cs := [v_r_Table]) rfl rfl ?_
  intro b1 wd2 hS3 he4 hx5
  replace hS3 : St w wd2 [bx b1 [v_r_Table]] := hS3
  have hx6 := St.boxAt hS3 0 rfl
  have hE7 : Ext w wd2 := hS3.ext
  have hS8 : St wd2 wd2 [] := St.start wd2
  refine WL.val (Value.slice none 0 0) _ (op_assign rfl) rfl ?_
  refine WL.nil ?_
  refine W.seq (W.region ?_)
  refine WL.lit0 (t := (Ty.i .i64)) hS8 sl_36 rfl rfl ?_
  intro u9 wd10 hS11 he12
  replace hS11 : St wd2 wd10 [(Ty.sl (Ty.i .i64)).at u9 ([] : (List Int))] := hS11
  refine WL.val u9 _ (op_assign rfl) rfl ?_
  refine WL.nil ?_
  refine W.seq (W.seq (W.region ?_))
  refine WL.val (Value.int .i64 (0 : Int)) _ (op_assign rfl) rfl ?_
  refine WL.nil ?_
  show W _ _ _ _ _ _
  obtain ⟨res13, hres14, h⟩ := bs h
  refine W.blockLoop (fun fq wq => ∃ s, res13 = Res.fin s ∧ ∃ (uu0 : Value), fq 3 = uu0 ∧ St wd2 wq [(Ty.sl (Ty.i .i64)).at uu0 s]) ?_ ?_
  · refine W.forN (fun k (s : (List Int)) fq wq => ∃ (uu0 : Value), fq 1 = (Value.pointer (some ⟨b1, 0, none⟩)) ∧ fq 3 = uu0 ∧ fq 4 = Value.int .i64 (k : Int) ∧ InR .i64 (k : Int) ∧ St wd2 wq [(Ty.sl (Ty.i .i64)).at uu0 s]) hres14 ⟨u9, rfl, rfl, rfl, (inL rfl), hS11⟩ ?_ ?_
    · intro k15 x16 ct17 f18 wd19 hk20 hb21 hI22 hbrk23 hret24
      replace hI22 : ∃ (uu0 : Value), f18 1 = (Value.pointer (some ⟨b1, 0, none⟩)) ∧ f18 3 = uu0 ∧ f18 4 = Value.int .i64 (k15 : Int) ∧ InR .i64 (k15 : Int) ∧ St wd2 wd19 [(Ty.sl (Ty.i .i64)).at uu0 x16] := hI22
      replace hb21 : p_spec_l03Duals_L1 r_Table k15 x16 = some ct17 := hb21
      unfold p_spec_l03Duals_L1 at hb21
      obtain ⟨u25, hf26, hf27, hf28, hr29, hS30⟩ := hI22
      refine W.seq (W.seq (W.region ?_))
      refine WL.val (Value.int .i64 (k15 : Int)) _ (op_move hf28) rfl ?_
      refine WL.val (Value.pointer (some ⟨b1, 0, none⟩)) _ (op_fieldAddr fd_30_0 hf26) rfl ?_
      refine WL.val v_r_Table _ (op_load one_22 rfl (BoxAt.cell (BoxAt.lift hS30.ext hx6) rfl)) rfl ?_
      have hr31 := inR_len (Ty.lift _ (Ext.trans hE7 hS30.ext) r_r_Table)
      refine WL.val (Value.int .i64 ((r_Table).length : Int)) _ (op_lenL sl_22 (Ty.lift _ (Ext.trans hE7 hS30.ext) r_r_Table) rfl) rfl ?_
      refine WL.val (Value.bool (decide ((k15 : Int) < ((r_Table).length : Int)))) _ (op_lss rfl rfl) rfl ?_
      have hl32 : (k15 : Int) < ((r_Table).length : Int) := by omega
      refine WL.nil ?_
      refine W.condT (decide ((k15 : Int) < ((r_Table).length : Int))) rfl (decide_eq_true hl32) ?_
      refine W.skip ?_
      refine W.seq ?_
      refine W.block ?_
      refine W.region ?_
      refine WL.val u25 _ (op_move hf27) rfl ?_
      refine WL.val (Value.pointer (some ⟨b1, 0, none⟩)) _ (op_fieldAddr fd_30_0 hf26) rfl ?_
      refine WL.val v_r_Table _ (op_load one_22 rfl (BoxAt.cell (BoxAt.lift hS30.ext hx6) rfl)) rfl ?_
      refine WL.val (Value.int .i64 (k15 : Int)) _ (op_move hf28) rfl ?_
      obtain ⟨x34, hx35, hb21⟩ := bs hb21
      refine WL.call _ (op_call fn_49 (args2 rfl rfl)) (c_spec_l03Dual (Ty.lift _ (Ext.trans hE7 hS30.ext) r_r_Table) hr29 hx35) rfl ?_
      rintro _ wd37 ⟨rfl, hr36, he38⟩
      have hS40 := St.extend hS30 he38
      replace hS40 : St wd2 wd37 [(Ty.sl (Ty.i .i64)).at u25 x16] := hS40
      refine WL.litFlat (t := (Ty.i .i64)) (flat_i .i64) [(Value.int .i64 x34)] [x34] hS40 sl_36 rfl rfl (fillL rfl ⟨rfl, rfl, rfl, trivial⟩) rfl rfl (litL ⟨⟨rfl, hr36⟩, trivial⟩) rfl ?_
      intro u41 wd42 hS43 he44
      replace hS43 : St wd2 wd42 [(Ty.sl (Ty.i .i64)).at u25 x16, (Ty.sl (Ty.i .i64)).at u41 ([x34] : (List Int))] := hS43
      obtain ⟨x45, hx46, hb21⟩ := bs hb21
      refine WL.append (flat_i .i64) hS43 (k := 0) rfl sl_36 rfl rfl rfl rfl (St.rep (t := (Ty.sl (Ty.i .i64))) hS43 1 rfl) hx46 rfl ?_
      intro u47 wd48 hS49 hz50
      replace hS49 : St wd2 wd48 [(Ty.sl (Ty.i .i64)).at u47 x45, (Ty.sl (Ty.i .i64)).at u41 ([x34] : (List Int))] := hS49
      refine WL.val u47 _ (op_assign rfl) rfl ?_
      refine WL.nil ?_
      show W _ _ _ _ _ _
      refine W.region ?_
      refine WL.val (Value.int .i64 (k15 : Int)) _ (op_move hf28) rfl ?_
      refine WL.val (Value.int .i64 (w64 ((k15 : Int) + (1 : Int)))) _ (op_add rfl rfl) rfl ?_
      refine WL.val (Value.int .i64 (w64 ((k15 : Int) + (1 : Int)))) _ (op_assign rfl) rfl ?_
      refine WL.nil ?_
      obtain rfl := Option.some.inj hb21
      show ∃ s, _ = Ctl.next s ∧ _
      exact ⟨_, rfl, u47, hf26, rfl, (ctr_next hl32 hr31), (ctr_rng hl32 hr31), (St.pick hS49 [0] rfl)⟩
    · intro x57 f52 wd53 hs54 hI55
      replace hI55 : ∃ (uu0 : Value), f52 1 = (Value.pointer (some ⟨b1, 0, none⟩)) ∧ f52 3 = uu0 ∧ f52 4 = Value.int .i64 (((r_Table).length : Nat) : Int) ∧ InR .i64 (((r_Table).length : Nat) : Int) ∧ St wd2 wd53 [(Ty.sl (Ty.i .i64)).at uu0 x57] := hI55
      obtain ⟨u58, hf59, hf60, hf61, hr62, hS63⟩ := hI55
      refine W.seq (W.seq (W.region ?_))
      refine WL.val (Value.int .i64 (((r_Table).length : Nat) : Int)) _ (op_move hf61) rfl ?_
      refine WL.val (Value.pointer (some ⟨b1, 0, none⟩)) _ (op_fieldAddr fd_30_0 hf59) rfl ?_
      refine WL.val v_r_Table _ (op_load one_22 rfl (BoxAt.cell (BoxAt.lift hS63.ext hx6) rfl)) rfl ?_
      have hr64 := inR_len (Ty.lift _ (Ext.trans hE7 hS63.ext) r_r_Table)
      refine WL.val (Value.int .i64 ((r_Table).length : Int)) _ (op_lenL sl_22 (Ty.lift _ (Ext.trans hE7 hS63.ext) r_r_Table) rfl) rfl ?_
      refine WL.val (Value.bool (decide ((((r_Table).length : Nat) : Int) < ((r_Table).length : Int)))) _ (op_lss rfl rfl) rfl ?_
      have hl65 : ¬ (((r_Table).length : Nat) : Int) < ((r_Table).length : Int) := by omega
      refine WL.nil ?_
      refine W.condF (decide ((((r_Table).length : Nat) : Int) < ((r_Table).length : Int))) rfl (decide_eq_false hl65) ?_
      refine W.exit ?_
      show _ = _ ∧ _
      exact ⟨rfl, _, hs54, u58, hf60, hS63⟩
  · rintro f66 wd67 ⟨x70, rfl, hq68⟩
    replace h := onRes_fin h
    replace hq68 : ∃ (uu0 : Value), f66 3 = uu0 ∧ St wd2 wd67 [(Ty.sl (Ty.i .i64)).at uu0 x70] := hq68
    obtain ⟨u71, hf72, hS73⟩ := hq68
    refine W.seq (W.region ?_)
    refine WL.val u71 _ (op_move hf72) rfl ?_
    refine WL.val u71 _ (op_assign rfl) rfl ?_
    refine WL.nil ?_
    refine W.ret ?_
    obtain rfl := Option.some.inj h
    show FinP _ _ _ _ _ _ _
    exact FinP.ret _ (res1 rfl rfl) ⟨u71, rfl, (Ext.trans hE7 hS73.ext), (St.out (St.pick hS73 [0] rfl) (hE7))⟩

theorem c_spec_l01Own {w : World} {list : (List Int)} {v_list : Value} (r_list : (Ty.sl (Ty.i .i64)).rep w v_list list) {res : (List Int)} (h : p_spec_l01Own list  = some res) :
    Ret Try.prog 48 #[v_list] w (fun v w' => ∃ (u0 : Value), v = u0 ∧ Ext w w' ∧ Sep w.heap.size w' [(Ty.sl (Ty.i .i64)).at u0 res]) := by
  unfold p_spec_l01Own at h
  have hS0 : St w w [] := St.start w
  refine Ret.start (fn := Try.f48) Try.func48 rfl 6 rfl rfl ?_
  refine W.seq (W.region ?_)
  refine WL.val (Value.slice none 0 0) _ (op_assign rfl) rfl ?_
  refine WL.nil ?_
  refine W.seq (W.region ?_)
  refine WL.lit0 (t := (Ty.i .i64)) hS0 sl_36 rfl rfl ?_
  intro u1 wd2 hS3 he4
  replace hS3 : St w wd2 [(Ty.sl (Ty.i .i64)).at u1 ([] : (List Int))] := hS3
  refine WL.val v_list _ (op_move rfl) rfl ?_
  obtain ⟨x5, hx6, h⟩ := bs h
  refine WL.append (flat_i .i64) hS3 (k := 0) rfl sl_36 rfl rfl rfl rfl (Ty.lift _ hS3.ext r_list) hx6 rfl ?_
  intro u7 wd8 hS9 hz10
  replace hS9 : St w wd8 [(Ty.sl (Ty.i .i64)).at u7 x5] := hS9
  refine WL.val u7 _ (op_assign rfl) rfl ?_
  refine WL.nil ?_
  refine W.ret ?_
  obtain rfl := Option.some.inj h
  show FinP _ _ _ _ _ _ _
  exact FinP.ret _ (res1 rfl rfl) ⟨u7, rfl, hS9.ext, (St.out (St.pick hS9 [0] rfl) (Ext.refl _))⟩

theorem c_spec_l15Sum_B (rf : ((List (List (List Int))) → (List Int) → (List (List Int)) → (List Int) → Option (Int))) (hrf : ∀ {w : World} {r_Table : (List (List (List Int)))} {v_r_Table : Value} {duals : (List Int)} {v_duals : Value} {graph : (List (List Int))} {v_graph : Value} {labels : (List Int)} {v_labels : Value} (r_r_Table : (Ty.sl (Ty.sl (Ty.sl (Ty.i .i64)))).rep w v_r_Table r_Table) (r_duals : (Ty.sl (Ty.i .i64)).rep w v_duals duals) (r_graph : (Ty.sl (Ty.sl (Ty.i .i64))).rep w v_graph graph) (r_labels : (Ty.sl (Ty.i .i64)).rep w v_labels labels) {res : Int} (h : rf r_Table duals graph labels  = some res),
    Ret Try.prog 26 #[(Value.agg #[v_r_Table]), v_duals, v_graph, v_labels] w (fun v w' => v = Value.int .i64 res ∧ InR .i64 res ∧ Ext w w')) {w : World} {r_Table : (List (List (List Int)))} {v_r_Table : Value} {duals : (List Int)} {v_duals : Value} {graph : (List (List Int))} {v_graph : Value} {labels : (List Int)} {v_labels : Value} (r_r_Table : (Ty.sl (Ty.sl (Ty.sl (Ty.i .i64)))).rep w v_r_Table r_Table) (r_duals : (Ty.sl (Ty.i .i64)).rep w v_duals duals) (r_graph : (Ty.sl (Ty.sl (Ty.i .i64))).rep w v_graph graph) (r_labels : (Ty.sl (Ty.i .i64)).rep w v_labels labels) {res : Int} (h : p_spec_l15Sum_B rf r_Table duals graph labels  = some res) :
    Ret Try.prog 26 #[(Value.agg #[v_r_Table]), v_duals, v_graph, v_labels] w (fun v w' => v = Value.int .i64 res ∧ InR .i64 res ∧ Ext w w') := by
  unfold p_spec_l15Sum_B at h
  have hS0 : St w w [] := St.start w
  refine Ret.start (fn := Try.f26) Try.func26 rfl 116 rfl rfl ?_
  refine W.seq (W.region ?_)
  refine WL.box hS0 rfl (cs := [v_r_Table]) rfl rfl ?_
  intro b1 wd2 hS3 he4 hx5
  replace hS3 : St w wd2 [bx b1 [v_r_Table]] := hS3
  have hx6 := St.boxAt hS3 0 rfl
  have hE7 : Ext w wd2 := hS3.ext
  have hS8 : St wd2 wd2 [] := St.start wd2
  refine WL.val (Value.int .i64 (0 : Int)) _ (op_assign rfl) rfl ?_
  refine WL.nil ?_
  refine W.seq (W.region ?_)
  refine WL.val v_graph _ (op_move rfl) rfl ?_
  have hr9 := inR_len (Ty.lift _ (Ext.trans hE7 hS8.ext) r_graph)
  refine WL.val (Value.int .i64 ((graph).length : Int)) _ (op_lenL sl_25 (Ty.lift _ (Ext.trans hE7 hS8.ext) r_graph) rfl) rfl ?_
  refine WL.val (Value.int .i64 (w64 (((graph).length : Int) * (3 : Int)))) _ (op_mul rfl rfl) rfl ?_
  refine WL.val (Value.int .i64 (w64 (((w64 (((graph).length : Int) * (3 : Int)))).tdiv (2 : Int)))) _ (op_quo (b := 2) rfl rfl (by decide)) rfl ?_
  refine WL.val (Value.int .i64 (w64 (((w64 (((graph).length : Int) * (3 : Int)))).tdiv (2 : Int)))) _ (op_assign rfl) rfl ?_
  refine WL.nil ?_
  refine W.seq (W.seq (W.region ?_))
  refine WL.val v_labels _ (op_move rfl) rfl ?_
  have hr10 := inR_len (Ty.lift _ (Ext.trans hE7 hS8.ext) r_labels)
  refine WL.val (Value.int .i64 ((labels).length : Int)) _ (op_lenL sl_36 (Ty.lift _ (Ext.trans hE7 hS8.ext) r_labels) rfl) rfl ?_
  refine WL.val (Value.int .i64 (w64 (((w64 (((graph).length : Int) * (3 : Int)))).tdiv (2 : Int)))) _ (op_move rfl) rfl ?_
  refine WL.val (Value.bool (decide (((labels).length : Int) < (w64 (((w64 (((graph).length : Int) * (3 : Int)))).tdiv (2 : Int)))))) _ (op_lss rfl rfl) rfl ?_
  refine WL.nil ?_
  refine W.cond (decide (((labels).length : Int) < (w64 (((w64 (((graph).length : Int) * (3 : Int)))).tdiv (2 : Int))))) rfl (fun hc11 => ?_) (fun hc11 => ?_)
  · replace h := ip h hc11
    refine W.seq (W.region ?_)
    refine WL.val (Value.int .i64 (0 : Int)) _ (op_assign rfl) rfl ?_
    refine WL.nil ?_
    refine W.seq (W.seq (W.region ?_))
    refine WL.val (Value.int .i64 (0 : Int)) _ (op_assign rfl) rfl ?_
    refine WL.nil ?_
    show W _ _ _ _ _ _
    obtain ⟨res13, hres14, h⟩ := bs h
    refine W.blockLoop (fun fq wq => ∃ s, res13 = Res.fin s ∧ fq 10 = Value.int .i64 s ∧ InR .i64 s ∧ St wd2 wq []) ?_ ?_
    · refine W.forN (fun k (s : Int) fq wq => fq 1 = v_duals ∧ fq 2 = v_graph ∧ fq 3 = v_labels ∧ fq 4 = (Value.pointer (some ⟨b1, 0, none⟩)) ∧ fq 10 = Value.int .i64 s ∧ InR .i64 s ∧ fq 11 = Value.int .i64 (k : Int) ∧ InR .i64 (k : Int) ∧ St wd2 wq []) hres14 ⟨rfl, rfl, rfl, rfl, rfl, (inL rfl), rfl, (inL rfl), hS8⟩ ?_ ?_
      · intro k15 x16 ct17 f18 wd19 hk20 hb21 hI22 hbrk23 hret24
        replace hI22 : f18 1 = v_duals ∧ f18 2 = v_graph ∧ f18 3 = v_labels ∧ f18 4 = (Value.pointer (some ⟨b1, 0, none⟩)) ∧ f18 10 = Value.int .i64 x16 ∧ InR .i64 x16 ∧ f18 11 = Value.int .i64 (k15 : Int) ∧ InR .i64 (k15 : Int) ∧ St wd2 wd19 [] := hI22
        replace hb21 : p_spec_l15Sum_L1 labels rf r_Table duals graph k15 x16 = some ct17 := hb21
        unfold p_spec_l15Sum_L1 at hb21
        obtain ⟨hf25, hf26, hf27, hf28, hf29, hr30, hf31, hr32, hS33⟩ := hI22
        refine W.seq (W.seq (W.region ?_))
        refine WL.val (Value.int .i64 (k15 : Int)) _ (op_move hf31) rfl ?_
        refine WL.val (Value.pointer (some ⟨b1, 0, none⟩)) _ (op_fieldAddr fd_30_0 hf28) rfl ?_
        refine WL.val v_r_Table _ (op_load one_22 rfl (BoxAt.cell (BoxAt.lift hS33.ext hx6) rfl)) rfl ?_
        have hr34 := inR_len (Ty.lift _ (Ext.trans hE7 hS33.ext) r_r_Table)
        refine WL.val (Value.int .i64 ((r_Table).length : Int)) _ (op_lenL sl_22 (Ty.lift _ (Ext.trans hE7 hS33.ext) r_r_Table) rfl) rfl ?_
        refine WL.val (Value.bool (decide ((k15 : Int) < ((r_Table).length : Int)))) _ (op_lss rfl rfl) rfl ?_
        have hl35 : (k15 : Int) < ((r_Table).length : Int) := by omega
        refine WL.nil ?_
        refine W.condT (decide ((k15 : Int) < ((r_Table).length : Int))) rfl (decide_eq_true hl35) ?_
        refine W.skip ?_
        refine W.seq ?_
        refine W.block ?_
        obtain ⟨x40, hx41, hb21⟩ := bs hb21
        obtain ⟨x51, hx52, hb21⟩ := bs hb21
        obtain ⟨x57, hx58, hb21⟩ := bs hb21
        refine W.cutCode (fun fq wq => fq 1 = v_duals ∧ fq 2 = v_graph ∧ fq 3 = v_labels ∧ fq 4 = (Value.pointer (some ⟨b1, 0, none⟩)) ∧ fq 10 = Value.int .i64 (w64 (x16 + x57)) ∧ InR .i64 (w64 (x16 + x57)) ∧ fq 11 = (Value.int .i64 (k15 : Int)) ∧ St wd2 wq []) ?_ ?_
        · refine W.orders mixo ?_
          intro wd37 he38
          have hS39 := St.extend hS33 he38
          refine WA.take (Value.int .i64 x16) (i := 0) rfl rfl rfl rfl (by kernel_rfl) (fun _ => (op_move hf29)) ?_
          refine WA.take v_duals (i := 2) rfl rfl rfl rfl (by kernel_rfl) (fun _ => (op_move hf25)) ?_
          refine WA.take v_graph (i := 3) rfl rfl rfl rfl (by kernel_rfl) (fun _ => (op_move hf26)) ?_
          refine WA.take v_labels (i := 4) rfl rfl rfl rfl (by kernel_rfl) (fun _ => (op_move hf27)) ?_
          refine WA.take (Value.int .i64 (k15 : Int)) (i := 6) rfl rfl rfl rfl (by kernel_rfl) (fun _ => (op_move hf31)) ?_
          refine WA.all [1, 5, 7] (by kernel_rfl) rfl ⟨⟨_, rfl, ?_⟩, ⟨_, rfl, ?_⟩, ⟨_, rfl, ?_⟩, trivial⟩
          · refine WL.val (Value.agg #[v_r_Table]) _ (op_loadBox st_30 hf28 (BoxAt.lift hS39.ext hx6) rfl rfl) rfl ?_
            refine WL.nil ?_
            show WA _ _ _ _ _ _ _ _
            refine WA.all [5, 7] (by kernel_rfl) rfl ⟨⟨_, rfl, ?_⟩, ⟨_, rfl, ?_⟩, trivial⟩
            · refine WL.call _ (op_call fn_48 (args1 rfl)) (c_spec_l01Own (Ty.lift _ (Ext.trans hE7 hS39.ext) r_labels) hx41) rfl ?_
              rintro u42 wd43 ⟨_, rfl, he44, hs45⟩
              have hS46 := St.join hS39 he44 hs45
              replace hS46 : St wd2 wd43 [(Ty.sl (Ty.i .i64)).at u42 x40] := hS46
              refine WL.nil ?_
              show WA _ _ _ _ _ _ _ _
              refine WA.all [7] (by kernel_rfl) rfl ⟨⟨_, rfl, ?_⟩, trivial⟩
              · refine WL.litFlat (t := (Ty.i .i64)) (flat_i .i64) [(Value.int .i64 (k15 : Int))] [(k15 : Int)] hS46 sl_36 rfl rfl (fillL rfl ⟨rfl, rfl, rfl, trivial⟩) rfl rfl (litL ⟨⟨rfl, hr32⟩, trivial⟩) rfl ?_
                intro u47 wd48 hS49 he50
                replace hS49 : St wd2 wd48 [(Ty.sl (Ty.i .i64)).at u42 x40, (Ty.sl (Ty.i .i64)).at u47 ([(k15 : Int)] : (List Int))] := hS49
                refine WL.nil ?_
                show WA _ _ _ _ _ _ _ _
                refine WA.all [8] (by kernel_rfl) rfl ⟨⟨_, rfl, ?_⟩, trivial⟩
                · refine WL.append (flat_i .i64) hS49 (k := 0) rfl sl_36 rfl rfl rfl rfl (St.rep (t := (Ty.sl (Ty.i .i64))) hS49 1 rfl) hx52 rfl ?_
                  intro u53 wd54 hS55 hz56
                  replace hS55 : St wd2 wd54 [(Ty.sl (Ty.i .i64)).at u53 x51, (Ty.sl (Ty.i .i64)).at u47 ([(k15 : Int)] : (List Int))] := hS55
                  refine WL.nil ?_
                  show WA _ _ _ _ _ _ _ _
                  refine WA.all [9] (by kernel_rfl) rfl ⟨⟨_, rfl, ?_⟩, trivial⟩
                  · refine WL.call _ (op_call fn_26 (args4 rfl rfl rfl rfl)) (hrf (Ty.lift _ (Ext.trans hE7 hS55.ext) r_r_Table) (Ty.lift _ (Ext.trans hE7 hS55.ext) r_duals) (Ty.lift _ (Ext.trans hE7 hS55.ext) r_graph) (St.rep (t := (Ty.sl (Ty.i .i64))) hS55 0 rfl) hx58) rfl ?_
                    rintro _ wd60 ⟨rfl, hr59, he61⟩
                    have hS63 := St.extend hS55 he61
                    replace hS63 : St wd2 wd60 [(Ty.sl (Ty.i .i64)).at u53 x51, (Ty.sl (Ty.i .i64)).at u47 ([(k15 : Int)] : (List Int))] := hS63
                    refine WL.nil ?_
                    show WA _ _ _ _ _ _ _ _
                    refine WA.take (Value.int .i64 (w64 (x16 + x57))) (i := 10) rfl rfl rfl rfl (by kernel_rfl) (fun _ => (op_add rfl rfl)) ?_
                    refine WA.take (Value.int .i64 (w64 (x16 + x57))) (i := 11) rfl rfl rfl rfl (by kernel_rfl) (fun _ => (op_assign rfl)) ?_
                    refine WA.done (by kernel_rfl) ?_
                    exact ⟨hf25, hf26, hf27, hf28, rfl, (inR_wrap _ _), hf31, (St.pick hS63 [] rfl)⟩
            · refine WL.litFlat (t := (Ty.i .i64)) (flat_i .i64) [(Value.int .i64 (k15 : Int))] [(k15 : Int)] hS39 sl_36 rfl rfl (fillL rfl ⟨rfl, rfl, rfl, trivial⟩) rfl rfl (litL ⟨⟨rfl, hr32⟩, trivial⟩) rfl ?_
              intro u47 wd48 hS49 he50
              replace hS49 : St wd2 wd48 [(Ty.sl (Ty.i .i64)).at u47 ([(k15 : Int)] : (List Int))] := hS49
              refine WL.nil ?_
              show WA _ _ _ _ _ _ _ _
              refine WA.all [5] (by kernel_rfl) rfl ⟨⟨_, rfl, ?_⟩, trivial⟩
              · refine WL.call _ (op_call fn_48 (args1 rfl)) (c_spec_l01Own (Ty.lift _ (Ext.trans hE7 hS49.ext) r_labels) hx41) rfl ?_
                rintro u42 wd43 ⟨_, rfl, he44, hs45⟩
                have hS46 := St.join hS49 he44 hs45
                replace hS46 : St wd2 wd43 [(Ty.sl (Ty.i .i64)).at u47 ([(k15 : Int)] : (List Int)), (Ty.sl (Ty.i .i64)).at u42 x40] := hS46
                refine WL.nil ?_
                show WA _ _ _ _ _ _ _ _
                refine WA.all [8] (by kernel_rfl) rfl ⟨⟨_, rfl, ?_⟩, trivial⟩
                · refine WL.append (flat_i .i64) hS46 (k := 1) rfl sl_36 rfl rfl rfl rfl (St.rep (t := (Ty.sl (Ty.i .i64))) hS46 0 rfl) hx52 rfl ?_
                  intro u53 wd54 hS55 hz56
                  replace hS55 : St wd2 wd54 [(Ty.sl (Ty.i .i64)).at u47 ([(k15 : Int)] : (List Int)), (Ty.sl (Ty.i .i64)).at u53 x51] := hS55
                  refine WL.nil ?_
                  show WA _ _ _ _ _ _ _ _
                  refine WA.all [9] (by kernel_rfl) rfl ⟨⟨_, rfl, ?_⟩, trivial⟩
                  · refine WL.call _ (op_call fn_26 (args4 rfl rfl rfl rfl)) (hrf (Ty.lift _ (Ext.trans hE7 hS55.ext) r_r_Table) (Ty.lift _ (Ext.trans hE7 hS55.ext) r_duals) (Ty.lift _ (Ext.trans hE7 hS55.ext) r_graph) (St.rep (t := (Ty.sl (Ty.i .i64))) hS55 1 rfl) hx58) rfl ?_
                    rintro _ wd60 ⟨rfl, hr59, he61⟩
                    have hS63 := St.extend hS55 he61
                    replace hS63 : St wd2 wd60 [(Ty.sl (Ty.i .i64)).at u47 ([(k15 : Int)] : (List Int)), (Ty.sl (Ty.i .i64)).at u53 x51] := hS63
                    refine WL.nil ?_
                    show WA _ _ _ _ _ _ _ _
                    refine WA.take (Value.int .i64 (w64 (x16 + x57))) (i := 10) rfl rfl rfl rfl (by kernel_rfl) (fun _ => (op_add rfl rfl)) ?_
                    refine WA.take (Value.int .i64 (w64 (x16 + x57))) (i := 11) rfl rfl rfl rfl (by kernel_rfl) (fun _ => (op_assign rfl)) ?_
                    refine WA.done (by kernel_rfl) ?_
                    exact ⟨hf25, hf26, hf27, hf28, rfl, (inR_wrap _ _), hf31, (St.pick hS63 [] rfl)⟩
          · refine WL.call _ (op_call fn_48 (args1 rfl)) (c_spec_l01Own (Ty.lift _ (Ext.trans hE7 hS39.ext) r_labels) hx41) rfl ?_
            rintro u42 wd43 ⟨_, rfl, he44, hs45⟩
            have hS46 := St.join hS39 he44 hs45
            replace hS46 : St wd2 wd43 [(Ty.sl (Ty.i .i64)).at u42 x40] := hS46
            refine WL.nil ?_
            show WA _ _ _ _ _ _ _ _
            refine WA.all [1, 7] (by kernel_rfl) rfl ⟨⟨_, rfl, ?_⟩, ⟨_, rfl, ?_⟩, trivial⟩
            · refine WL.val (Value.agg #[v_r_Table]) _ (op_loadBox st_30 hf28 (BoxAt.lift hS46.ext hx6) rfl rfl) rfl ?_
              refine WL.nil ?_
              show WA _ _ _ _ _ _ _ _
              refine WA.all [7] (by kernel_rfl) rfl ⟨⟨_, rfl, ?_⟩, trivial⟩
              · refine WL.litFlat (t := (Ty.i .i64)) (flat_i .i64) [(Value.int .i64 (k15 : Int))] [(k15 : Int)] hS46 sl_36 rfl rfl (fillL rfl ⟨rfl, rfl, rfl, trivial⟩) rfl rfl (litL ⟨⟨rfl, hr32⟩, trivial⟩) rfl ?_
                intro u47 wd48 hS49 he50
                replace hS49 : St wd2 wd48 [(Ty.sl (Ty.i .i64)).at u42 x40, (Ty.sl (Ty.i .i64)).at u47 ([(k15 : Int)] : (List Int))] := hS49
                refine WL.nil ?_
                show WA _ _ _ _ _ _ _ _
                refine WA.all [8] (by kernel_rfl) rfl ⟨⟨_, rfl, ?_⟩, trivial⟩
                · refine WL.append (flat_i .i64) hS49 (k := 0) rfl sl_36 rfl rfl rfl rfl (St.rep (t := (Ty.sl (Ty.i .i64))) hS49 1 rfl) hx52 rfl ?_
                  intro u53 wd54 hS55 hz56
                  replace hS55 : St wd2 wd54 [(Ty.sl (Ty.i .i64)).at u53 x51, (Ty.sl (Ty.i .i64)).at u47 ([(k15 : Int)] : (List Int))] := hS55
                  refine WL.nil ?_
                  show WA _ _ _ _ _ _ _ _
                  refine WA.all [9] (by kernel_rfl) rfl ⟨⟨_, rfl, ?_⟩, trivial⟩
                  · refine WL.call _ (op_call fn_26 (args4 rfl rfl rfl rfl)) (hrf (Ty.lift _ (Ext.trans hE7 hS55.ext) r_r_Table) (Ty.lift _ (Ext.trans hE7 hS55.ext) r_duals) (Ty.lift _ (Ext.trans hE7 hS55.ext) r_graph) (St.rep (t := (Ty.sl (Ty.i .i64))) hS55 0 rfl) hx58) rfl ?_
                    rintro _ wd60 ⟨rfl, hr59, he61⟩
                    have hS63 := St.extend hS55 he61
                    replace hS63 : St wd2 wd60 [(Ty.sl (Ty.i .i64)).at u53 x51, (Ty.sl (Ty.i .i64)).at u47 ([(k15 : Int)] : (List Int))] := hS63
                    refine WL.nil ?_
                    show WA _ _ _ _ _ _ _ _
                    refine WA.take (Value.int .i64 (w64 (x16 + x57))) (i := 10) rfl rfl rfl rfl (by kernel_rfl) (fun _ => (op_add rfl rfl)) ?_
                    refine WA.take (Value.int .i64 (w64 (x16 + x57))) (i := 11) rfl rfl rfl rfl (by kernel_rfl) (fun _ => (op_assign rfl)) ?_
                    refine WA.done (by kernel_rfl) ?_
                    exact ⟨hf25, hf26, hf27, hf28, rfl, (inR_wrap _ _), hf31, (St.pick hS63 [] rfl)⟩
            · refine WL.litFlat (t := (Ty.i .i64)) (flat_i .i64) [(Value.int .i64 (k15 : Int))] [(k15 : Int)] hS46 sl_36 rfl rfl (fillL rfl ⟨rfl, rfl, rfl, trivial⟩) rfl rfl (litL ⟨⟨rfl, hr32⟩, trivial⟩) rfl ?_
              intro u47 wd48 hS49 he50
              replace hS49 : St wd2 wd48 [(Ty.sl (Ty.i .i64)).at u42 x40, (Ty.sl (Ty.i .i64)).at u47 ([(k15 : Int)] : (List Int))] := hS49
              refine WL.nil ?_
              show WA _ _ _ _ _ _ _ _
              refine WA.all [1, 8] (by kernel_rfl) rfl ⟨⟨_, rfl, ?_⟩, ⟨_, rfl, ?_⟩, trivial⟩
              · refine WL.val (Value.agg #[v_r_Table]) _ (op_loadBox st_30 hf28 (BoxAt.lift hS49.ext hx6) rfl rfl) rfl ?_
                refine WL.nil ?_
                show WA _ _ _ _ _ _ _ _
                refine WA.all [8] (by kernel_rfl) rfl ⟨⟨_, rfl, ?_⟩, trivial⟩
                · refine WL.append (flat_i .i64) hS49 (k := 0) rfl sl_36 rfl rfl rfl rfl (St.rep (t := (Ty.sl (Ty.i .i64))) hS49 1 rfl) hx52 rfl ?_
                  intro u53 wd54 hS55 hz56
                  replace hS55 : St wd2 wd54 [(Ty.sl (Ty.i .i64)).at u53 x51, (Ty.sl (Ty.i .i64)).at u47 ([(k15 : Int)] : (List Int))] := hS55
                  refine WL.nil ?_
                  show WA _ _ _ _ _ _ _ _
                  refine WA.all [9] (by kernel_rfl) rfl ⟨⟨_, rfl, ?_⟩, trivial⟩
                  · refine WL.call _ (op_call fn_26 (args4 rfl rfl rfl rfl)) (hrf (Ty.lift _ (Ext.trans hE7 hS55.ext) r_r_Table) (Ty.lift _ (Ext.trans hE7 hS55.ext) r_duals) (Ty.lift _ (Ext.trans hE7 hS55.ext) r_graph) (St.rep (t := (Ty.sl (Ty.i .i64))) hS55 0 rfl) hx58) rfl ?_
                    rintro _ wd60 ⟨rfl, hr59, he61⟩
                    have hS63 := St.extend hS55 he61
                    replace hS63 : St wd2 wd60 [(Ty.sl (Ty.i .i64)).at u53 x51, (Ty.sl (Ty.i .i64)).at u47 ([(k15 : Int)] : (List Int))] := hS63
                    refine WL.nil ?_
                    show WA _ _ _ _ _ _ _ _
                    refine WA.take (Value.int .i64 (w64 (x16 + x57))) (i := 10) rfl rfl rfl rfl (by kernel_rfl) (fun _ => (op_add rfl rfl)) ?_
                    refine WA.take (Value.int .i64 (w64 (x16 + x57))) (i := 11) rfl rfl rfl rfl (by kernel_rfl) (fun _ => (op_assign rfl)) ?_
                    refine WA.done (by kernel_rfl) ?_
                    exact ⟨hf25, hf26, hf27, hf28, rfl, (inR_wrap _ _), hf31, (St.pick hS63 [] rfl)⟩
              · refine WL.append (flat_i .i64) hS49 (k := 0) rfl sl_36 rfl rfl rfl rfl (St.rep (t := (Ty.sl (Ty.i .i64))) hS49 1 rfl) hx52 rfl ?_
                intro u53 wd54 hS55 hz56
                replace hS55 : St wd2 wd54 [(Ty.sl (Ty.i .i64)).at u53 x51, (Ty.sl (Ty.i .i64)).at u47 ([(k15 : Int)] : (List Int))] := hS55
                refine WL.nil ?_
                show WA _ _ _ _ _ _ _ _
                refine WA.all [1] (by kernel_rfl) rfl ⟨⟨_, rfl, ?_⟩, trivial⟩
                · refine WL.val (Value.agg #[v_r_Table]) _ (op_loadBox st_30 hf28 (BoxAt.lift hS55.ext hx6) rfl rfl) rfl ?_
                  refine WL.nil ?_
                  show WA _ _ _ _ _ _ _ _
                  refine WA.all [9] (by kernel_rfl) rfl ⟨⟨_, rfl, ?_⟩, trivial⟩
                  · refine WL.call _ (op_call fn_26 (args4 rfl rfl rfl rfl)) (hrf (Ty.lift _ (Ext.trans hE7 hS55.ext) r_r_Table) (Ty.lift _ (Ext.trans hE7 hS55.ext) r_duals) (Ty.lift _ (Ext.trans hE7 hS55.ext) r_graph) (St.rep (t := (Ty.sl (Ty.i .i64))) hS55 0 rfl) hx58) rfl ?_
                    rintro _ wd60 ⟨rfl, hr59, he61⟩
                    have hS63 := St.extend hS55 he61
                    replace hS63 : St wd2 wd60 [(Ty.sl (Ty.i .i64)).at u53 x51, (Ty.sl (Ty.i .i64)).at u47 ([(k15 : Int)] : (List Int))] := hS63
                    refine WL.nil ?_
                    show WA _ _ _ _ _ _ _ _
                    refine WA.take (Value.int .i64 (w64 (x16 + x57))) (i := 10) rfl rfl rfl rfl (by kernel_rfl) (fun _ => (op_add rfl rfl)) ?_
                    refine WA.take (Value.int .i64 (w64 (x16 + x57))) (i := 11) rfl rfl rfl rfl (by kernel_rfl) (fun _ => (op_assign rfl)) ?_
                    refine WA.done (by kernel_rfl) ?_
                    exact ⟨hf25, hf26, hf27, hf28, rfl, (inR_wrap _ _), hf31, (St.pick hS63 [] rfl)⟩
          · refine WL.litFlat (t := (Ty.i .i64)) (flat_i .i64) [(Value.int .i64 (k15 : Int))] [(k15 : Int)] hS39 sl_36 rfl rfl (fillL rfl ⟨rfl, rfl, rfl, trivial⟩) rfl rfl (litL ⟨⟨rfl, hr32⟩, trivial⟩) rfl ?_
            intro u47 wd48 hS49 he50
            replace hS49 : St wd2 wd48 [(Ty.sl (Ty.i .i64)).at u47 ([(k15 : Int)] : (List Int))] := hS49
            refine WL.nil ?_
            show WA _ _ _ _ _ _ _ _
            refine WA.all [1, 5] (by kernel_rfl) rfl ⟨⟨_, rfl, ?_⟩, ⟨_, rfl, ?_⟩, trivial⟩
            · refine WL.val (Value.agg #[v_r_Table]) _ (op_loadBox st_30 hf28 (BoxAt.lift hS49.ext hx6) rfl rfl) rfl ?_
              refine WL.nil ?_
              show WA _ _ _ _ _ _ _ _
              refine WA.all [5] (by kernel_rfl) rfl ⟨⟨_, rfl, ?_⟩, trivial⟩
              · refine WL.call _ (op_call fn_48 (args1 rfl)) (c_spec_l01Own (Ty.lift _ (Ext.trans hE7 hS49.ext) r_labels) hx41) rfl ?_
                rintro u42 wd43 ⟨_, rfl, he44, hs45⟩
                have hS46 := St.join hS49 he44 hs45
                replace hS46 : St wd2 wd43 [(Ty.sl (Ty.i .i64)).at u47 ([(k15 : Int)] : (List Int)), (Ty.sl (Ty.i .i64)).at u42 x40] := hS46
                refine WL.nil ?_
                show WA _ _ _ _ _ _ _ _
                refine WA.all [8] (by kernel_rfl) rfl ⟨⟨_, rfl, ?_⟩, trivial⟩
                · refine WL.append (flat_i .i64) hS46 (k := 1) rfl sl_36 rfl rfl rfl rfl (St.rep (t := (Ty.sl (Ty.i .i64))) hS46 0 rfl) hx52 rfl ?_
                  intro u53 wd54 hS55 hz56
                  replace hS55 : St wd2 wd54 [(Ty.sl (Ty.i .i64)).at u47 ([(k15 : Int)] : (List Int)), (Ty.sl (Ty.i .i64)).at u53 x51] := hS55
                  refine WL.nil ?_
                  show WA _ _ _ _ _ _ _ _
                  refine WA.all [9] (by kernel_rfl) rfl ⟨⟨_, rfl, ?_⟩, trivial⟩
                  · refine WL.call _ (op_call fn_26 (args4 rfl rfl rfl rfl)) (hrf (Ty.lift _ (Ext.trans hE7 hS55.ext) r_r_Table) (Ty.lift _ (Ext.trans hE7 hS55.ext) r_duals) (Ty.lift _ (Ext.trans hE7 hS55.ext) r_graph) (St.rep (t := (Ty.sl (Ty.i .i64))) hS55 1 rfl) hx58) rfl ?_
                    rintro _ wd60 ⟨rfl, hr59, he61⟩
                    have hS63 := St.extend hS55 he61
                    replace hS63 : St wd2 wd60 [(Ty.sl (Ty.i .i64)).at u47 ([(k15 : Int)] : (List Int)), (Ty.sl (Ty.i .i64)).at u53 x51] := hS63
                    refine WL.nil ?_
                    show WA _ _ _ _ _ _ _ _
                    refine WA.take (Value.int .i64 (w64 (x16 + x57))) (i := 10) rfl rfl rfl rfl (by kernel_rfl) (fun _ => (op_add rfl rfl)) ?_
                    refine WA.take (Value.int .i64 (w64 (x16 + x57))) (i := 11) rfl rfl rfl rfl (by kernel_rfl) (fun _ => (op_assign rfl)) ?_
                    refine WA.done (by kernel_rfl) ?_
                    exact ⟨hf25, hf26, hf27, hf28, rfl, (inR_wrap _ _), hf31, (St.pick hS63 [] rfl)⟩
            · refine WL.call _ (op_call fn_48 (args1 rfl)) (c_spec_l01Own (Ty.lift _ (Ext.trans hE7 hS49.ext) r_labels) hx41) rfl ?_
              rintro u42 wd43 ⟨_, rfl, he44, hs45⟩
              have hS46 := St.join hS49 he44 hs45
              replace hS46 : St wd2 wd43 [(Ty.sl (Ty.i .i64)).at u47 ([(k15 : Int)] : (List Int)), (Ty.sl (Ty.i .i64)).at u42 x40] := hS46
              refine WL.nil ?_
              show WA _ _ _ _ _ _ _ _
              refine WA.all [1, 8] (by kernel_rfl) rfl ⟨⟨_, rfl, ?_⟩, ⟨_, rfl, ?_⟩, trivial⟩
              · refine WL.val (Value.agg #[v_r_Table]) _ (op_loadBox st_30 hf28 (BoxAt.lift hS46.ext hx6) rfl rfl) rfl ?_
                refine WL.nil ?_
                show WA _ _ _ _ _ _ _ _
                refine WA.all [8] (by kernel_rfl) rfl ⟨⟨_, rfl, ?_⟩, trivial⟩
                · refine WL.append (flat_i .i64) hS46 (k := 1) rfl sl_36 rfl rfl rfl rfl (St.rep (t := (Ty.sl (Ty.i .i64))) hS46 0 rfl) hx52 rfl ?_
                  intro u53 wd54 hS55 hz56
                  replace hS55 : St wd2 wd54 [(Ty.sl (Ty.i .i64)).at u47 ([(k15 : Int)] : (List Int)), (Ty.sl (Ty.i .i64)).at u53 x51] := hS55
                  refine WL.nil ?_
                  show WA _ _ _ _ _ _ _ _
                  refine WA.all [9] (by kernel_rfl) rfl ⟨⟨_, rfl, ?_⟩, trivial⟩
                  · refine WL.call _ (op_call fn_26 (args4 rfl rfl rfl rfl)) (hrf (Ty.lift _ (Ext.trans hE7 hS55.ext) r_r_Table) (Ty.lift _ (Ext.trans hE7 hS55.ext) r_duals) (Ty.lift _ (Ext.trans hE7 hS55.ext) r_graph) (St.rep (t := (Ty.sl (Ty.i .i64))) hS55 1 rfl) hx58) rfl ?_
                    rintro _ wd60 ⟨rfl, hr59, he61⟩
                    have hS63 := St.extend hS55 he61
                    replace hS63 : St wd2 wd60 [(Ty.sl (Ty.i .i64)).at u47 ([(k15 : Int)] : (List Int)), (Ty.sl (Ty.i .i64)).at u53 x51] := hS63
                    refine WL.nil ?_
                    show WA _ _ _ _ _ _ _ _
                    refine WA.take (Value.int .i64 (w64 (x16 + x57))) (i := 10) rfl rfl rfl rfl (by kernel_rfl) (fun _ => (op_add rfl rfl)) ?_
                    refine WA.take (Value.int .i64 (w64 (x16 + x57))) (i := 11) rfl rfl rfl rfl (by kernel_rfl) (fun _ => (op_assign rfl)) ?_
                    refine WA.done (by kernel_rfl) ?_
                    exact ⟨hf25, hf26, hf27, hf28, rfl, (inR_wrap _ _), hf31, (St.pick hS63 [] rfl)⟩
              · refine WL.append (flat_i .i64) hS46 (k := 1) rfl sl_36 rfl rfl rfl rfl (St.rep (t := (Ty.sl (Ty.i .i64))) hS46 0 rfl) hx52 rfl ?_
                intro u53 wd54 hS55 hz56
                replace hS55 : St wd2 wd54 [(Ty.sl (Ty.i .i64)).at u47 ([(k15 : Int)] : (List Int)), (Ty.sl (Ty.i .i64)).at u53 x51] := hS55
                refine WL.nil ?_
                show WA _ _ _ _ _ _ _ _
                refine WA.all [1] (by kernel_rfl) rfl ⟨⟨_, rfl, ?_⟩, trivial⟩
                · refine WL.val (Value.agg #[v_r_Table]) _ (op_loadBox st_30 hf28 (BoxAt.lift hS55.ext hx6) rfl rfl) rfl ?_
                  refine WL.nil ?_
                  show WA _ _ _ _ _ _ _ _
                  refine WA.all [9] (by kernel_rfl) rfl ⟨⟨_, rfl, ?_⟩, trivial⟩
                  · refine WL.call _ (op_call fn_26 (args4 rfl rfl rfl rfl)) (hrf (Ty.lift _ (Ext.trans hE7 hS55.ext) r_r_Table) (Ty.lift _ (Ext.trans hE7 hS55.ext) r_duals) (Ty.lift _ (Ext.trans hE7 hS55.ext) r_graph) (St.rep (t := (Ty.sl (Ty.i .i64))) hS55 1 rfl) hx58) rfl ?_
                    rintro _ wd60 ⟨rfl, hr59, he61⟩
                    have hS63 := St.extend hS55 he61
                    replace hS63 : St wd2 wd60 [(Ty.sl (Ty.i .i64)).at u47 ([(k15 : Int)] : (List Int)), (Ty.sl (Ty.i .i64)).at u53 x51] := hS63
                    refine WL.nil ?_
                    show WA _ _ _ _ _ _ _ _
                    refine WA.take (Value.int .i64 (w64 (x16 + x57))) (i := 10) rfl rfl rfl rfl (by kernel_rfl) (fun _ => (op_add rfl rfl)) ?_
                    refine WA.take (Value.int .i64 (w64 (x16 + x57))) (i := 11) rfl rfl rfl rfl (by kernel_rfl) (fun _ => (op_assign rfl)) ?_
                    refine WA.done (by kernel_rfl) ?_
                    exact ⟨hf25, hf26, hf27, hf28, rfl, (inR_wrap _ _), hf31, (St.pick hS63 [] rfl)⟩
        · intro f64 wd65 hq66
          obtain ⟨hf67, hf68, hf69, hf70, hf71, hr72, hf73, hS74⟩ := hq66
          show W _ _ _ _ _ _
          refine W.region ?_
          refine WL.val (Value.int .i64 (k15 : Int)) _ (op_move hf73) rfl ?_
          refine WL.val (Value.int .i64 (w64 ((k15 : Int) + (1 : Int)))) _ (op_add rfl rfl) rfl ?_
          refine WL.val (Value.int .i64 (w64 ((k15 : Int) + (1 : Int)))) _ (op_assign rfl) rfl ?_
          refine WL.nil ?_
          obtain rfl := Option.some.inj hb21
          show ∃ s, _ = Ctl.next s ∧ _
          exact ⟨_, rfl, hf67, hf68, hf69, hf70, hf71, hr72, (ctr_next hl35 hr34), (ctr_rng hl35 hr34), hS74⟩
      · intro x81 f76 wd77 hs78 hI79
        replace hI79 : f76 1 = v_duals ∧ f76 2 = v_graph ∧ f76 3 = v_labels ∧ f76 4 = (Value.pointer (some ⟨b1, 0, none⟩)) ∧ f76 10 = Value.int .i64 x81 ∧ InR .i64 x81 ∧ f76 11 = Value.int .i64 (((r_Table).length : Nat) : Int) ∧ InR .i64 (((r_Table).length : Nat) : Int) ∧ St wd2 wd77 [] := hI79
        obtain ⟨hf82, hf83, hf84, hf85, hf86, hr87, hf88, hr89, hS90⟩ := hI79
        refine W.seq (W.seq (W.region ?_))
        refine WL.val (Value.int .i64 (((r_Table).length : Nat) : Int)) _ (op_move hf88) rfl ?_
        refine WL.val (Value.pointer (some ⟨b1, 0, none⟩)) _ (op_fieldAddr fd_30_0 hf85) rfl ?_
        refine WL.val v_r_Table _ (op_load one_22 rfl (BoxAt.cell (BoxAt.lift hS90.ext hx6) rfl)) rfl ?_
        have hr91 := inR_len (Ty.lift _ (Ext.trans hE7 hS90.ext) r_r_Table)
        refine WL.val (Value.int .i64 ((r_Table).length : Int)) _ (op_lenL sl_22 (Ty.lift _ (Ext.trans hE7 hS90.ext) r_r_Table) rfl) rfl ?_
        refine WL.val (Value.bool (decide ((((r_Table).length : Nat) : Int) < ((r_Table).length : Int)))) _ (op_lss rfl rfl) rfl ?_
        have hl92 : ¬ (((r_Table).length : Nat) : Int) < ((r_Table).length : Int) := by omega
        refine WL.nil ?_
        refine W.condF (decide ((((r_Table).length : Nat) : Int) < ((r_Table).length : Int))) rfl (decide_eq_false hl92) ?_
        refine W.exit ?_
        show _ = _ ∧ _
        exact ⟨rfl, _, hs78, hf86, hr87, hS90⟩
    · rintro f93 wd94 ⟨x97, rfl, hq95⟩
      replace h := onRes_fin h
      replace hq95 : f93 10 = Value.int .i64 x97 ∧ InR .i64 x97 ∧ St wd2 wd94 [] := hq95
      obtain ⟨hf98, hr99, hS100⟩ := hq95
      refine W.seq (W.region ?_)
      refine WL.val (Value.int .i64 x97) _ (op_move hf98) rfl ?_
      refine WL.val (Value.int .i64 x97) _ (op_assign rfl) rfl ?_
      refine WL.nil ?_
      refine W.ret ?_
      obtain rfl := Option.some.inj h
      show FinP _ _ _ _ _ _ _
      exact FinP.ret _ (res1 rfl rfl) ⟨rfl, hr99, (Ext.trans hE7 hS100.ext)⟩
  · replace h := inegb h hc11
    refine W.skip ?_
    refine W.seq (W.region ?_)
    refine WL.val (Value.int .i64 (w64 (((w64 (((graph).length : Int) * (3 : Int)))).tdiv (2 : Int)))) _ (op_move rfl) rfl ?_
    obtain ⟨x102, hx103, h⟩ := bs h
    refine WL.make (t := Ty.b) hS8 sl_54 (fun _ _ => rfl) rfl rfl hx103 rfl rfl ?_
    intro u104 wd105 hS106 he107
    replace hS106 : St wd2 wd105 [(Ty.sl Ty.b).at u104 x102] := hS106
    refine WL.val u104 _ (op_assign rfl) rfl ?_
    refine WL.val (Value.int .i64 (1 : Int)) _ (op_assign rfl) rfl ?_
    refine WL.nil ?_
    refine W.seq (W.seq (W.region ?_))
    refine WL.val (Value.int .i64 (0 : Int)) _ (op_assign rfl) rfl ?_
    refine WL.nil ?_
    show W _ _ _ _ _ _
    obtain ⟨res108, hres109, h⟩ := bs h
    refine W.blockLoop (fun fq wq => ∃ s, res108 = Res.fin s ∧ fq 13 = Value.int .i64 s.2.1 ∧ InR .i64 s.2.1 ∧ St wd2 wq []) ?_ ?_
    · refine W.whileC (fun (s : (List Bool) × Int × Int) fq wq => fq 1 = v_duals ∧ fq 2 = v_graph ∧ fq 3 = v_labels ∧ fq 4 = (Value.pointer (some ⟨b1, 0, none⟩)) ∧ fq 12 = u104 ∧ fq 13 = Value.int .i64 s.2.1 ∧ InR .i64 s.2.1 ∧ fq 14 = Value.int .i64 s.2.2 ∧ InR .i64 s.2.2 ∧ St wd2 wq [(Ty.sl Ty.b).at u104 s.1]) hres109 ⟨rfl, rfl, rfl, rfl, rfl, rfl, (inL rfl), rfl, (inL rfl), hS106⟩ ?_
      intro s579 ct114 f115 wd116 hb118 hI119 hbrk120 hret121
      obtain ⟨x111, x112, x113⟩ := s579
      replace hI119 : f115 1 = v_duals ∧ f115 2 = v_graph ∧ f115 3 = v_labels ∧ f115 4 = (Value.pointer (some ⟨b1, 0, none⟩)) ∧ f115 12 = u104 ∧ f115 13 = Value.int .i64 x112 ∧ InR .i64 x112 ∧ f115 14 = Value.int .i64 x113 ∧ InR .i64 x113 ∧ St wd2 wd116 [(Ty.sl Ty.b).at u104 x111] := hI119
      replace hb118 : p_spec_l15Sum_L2 graph labels duals r_Table  x111 x112 x113 = some ct114 := hb118
      unfold p_spec_l15Sum_L2 at hb118
      obtain ⟨hf122, hf123, hf124, hf125, hf126, hf127, hr128, hf129, hr130, hS131⟩ := hI119
      refine W.seq (W.seq (W.region ?_))
      refine WL.val (Value.int .i64 x113) _ (op_move hf129) rfl ?_
      refine WL.val v_graph _ (op_move hf123) rfl ?_
      have hr132 := inR_len (Ty.lift _ (Ext.trans hE7 hS131.ext) r_graph)
      refine WL.val (Value.int .i64 ((graph).length : Int)) _ (op_lenL sl_25 (Ty.lift _ (Ext.trans hE7 hS131.ext) r_graph) rfl) rfl ?_
      refine WL.val (Value.bool (decide (x113 < ((graph).length : Int)))) _ (op_lss rfl rfl) rfl ?_
      refine WL.val (Value.bool (decide (x113 < ((graph).length : Int)))) _ (op_move rfl) rfl ?_
      refine WL.cut 3 (fun fq wq => fq 1 = v_duals ∧ fq 2 = v_graph ∧ fq 3 = v_labels ∧ fq 4 = (Value.pointer (some ⟨b1, 0, none⟩)) ∧ fq 12 = u104 ∧ fq 13 = (Value.int .i64 x112) ∧ fq 14 = (Value.int .i64 x113) ∧ fq 54 = (Value.bool ((decide (x113 < ((graph).length : Int))) && (x112 != (0 : Int)))) ∧ St wd2 wq [(Ty.sl Ty.b).at u104 x111]) ?_ ?_
      · rcases Bool.eq_false_or_eq_true (decide (x113 < ((graph).length : Int))) with hc133 | hc133
        · refine WL.grun rfl (bool_of rfl hc133) ?_
          refine WL.val (Value.int .i64 x112) _ (op_move hf127) rfl ?_
          refine WL.grun rfl (bool_of rfl hc133) ?_
          refine WL.val (Value.bool (x112 != (0 : Int))) _ (op_neq rfl rfl) rfl ?_
          refine WL.val (Value.bool (x112 != (0 : Int))) _ (op_pick_t (evb_of rfl hc133) rfl) rfl ?_
          refine WL.nil ?_
          exact ⟨rfl, hf122, hf123, hf124, hf125, hf126, hf127, hf129, (andT hc133), hS131⟩
        · refine WL.gskip rfl (bool_of rfl hc133) rfl ?_
          refine WL.gskip rfl (bool_of rfl hc133) rfl ?_
          refine WL.val (Value.bool false) _ (op_pick_f (evb_of rfl hc133) rfl) rfl ?_
          refine WL.nil ?_
          exact ⟨rfl, hf122, hf123, hf124, hf125, hf126, hf127, hf129, (andF hc133), hS131⟩
      · intro f134 wd135 hq136
        obtain ⟨hf137, hf138, hf139, hf140, hf141, hf142, hf143, hf144, hS145⟩ := hq136
        refine WL.nil ?_
        refine W.cond ((decide (x113 < ((graph).length : Int))) && (x112 != (0 : Int))) hf144 (fun hc146 => ?_) (fun hc146 => ?_)
        · replace hb118 := ip hb118 hc146
          refine W.skip ?_
          refine W.seq ?_
          refine W.block ?_
          refine W.seq (W.region ?_)
          refine WL.lit0 (t := (Ty.i .i64)) hS145 sl_36 rfl rfl ?_
          intro u148 wd149 hS150 he151
          replace hS150 : St wd2 wd149 [(Ty.sl Ty.b).at u104 x111, (Ty.sl (Ty.i .i64)).at u148 ([] : (List Int))] := hS150
          refine WL.val u148 _ (op_assign rfl) rfl ?_
          refine WL.nil ?_
          refine W.seq (W.seq (W.region ?_))
          refine WL.val (Value.int .i64 (0 : Int)) _ (op_assign rfl) rfl ?_
          refine WL.nil ?_
          show W _ _ _ _ _ _
          obtain ⟨res152, hres153, hb118⟩ := bs hb118
          refine W.blockLoop (fun fq wq => ∃ s, res152 = Res.fin s ∧ ∃ (uu0 : Value), fq 1 = v_duals ∧ fq 2 = v_graph ∧ fq 3 = v_labels ∧ fq 4 = (Value.pointer (some ⟨b1, 0, none⟩)) ∧ fq 12 = u104 ∧ fq 13 = (Value.int .i64 x112) ∧ fq 14 = (Value.int .i64 x113) ∧ fq 15 = uu0 ∧ St wd2 wq [(Ty.sl Ty.b).at u104 s.1, (Ty.sl (Ty.i .i64)).at uu0 s.2]) ?_ ?_
          · refine W.forN (fun k (s : (List Bool) × (List Int)) fq wq => ∃ (uu0 : Value), fq 1 = v_duals ∧ fq 2 = v_graph ∧ fq 3 = v_labels ∧ fq 4 = (Value.pointer (some ⟨b1, 0, none⟩)) ∧ fq 12 = u104 ∧ fq 13 = (Value.int .i64 x112) ∧ fq 14 = (Value.int .i64 x113) ∧ fq 15 = uu0 ∧ fq 16 = Value.int .i64 (k : Int) ∧ InR .i64 (k : Int) ∧ St wd2 wq [(Ty.sl Ty.b).at u104 s.1, (Ty.sl (Ty.i .i64)).at uu0 s.2]) hres153 ⟨u148, hf137, hf138, hf139, hf140, hf141, hf142, hf143, rfl, rfl, (inL rfl), hS150⟩ ?_ ?_
            · intro k154 s261 ct157 f158 wd159 hk160 hb161 hI162 hbrk163 hret164
              obtain ⟨x155, x156⟩ := s261
              replace hI162 : ∃ (uu0 : Value), f158 1 = v_duals ∧ f158 2 = v_graph ∧ f158 3 = v_labels ∧ f158 4 = (Value.pointer (some ⟨b1, 0, none⟩)) ∧ f158 12 = u104 ∧ f158 13 = (Value.int .i64 x112) ∧ f158 14 = (Value.int .i64 x113) ∧ f158 15 = uu0 ∧ f158 16 = Value.int .i64 (k154 : Int) ∧ InR .i64 (k154 : Int) ∧ St wd2 wd159 [(Ty.sl Ty.b).at u104 x155, (Ty.sl (Ty.i .i64)).at uu0 x156] := hI162
              replace hb161 : p_spec_l15Sum_L3 graph x113 labels duals k154 x155 x156 = some ct157 := hb161
              unfold p_spec_l15Sum_L3 at hb161
              obtain ⟨u165, hf166, hf167, hf168, hf169, hf170, hf171, hf172, hf173, hf174, hr175, hS176⟩ := hI162
              refine W.seq (W.seq (W.region ?_))
              refine WL.val (Value.int .i64 (k154 : Int)) _ (op_move hf174) rfl ?_
              refine WL.val (Value.bool (decide ((k154 : Int) < (3 : Int)))) _ (op_lss rfl rfl) rfl ?_
              have hl177 : (k154 : Int) < (3 : Int) := by omega
              refine WL.nil ?_
              refine W.condT (decide ((k154 : Int) < (3 : Int))) rfl (decide_eq_true hl177) ?_
              refine W.skip ?_
              refine W.seq ?_
              refine W.block ?_
              refine W.seq (W.region ?_)
              refine WL.val v_graph _ (op_move hf167) rfl ?_
              refine WL.val (Value.int .i64 x113) _ (op_move hf172) rfl ?_
              obtain ⟨x179, hx182, hb161⟩ := bs hb161
              obtain ⟨ha180, hb181, hx182⟩ := idx_some hx182
              refine WL.val (Value.pointer (some (elA v_graph (x113).toNat))) _ (op_idx sl_25 (Ty.lift _ (Ext.trans hE7 hS176.ext) r_graph) rfl rfl ha180 hb181) rfl ?_
              obtain ⟨u183, hc184, hr185⟩ := repSl.el r_graph hx182
              refine WL.val u183 _ (op_load one_36 rfl (Ext.cell (Ext.trans hE7 hS176.ext) hc184)) rfl ?_
              refine WL.val (Value.int .i64 (k154 : Int)) _ (op_move hf174) rfl ?_
              obtain ⟨x186, hx189, hb161⟩ := bs hb161
              obtain ⟨ha187, hb188, hx189⟩ := idx_some hx189
              refine WL.val (Value.pointer (some (elA u183 ((k154 : Int)).toNat))) _ (op_idx sl_36 (Ty.lift _ (Ext.trans hE7 hS176.ext) hr185) rfl rfl ha187 hb188) rfl ?_
              obtain ⟨u190, hc191, hr192⟩ := repSl.el hr185 hx189
              obtain ⟨rfl, hr192⟩ := hr192
              refine WL.val (Value.int .i64 x186) _ (op_load one_2 rfl (Ext.cell (Ext.trans hE7 hS176.ext) hc191)) rfl ?_
              refine WL.val (Value.int .i64 x186) _ (op_assign rfl) rfl ?_
              refine WL.nil ?_
              refine W.seq (W.seq (W.region ?_))
              refine WL.val u104 _ (op_move hf170) rfl ?_
              refine WL.val (Value.int .i64 x186) _ (op_move rfl) rfl ?_
              obtain ⟨x193, hx196, hb161⟩ := bs hb161
              obtain ⟨ha194, hb195, hx196⟩ := idx_some hx196
              refine WL.val (Value.pointer (some (elA u104 (x186).toNat))) _ (op_idx sl_54 (St.rep (t := (Ty.sl Ty.b)) hS176 0 rfl) rfl rfl ha194 hb195) rfl ?_
              obtain ⟨u197, hc198, hr199⟩ := repSl.el (St.rep (t := (Ty.sl Ty.b)) hS176 0 rfl) hx196
              obtain rfl := hr199
              refine WL.val (Value.bool x193) _ (op_load one_4 rfl hc198) rfl ?_
              refine WL.nil ?_
              show W _ _ _ _ _ _
              obtain ⟨x200, hj201, hb161⟩ := bs hb161
              refine W.cutCode (fun fq wq => ∃ (uu0 : Value), fq 1 = v_duals ∧ fq 2 = v_graph ∧ fq 3 = v_labels ∧ fq 4 = (Value.pointer (some ⟨b1, 0, none⟩)) ∧ fq 12 = u104 ∧ fq 13 = (Value.int .i64 x112) ∧ fq 14 = (Value.int .i64 x113) ∧ fq 15 = uu0 ∧ fq 16 = (Value.int .i64 (k154 : Int)) ∧ fq 17 = (Value.int .i64 x186) ∧ St wd2 wq [(Ty.sl Ty.b).at u104 x155, (Ty.sl (Ty.i .i64)).at uu0 x200]) ?_ ?_
              · refine W.cond x193 rfl (fun hc202 => ?_) (fun hc202 => ?_)
                · replace hj201 := ip hj201 hc202
                  refine W.region ?_
                  refine WL.val u165 _ (op_move hf173) rfl ?_
                  refine WL.val v_duals _ (op_move hf166) rfl ?_
                  refine WL.val v_labels _ (op_move hf168) rfl ?_
                  refine WL.val (Value.int .i64 x186) _ (op_move rfl) rfl ?_
                  obtain ⟨x203, hx206, hj201⟩ := bs hj201
                  obtain ⟨ha204, hb205, hx206⟩ := idx_some hx206
                  refine WL.val (Value.pointer (some (elA v_labels (x186).toNat))) _ (op_idx sl_36 (Ty.lift _ (Ext.trans hE7 hS176.ext) r_labels) rfl rfl ha204 hb205) rfl ?_
                  obtain ⟨u207, hc208, hr209⟩ := repSl.el r_labels hx206
                  obtain ⟨rfl, hr209⟩ := hr209
                  refine WL.val (Value.int .i64 x203) _ (op_load one_2 rfl (Ext.cell (Ext.trans hE7 hS176.ext) hc208)) rfl ?_
                  obtain ⟨x210, hx213, hj201⟩ := bs hj201
                  obtain ⟨ha211, hb212, hx213⟩ := idx_some hx213
                  refine WL.val (Value.pointer (some (elA v_duals (x203).toNat))) _ (op_idx sl_36 (Ty.lift _ (Ext.trans hE7 hS176.ext) r_duals) rfl rfl ha211 hb212) rfl ?_
                  obtain ⟨u214, hc215, hr216⟩ := repSl.el r_duals hx213
                  obtain ⟨rfl, hr216⟩ := hr216
                  refine WL.val (Value.int .i64 x210) _ (op_load one_2 rfl (Ext.cell (Ext.trans hE7 hS176.ext) hc215)) rfl ?_
                  refine WL.litFlat (t := (Ty.i .i64)) (flat_i .i64) [(Value.int .i64 x210)] [x210] hS176 sl_36 rfl rfl (fillL rfl ⟨rfl, rfl, rfl, trivial⟩) rfl rfl (litL ⟨⟨rfl, hr216⟩, trivial⟩) rfl ?_
                  intro u217 wd218 hS219 he220
                  replace hS219 : St wd2 wd218 [(Ty.sl Ty.b).at u104 x155, (Ty.sl (Ty.i .i64)).at u165 x156, (Ty.sl (Ty.i .i64)).at u217 ([x210] : (List Int))] := hS219
                  obtain ⟨x221, hx222, hj201⟩ := bs hj201
                  refine WL.append (flat_i .i64) hS219 (k := 1) rfl sl_36 rfl rfl rfl rfl (St.rep (t := (Ty.sl (Ty.i .i64))) hS219 2 rfl) hx222 rfl ?_
                  intro u223 wd224 hS225 hz226
                  replace hS225 : St wd2 wd224 [(Ty.sl Ty.b).at u104 x155, (Ty.sl (Ty.i .i64)).at u223 x221, (Ty.sl (Ty.i .i64)).at u217 ([x210] : (List Int))] := hS225
                  refine WL.val u223 _ (op_assign rfl) rfl ?_
                  refine WL.nil ?_
                  obtain rfl := Option.some.inj hj201
                  exact ⟨u223, hf166, hf167, hf168, hf169, hf170, hf171, hf172, rfl, hf174, rfl, (St.pick hS225 [0, 1] rfl)⟩
                · replace hj201 := inegb hj201 hc202
                  refine W.region ?_
                  refine WL.val u165 _ (op_move hf173) rfl ?_
                  refine WL.val v_labels _ (op_move hf168) rfl ?_
                  refine WL.val (Value.int .i64 x186) _ (op_move rfl) rfl ?_
                  obtain ⟨x227, hx230, hj201⟩ := bs hj201
                  obtain ⟨ha228, hb229, hx230⟩ := idx_some hx230
                  refine WL.val (Value.pointer (some (elA v_labels (x186).toNat))) _ (op_idx sl_36 (Ty.lift _ (Ext.trans hE7 hS176.ext) r_labels) rfl rfl ha228 hb229) rfl ?_
                  obtain ⟨u231, hc232, hr233⟩ := repSl.el r_labels hx230
                  obtain ⟨rfl, hr233⟩ := hr233
                  refine WL.val (Value.int .i64 x227) _ (op_load one_2 rfl (Ext.cell (Ext.trans hE7 hS176.ext) hc232)) rfl ?_
                  refine WL.litFlat (t := (Ty.i .i64)) (flat_i .i64) [(Value.int .i64 x227)] [x227] hS176 sl_36 rfl rfl (fillL rfl ⟨rfl, rfl, rfl, trivial⟩) rfl rfl (litL ⟨⟨rfl, hr233⟩, trivial⟩) rfl ?_
                  intro u234 wd235 hS236 he237
                  replace hS236 : St wd2 wd235 [(Ty.sl Ty.b).at u104 x155, (Ty.sl (Ty.i .i64)).at u165 x156, (Ty.sl (Ty.i .i64)).at u234 ([x227] : (List Int))] := hS236
                  obtain ⟨x238, hx239, hj201⟩ := bs hj201
                  refine WL.append (flat_i .i64) hS236 (k := 1) rfl sl_36 rfl rfl rfl rfl (St.rep (t := (Ty.sl (Ty.i .i64))) hS236 2 rfl) hx239 rfl ?_
                  intro u240 wd241 hS242 hz243
                  replace hS242 : St wd2 wd241 [(Ty.sl Ty.b).at u104 x155, (Ty.sl (Ty.i .i64)).at u240 x238, (Ty.sl (Ty.i .i64)).at u234 ([x227] : (List Int))] := hS242
                  refine WL.val u240 _ (op_assign rfl) rfl ?_
                  refine WL.nil ?_
                  obtain rfl := Option.some.inj hj201
                  exact ⟨u240, hf166, hf167, hf168, hf169, hf170, hf171, hf172, rfl, hf174, rfl, (St.pick hS242 [0, 1] rfl)⟩
              · intro f244 wd245 hq246
                obtain ⟨u247, hf248, hf249, hf250, hf251, hf252, hf253, hf254, hf255, hf256, hf257, hS258⟩ := hq246
                show W _ _ _ _ _ _
                refine W.region ?_
                refine WL.val u104 _ (op_move hf252) rfl ?_
                refine WL.val (Value.int .i64 x186) _ (op_move hf257) rfl ?_
                refine WL.val (Value.pointer (some (elA u104 (x186).toNat))) _ (op_idx sl_54 (St.rep (t := (Ty.sl Ty.b)) hS258 0 rfl) rfl rfl ha194 hb195) rfl ?_
                refine WL.storeEl flat_b hS258 (k := 0) rfl sz_4 rfl rfl (lt_of_idx ha194 hb195) rfl ?_
                intro wd259 hS260
                replace hS260 : St wd2 wd259 [(Ty.sl Ty.b).at u104 ((x155).set (x186).toNat true), (Ty.sl (Ty.i .i64)).at u247 x200] := hS260
                refine WL.nil ?_
                show W _ _ _ _ _ _
                refine W.region ?_
                refine WL.val (Value.int .i64 (k154 : Int)) _ (op_move hf256) rfl ?_
                refine WL.val (Value.int .i64 (w64 ((k154 : Int) + (1 : Int)))) _ (op_add rfl rfl) rfl ?_
                refine WL.val (Value.int .i64 (w64 ((k154 : Int) + (1 : Int)))) _ (op_assign rfl) rfl ?_
                refine WL.nil ?_
                obtain rfl := Option.some.inj hb161
                show ∃ s, _ = Ctl.next s ∧ _
                exact ⟨_, rfl, u247, hf248, hf249, hf250, hf251, hf252, hf253, hf254, hf255, (ctr_next hl177 (inL rfl)), (ctr_rng hl177 (inL rfl)), hS260⟩
            · intro s266 f262 wd263 hs264 hI265
              obtain ⟨x267, x268⟩ := s266
              replace hI265 : ∃ (uu0 : Value), f262 1 = v_duals ∧ f262 2 = v_graph ∧ f262 3 = v_labels ∧ f262 4 = (Value.pointer (some ⟨b1, 0, none⟩)) ∧ f262 12 = u104 ∧ f262 13 = (Value.int .i64 x112) ∧ f262 14 = (Value.int .i64 x113) ∧ f262 15 = uu0 ∧ f262 16 = Value.int .i64 ((((3 : Int)).toNat : Nat) : Int) ∧ InR .i64 ((((3 : Int)).toNat : Nat) : Int) ∧ St wd2 wd263 [(Ty.sl Ty.b).at u104 x267, (Ty.sl (Ty.i .i64)).at uu0 x268] := hI265
              obtain ⟨u269, hf270, hf271, hf272, hf273, hf274, hf275, hf276, hf277, hf278, hr279, hS280⟩ := hI265
              refine W.seq (W.seq (W.region ?_))
              refine WL.val (Value.int .i64 ((((3 : Int)).toNat : Nat) : Int)) _ (op_move hf278) rfl ?_
              refine WL.val (Value.bool (decide (((((3 : Int)).toNat : Nat) : Int) < (3 : Int)))) _ (op_lss rfl rfl) rfl ?_
              have hl281 : ¬ ((((3 : Int)).toNat : Nat) : Int) < (3 : Int) := by omega
              refine WL.nil ?_
              refine W.condF (decide (((((3 : Int)).toNat : Nat) : Int) < (3 : Int))) rfl (decide_eq_false hl281) ?_
              refine W.exit ?_
              show _ = _ ∧ _
              exact ⟨rfl, _, hs264, u269, hf270, hf271, hf272, hf273, hf274, hf275, hf276, hf277, hS280⟩
          · rintro f282 wd283 ⟨s285, rfl, hq284⟩
            replace hb118 := onRes_fin hb118
            obtain ⟨x286, x287⟩ := s285
            replace hq284 : ∃ (uu0 : Value), f282 1 = v_duals ∧ f282 2 = v_graph ∧ f282 3 = v_labels ∧ f282 4 = (Value.pointer (some ⟨b1, 0, none⟩)) ∧ f282 12 = u104 ∧ f282 13 = (Value.int .i64 x112) ∧ f282 14 = (Value.int .i64 x113) ∧ f282 15 = uu0 ∧ St wd2 wd283 [(Ty.sl Ty.b).at u104 x286, (Ty.sl (Ty.i .i64)).at uu0 x287] := hq284
            replace hb118 : (_ : Option _) = _ := hb118
            dsimp only at hb118
            obtain ⟨u288, hf289, hf290, hf291, hf292, hf293, hf294, hf295, hf296, hS297⟩ := hq284
            show W _ _ _ _ _ _
            obtain ⟨x339, hx342, hb118⟩ := bs hb118
            obtain ⟨ha340, hb341, hx342⟩ := idx_some hx342
            obtain ⟨u353, hc354, hr355⟩ := repSl.el (St.rep (t := (Ty.sl (Ty.i .i64))) hS297 1 rfl) hx342
            obtain ⟨rfl, hr355⟩ := hr355
            obtain ⟨x371, hx374, hb118⟩ := bs hb118
            obtain ⟨ha372, hb373, hx374⟩ := idx_some hx374
            obtain ⟨u385, hc386, hr387⟩ := repSl.el r_r_Table hx374
            obtain ⟨x405, hx408, hb118⟩ := bs hb118
            obtain ⟨ha406, hb407, hx408⟩ := idx_some hx408
            obtain ⟨u419, hc420, hr421⟩ := repSl.el (St.rep (t := (Ty.sl (Ty.i .i64))) hS297 1 rfl) hx408
            obtain ⟨rfl, hr421⟩ := hr421
            obtain ⟨x437, hx440, hb118⟩ := bs hb118
            obtain ⟨ha438, hb439, hx440⟩ := idx_some hx440
            obtain ⟨u451, hc452, hr453⟩ := repSl.el hr387 hx440
            obtain ⟨x478, hx481, hb118⟩ := bs hb118
            obtain ⟨ha479, hb480, hx481⟩ := idx_some hx481
            obtain ⟨u492, hc493, hr494⟩ := repSl.el (St.rep (t := (Ty.sl (Ty.i .i64))) hS297 1 rfl) hx481
            obtain ⟨rfl, hr494⟩ := hr494
            obtain ⟨x510, hx513, hb118⟩ := bs hb118
            obtain ⟨ha511, hb512, hx513⟩ := idx_some hx513
            obtain ⟨u524, hc525, hr526⟩ := repSl.el r_duals hx513
            obtain ⟨rfl, hr526⟩ := hr526
            obtain ⟨x542, hx545, hb118⟩ := bs hb118
            obtain ⟨ha543, hb544, hx545⟩ := idx_some hx545
            obtain ⟨u556, hc557, hr558⟩ := repSl.el hr453 hx545
            obtain ⟨rfl, hr558⟩ := hr558
            refine W.drawR mixo 21 [] [fun _ v _ _ => v = (Value.int .i64 x112) ∧ InR .i64 x112, fun _ v _ _ => v = (Value.pointer (some ⟨b1, 0, none⟩)), fun _ v _ _ => v = v_r_Table, fun _ v _ _ => v = u288, fun _ v _ _ => v = (Value.pointer (some (elA u288 ((0 : Int)).toNat))), fun _ v _ _ => v = (Value.int .i64 x339) ∧ InR .i64 x339, fun _ v _ _ => v = (Value.pointer (some (elA v_r_Table (x339).toNat))), fun _ v _ _ => v = u385, fun _ v _ _ => v = u288, fun _ v _ _ => v = (Value.pointer (some (elA u288 ((1 : Int)).toNat))), fun _ v _ _ => v = (Value.int .i64 x405) ∧ InR .i64 x405, fun _ v _ _ => v = (Value.pointer (some (elA u385 (x405).toNat))), fun _ v _ _ => v = u451, fun _ v _ _ => v = v_duals, fun _ v _ _ => v = u288, fun _ v _ _ => v = (Value.pointer (some (elA u288 ((2 : Int)).toNat))), fun _ v _ _ => v = (Value.int .i64 x478) ∧ InR .i64 x478, fun _ v _ _ => v = (Value.pointer (some (elA v_duals (x478).toNat))), fun _ v _ _ => v = (Value.int .i64 x510) ∧ InR .i64 x510, fun _ v _ _ => v = (Value.pointer (some (elA u451 (x510).toNat))), fun _ v _ _ => v = (Value.int .i64 x542) ∧ InR .i64 x542] (by kernel_rfl) (by kernel_rfl) ⟨pk, pk, pk, pk, pk, pk, pk, pk, pk, pk, pk, pk, pk, pk, pk, pk, pk, pk, pk, pk, pk, trivial⟩ ⟨?_, ?_, ?_, ?_, ?_, ?_, ?_, ?_, ?_, ?_, ?_, ?_, ?_, ?_, ?_, ?_, ?_, ?_, ?_, ?_, ?_, trivial⟩ ?_
            · refine ObX.op rfl fun f298 wd299 he300 hout301 hphi302 => ?_
              have e304 : f298 13 = (Value.int .i64 x112) := (hout301 13 rfl).trans hf294
              exact OpX.val (Value.int .i64 x112) wd299 rfl (op_move e304) (Ext.refl _) ⟨rfl, hr128⟩
            · refine ObX.op rfl fun f305 wd306 he307 hout308 hphi309 => ?_
              have e311 : f305 4 = (Value.pointer (some ⟨b1, 0, none⟩)) := (hout308 4 rfl).trans hf292
              exact OpX.val (Value.pointer (some ⟨b1, 0, none⟩)) wd306 rfl (op_fieldAddr fd_30_0 e311) (Ext.refl _) rfl
            · refine ObX.op rfl fun f312 wd313 he314 hout315 hphi316 => ?_
              have hS317 := St.extend hS297 he314
              obtain ⟨S318, hS319, hf320⟩ := hphi316 1 94 _ rfl rfl rfl
              have e321 : f312 94 = (Value.pointer (some ⟨b1, 0, none⟩)) := hf320
              exact OpX.val v_r_Table wd313 rfl (op_load one_22 e321 (BoxAt.cell (BoxAt.lift hS317.ext hx6) rfl)) (Ext.refl _) rfl
            · refine ObX.op rfl fun f322 wd323 he324 hout325 hphi326 => ?_
              have e328 : f322 15 = u288 := (hout325 15 rfl).trans hf296
              exact OpX.val u288 wd323 rfl (op_move e328) (Ext.refl _) rfl
            · refine ObX.op rfl fun f329 wd330 he331 hout332 hphi333 => ?_
              have hS334 := St.extend hS297 he331
              obtain ⟨S335, hS336, hf337⟩ := hphi333 3 96 _ rfl rfl rfl
              have e338 : f329 96 = u288 := hf337
              exact OpX.val (Value.pointer (some (elA u288 ((0 : Int)).toNat))) wd330 rfl (op_idx sl_36 (St.rep (t := (Ty.sl (Ty.i .i64))) hS334 1 rfl) e338 rfl ha340 hb341) (Ext.refl _) rfl
            · refine ObX.op rfl fun f343 wd344 he345 hout346 hphi347 => ?_
              obtain ⟨S349, hS350, hf351⟩ := hphi347 4 97 _ rfl rfl rfl
              have e352 : f343 97 = (Value.pointer (some (elA u288 ((0 : Int)).toNat))) := hf351
              exact OpX.val (Value.int .i64 x339) wd344 rfl (op_load one_2 e352 (Ext.cell he345 hc354)) (Ext.refl _) ⟨rfl, hr355⟩
            · refine ObX.op rfl fun f356 wd357 he358 hout359 hphi360 => ?_
              have hS361 := St.extend hS297 he358
              obtain ⟨S362, hS363, hf364⟩ := hphi360 2 95 _ rfl rfl rfl
              have e365 : f356 95 = v_r_Table := hf364
              obtain ⟨S366, hS367, hf368⟩ := hphi360 5 98 _ rfl rfl rfl
              obtain ⟨e369, hr370⟩ := hf368
              exact OpX.val (Value.pointer (some (elA v_r_Table (x339).toNat))) wd357 rfl (op_idx sl_22 (Ty.lift _ (Ext.trans hE7 hS361.ext) r_r_Table) e365 e369 ha372 hb373) (Ext.refl _) rfl
            · refine ObX.op rfl fun f375 wd376 he377 hout378 hphi379 => ?_
              have hS380 := St.extend hS297 he377
              obtain ⟨S381, hS382, hf383⟩ := hphi379 6 99 _ rfl rfl rfl
              have e384 : f375 99 = (Value.pointer (some (elA v_r_Table (x339).toNat))) := hf383
              exact OpX.val u385 wd376 rfl (op_load one_25 e384 (Ext.cell (Ext.trans hE7 hS380.ext) hc386)) (Ext.refl _) rfl
            · refine ObX.op rfl fun f388 wd389 he390 hout391 hphi392 => ?_
              have e394 : f388 15 = u288 := (hout391 15 rfl).trans hf296
              exact OpX.val u288 wd389 rfl (op_move e394) (Ext.refl _) rfl
            · refine ObX.op rfl fun f395 wd396 he397 hout398 hphi399 => ?_
              have hS400 := St.extend hS297 he397
              obtain ⟨S401, hS402, hf403⟩ := hphi399 8 101 _ rfl rfl rfl
              have e404 : f395 101 = u288 := hf403
              exact OpX.val (Value.pointer (some (elA u288 ((1 : Int)).toNat))) wd396 rfl (op_idx sl_36 (St.rep (t := (Ty.sl (Ty.i .i64))) hS400 1 rfl) e404 rfl ha406 hb407) (Ext.refl _) rfl
            · refine ObX.op rfl fun f409 wd410 he411 hout412 hphi413 => ?_
              obtain ⟨S415, hS416, hf417⟩ := hphi413 9 102 _ rfl rfl rfl
              have e418 : f409 102 = (Value.pointer (some (elA u288 ((1 : Int)).toNat))) := hf417
              exact OpX.val (Value.int .i64 x405) wd410 rfl (op_load one_2 e418 (Ext.cell he411 hc420)) (Ext.refl _) ⟨rfl, hr421⟩
            · refine ObX.op rfl fun f422 wd423 he424 hout425 hphi426 => ?_
              have hS427 := St.extend hS297 he424
              obtain ⟨S428, hS429, hf430⟩ := hphi426 7 100 _ rfl rfl rfl
              have e431 : f422 100 = u385 := hf430
              obtain ⟨S432, hS433, hf434⟩ := hphi426 10 103 _ rfl rfl rfl
              obtain ⟨e435, hr436⟩ := hf434
              exact OpX.val (Value.pointer (some (elA u385 (x405).toNat))) wd423 rfl (op_idx sl_25 (Ty.lift _ (Ext.trans hE7 hS427.ext) hr387) e431 e435 ha438 hb439) (Ext.refl _) rfl
            · refine ObX.op rfl fun f441 wd442 he443 hout444 hphi445 => ?_
              have hS446 := St.extend hS297 he443
              obtain ⟨S447, hS448, hf449⟩ := hphi445 11 104 _ rfl rfl rfl
              have e450 : f441 104 = (Value.pointer (some (elA u385 (x405).toNat))) := hf449
              exact OpX.val u451 wd442 rfl (op_load one_36 e450 (Ext.cell (Ext.trans hE7 hS446.ext) hc452)) (Ext.refl _) rfl
            · refine ObX.op rfl fun f454 wd455 he456 hout457 hphi458 => ?_
              have e460 : f454 1 = v_duals := (hout457 1 rfl).trans hf289
              exact OpX.val v_duals wd455 rfl (op_move e460) (Ext.refl _) rfl
            · refine ObX.op rfl fun f461 wd462 he463 hout464 hphi465 => ?_
              have e467 : f461 15 = u288 := (hout464 15 rfl).trans hf296
              exact OpX.val u288 wd462 rfl (op_move e467) (Ext.refl _) rfl
            · refine ObX.op rfl fun f468 wd469 he470 hout471 hphi472 => ?_
              have hS473 := St.extend hS297 he470
              obtain ⟨S474, hS475, hf476⟩ := hphi472 14 107 _ rfl rfl rfl
              have e477 : f468 107 = u288 := hf476
              exact OpX.val (Value.pointer (some (elA u288 ((2 : Int)).toNat))) wd469 rfl (op_idx sl_36 (St.rep (t := (Ty.sl (Ty.i .i64))) hS473 1 rfl) e477 rfl ha479 hb480) (Ext.refl _) rfl
            · refine ObX.op rfl fun f482 wd483 he484 hout485 hphi486 => ?_
              obtain ⟨S488, hS489, hf490⟩ := hphi486 15 108 _ rfl rfl rfl
              have e491 : f482 108 = (Value.pointer (some (elA u288 ((2 : Int)).toNat))) := hf490
              exact OpX.val (Value.int .i64 x478) wd483 rfl (op_load one_2 e491 (Ext.cell he484 hc493)) (Ext.refl _) ⟨rfl, hr494⟩
            · refine ObX.op rfl fun f495 wd496 he497 hout498 hphi499 => ?_
              have hS500 := St.extend hS297 he497
              obtain ⟨S501, hS502, hf503⟩ := hphi499 13 106 _ rfl rfl rfl
              have e504 : f495 106 = v_duals := hf503
              obtain ⟨S505, hS506, hf507⟩ := hphi499 16 109 _ rfl rfl rfl
              obtain ⟨e508, hr509⟩ := hf507
              exact OpX.val (Value.pointer (some (elA v_duals (x478).toNat))) wd496 rfl (op_idx sl_36 (Ty.lift _ (Ext.trans hE7 hS500.ext) r_duals) e504 e508 ha511 hb512) (Ext.refl _) rfl
            · refine ObX.op rfl fun f514 wd515 he516 hout517 hphi518 => ?_
              have hS519 := St.extend hS297 he516
              obtain ⟨S520, hS521, hf522⟩ := hphi518 17 110 _ rfl rfl rfl
              have e523 : f514 110 = (Value.pointer (some (elA v_duals (x478).toNat))) := hf522
              exact OpX.val (Value.int .i64 x510) wd515 rfl (op_load one_2 e523 (Ext.cell (Ext.trans hE7 hS519.ext) hc525)) (Ext.refl _) ⟨rfl, hr526⟩
            · refine ObX.op rfl fun f527 wd528 he529 hout530 hphi531 => ?_
              have hS532 := St.extend hS297 he529
              obtain ⟨S533, hS534, hf535⟩ := hphi531 12 105 _ rfl rfl rfl
              have e536 : f527 105 = u451 := hf535
              obtain ⟨S537, hS538, hf539⟩ := hphi531 18 111 _ rfl rfl rfl
              obtain ⟨e540, hr541⟩ := hf539
              exact OpX.val (Value.pointer (some (elA u451 (x510).toNat))) wd528 rfl (op_idx sl_36 (Ty.lift _ (Ext.trans hE7 hS532.ext) hr453) e536 e540 ha543 hb544) (Ext.refl _) rfl
            · refine ObX.op rfl fun f546 wd547 he548 hout549 hphi550 => ?_
              have hS551 := St.extend hS297 he548
              obtain ⟨S552, hS553, hf554⟩ := hphi550 19 112 _ rfl rfl rfl
              have e555 : f546 112 = (Value.pointer (some (elA u451 (x510).toNat))) := hf554
              exact OpX.val (Value.int .i64 x542) wd547 rfl (op_load one_2 e555 (Ext.cell (Ext.trans hE7 hS551.ext) hc557)) (Ext.refl _) ⟨rfl, hr558⟩
            · intro f559 wd560 Ss561 he562 hout563 hSn564 hSd565 hphi566
              show WL _ _ _ _ _ _ _
              have hS567 := St.extend hS297 he562
              obtain ⟨e568, hr569⟩ := hphi566 0 93 _ (by decide) rfl rfl
              obtain ⟨e570, hr571⟩ := hphi566 20 113 _ (by decide) rfl rfl
              have e572 : f559 1 = v_duals := (hout563 1 rfl).trans hf289
              have e573 : f559 2 = v_graph := (hout563 2 rfl).trans hf290
              have e574 : f559 3 = v_labels := (hout563 3 rfl).trans hf291
              have e575 : f559 4 = (Value.pointer (some ⟨b1, 0, none⟩)) := (hout563 4 rfl).trans hf292
              have e576 : f559 12 = u104 := (hout563 12 rfl).trans hf293
              have e577 : f559 14 = (Value.int .i64 x113) := (hout563 14 rfl).trans hf295
              refine WL.val (Value.int .i64 (w64 (x112 * x542))) _ (op_mul e568 e570) rfl ?_
              refine WL.val (Value.int .i64 (w64 (x112 * x542))) _ (op_assign rfl) rfl ?_
              refine WL.nil ?_
              show W _ _ _ _ _ _
              refine W.region ?_
              refine WL.val (Value.int .i64 x113) _ (op_move e577) rfl ?_
              refine WL.val (Value.int .i64 (w64 (x113 + (1 : Int)))) _ (op_add rfl rfl) rfl ?_
              refine WL.val (Value.int .i64 (w64 (x113 + (1 : Int)))) _ (op_assign rfl) rfl ?_
              refine WL.nil ?_
              obtain rfl := Option.some.inj hb118
              show ∃ s, _ = Ctl.next s ∧ _
              exact ⟨_, rfl, e572, e573, e574, e575, e576, rfl, (inR_wrap _ _), rfl, (inR_wrap _ _), (St.pick hS567 [0] rfl)⟩
        · replace hb118 := inegb hb118 hc146
          refine W.exit ?_
          obtain rfl := Option.some.inj hb118
          show _ = _ ∧ _
          exact ⟨rfl, _, hbrk120 _ rfl, hf142, hr128, (St.pick hS145 [] rfl)⟩
    · rintro f580 wd581 ⟨s583, rfl, hq582⟩
      replace h := onRes_fin h
      obtain ⟨x584, x585, x586⟩ := s583
      replace hq582 : f580 13 = Value.int .i64 x585 ∧ InR .i64 x585 ∧ St wd2 wd581 [] := hq582
      replace h : (_ : Option _) = _ := h
      dsimp only at h
      obtain ⟨hf587, hr588, hS589⟩ := hq582
      refine W.seq (W.region ?_)
      refine WL.val (Value.int .i64 x585) _ (op_move hf587) rfl ?_
      refine WL.val (Value.int .i64 x585) _ (op_assign rfl) rfl ?_
      refine WL.nil ?_
      refine W.ret ?_
      obtain rfl := Option.some.inj h
      show FinP _ _ _ _ _ _ _
      exact FinP.ret _ (res1 rfl rfl) ⟨rfl, hr588, (Ext.trans hE7 hS589.ext)⟩
theorem c_spec_l15Sum_F (n : Nat) : ∀ {w : World} {r_Table : (List (List (List Int)))} {v_r_Table : Value} {duals : (List Int)} {v_duals : Value} {graph : (List (List Int))} {v_graph : Value} {labels : (List Int)} {v_labels : Value} (r_r_Table : (Ty.sl (Ty.sl (Ty.sl (Ty.i .i64)))).rep w v_r_Table r_Table) (r_duals : (Ty.sl (Ty.i .i64)).rep w v_duals duals) (r_graph : (Ty.sl (Ty.sl (Ty.i .i64))).rep w v_graph graph) (r_labels : (Ty.sl (Ty.i .i64)).rep w v_labels labels) {res : Int} (h : p_spec_l15Sum_F n r_Table duals graph labels  = some res),
    Ret Try.prog 26 #[(Value.agg #[v_r_Table]), v_duals, v_graph, v_labels] w (fun v w' => v = Value.int .i64 res ∧ InR .i64 res ∧ Ext w w') := by
  induction n with
  | zero => intros; rename_i h; cases h
  | succ n ih => exact c_spec_l15Sum_B _ ih
theorem c_spec_l15Sum {w : World} {r_Table : (List (List (List Int)))} {v_r_Table : Value} {duals : (List Int)} {v_duals : Value} {graph : (List (List Int))} {v_graph : Value} {labels : (List Int)} {v_labels : Value} (r_r_Table : (Ty.sl (Ty.sl (Ty.sl (Ty.i .i64)))).rep w v_r_Table r_Table) (r_duals : (Ty.sl (Ty.i .i64)).rep w v_duals duals) (r_graph : (Ty.sl (Ty.sl (Ty.i .i64))).rep w v_graph graph) (r_labels : (Ty.sl (Ty.i .i64)).rep w v_labels labels) {res : Int} (h : p_spec_l15Sum r_Table duals graph labels  = some res) :
    Ret Try.prog 26 #[(Value.agg #[v_r_Table]), v_duals, v_graph, v_labels] w (fun v w' => v = Value.int .i64 res ∧ InR .i64 res ∧ Ext w w') := c_spec_l15Sum_F fuelN r_r_Table r_duals r_graph r_labels h

theorem c_spec_GraphDimension {w : World} {r_Table : (List (List (List Int)))} {v_r_Table : Value} {graph : (List (List Int))} {v_graph : Value} (r_r_Table : (Ty.sl (Ty.sl (Ty.sl (Ty.i .i64)))).rep w v_r_Table r_Table) (r_graph : (Ty.sl (Ty.sl (Ty.i .i64))).rep w v_graph graph) {res : Int × Int} (h : p_spec_GraphDimension r_Table graph  = some res) :
    Ret Try.prog 7 #[(Value.agg #[v_r_Table]), v_graph] w (fun v w' => v = (Value.tuple #[Value.int .i64 res.1, Value.int .i64 res.2]) ∧ InR .i64 res.1 ∧ InR .i64 res.2 ∧ Ext w w') := by
  unfold p_spec_GraphDimension at h
  have hS0 : St w w [] := St.start w
  refine Ret.start (fn := Try.f7) Try.func7 rfl 92 rfl rfl ?_
  refine W.seq (W.region ?_)
  refine WL.box hS0 rfl (cs := [v_r_Table]) rfl rfl ?_
  intro b1 wd2 hS3 he4 hx5
  replace hS3 : St w wd2 [bx b1 [v_r_Table]] := hS3
  have hx6 := St.boxAt hS3 0 rfl
  have hE7 : Ext w wd2 := hS3.ext
  have hS8 : St wd2 wd2 [] := St.start wd2
  refine WL.val (Value.int .i64 (0 : Int)) _ (op_assign rfl) rfl ?_
  refine WL.val (Value.int .i64 (0 : Int)) _ (op_assign rfl) rfl ?_
  refine WL.nil ?_
  refine W.seq (W.seq (W.region ?_))
  refine WL.val (Value.agg #[v_r_Table]) _ (op_loadBox st_30 rfl (BoxAt.lift hS8.ext hx6) rfl rfl) rfl ?_
  obtain ⟨x9, hx10, h⟩ := bs h
  refine WL.call _ (op_call fn_23 (args1 rfl)) (c_spec_l03Is (Ty.lift _ (Ext.trans hE7 hS8.ext) r_r_Table) hx10) rfl ?_
  rintro _ wd11 ⟨rfl, he12⟩
  have hS14 := St.extend hS8 he12
  replace hS14 : St wd2 wd11 [] := hS14
  refine WL.val (Value.bool (!x9)) _ (op_not rfl) rfl ?_
  refine WL.val (Value.bool (!x9)) _ (op_move rfl) rfl ?_
  obtain ⟨x16, hj17, h⟩ := bs h
  refine WL.cut 4 (fun fq wq => fq 1 = v_graph ∧ fq 2 = (Value.pointer (some ⟨b1, 0, none⟩)) ∧ fq 20 = Value.bool x16 ∧ St wd2 wq []) ?_ ?_
  · rcases Bool.eq_false_or_eq_true (!x9) with hc15 | hc15
    · replace hj17 := ip hj17 hc15
      refine WL.gskip rfl (bool_of rfl hc15) rfl ?_
      refine WL.gskip rfl (bool_of rfl hc15) rfl ?_
      refine WL.gskip rfl (bool_of rfl hc15) rfl ?_
      refine WL.val (Value.bool true) _ (op_pick_t (evb_of rfl hc15) rfl) rfl ?_
      refine WL.nil ?_
      obtain rfl := Option.some.inj hj17
      exact ⟨rfl, rfl, rfl, rfl, hS14⟩
    · replace hj17 := inegb hj17 hc15
      refine WL.grun rfl (bool_of rfl hc15) ?_
      refine WL.val v_graph _ (op_move rfl) rfl ?_
      refine WL.grun rfl (bool_of rfl hc15) ?_
      obtain ⟨x21, hx22, hj17⟩ := bs hj17
      refine WL.call _ (op_call fn_24 (args1 rfl)) (c_spec_l15Graph (Ty.lift _ (Ext.trans hE7 hS14.ext) r_graph) hx22) rfl ?_
      rintro _ wd23 ⟨rfl, he24⟩
      have hS26 := St.extend hS14 he24
      replace hS26 : St wd2 wd23 [] := hS26
      refine WL.grun rfl (bool_of rfl hc15) ?_
      refine WL.val (Value.bool (!x21)) _ (op_not rfl) rfl ?_
      refine WL.val (Value.bool (!x21)) _ (op_pick_f (evb_of rfl hc15) rfl) rfl ?_
      refine WL.nil ?_
      obtain rfl := Option.some.inj hj17
      exact ⟨rfl, rfl, rfl, rfl, hS26⟩
  · intro f18 wd19 hq20
    obtain ⟨hf27, hf28, hf29, hS30⟩ := hq20
    refine WL.nil ?_
    refine W.cond x16 hf29 (fun hc31 => ?_) (fun hc31 => ?_)
    · replace h := ip h hc31
      refine W.seq (W.region ?_)
      refine WL.val (Value.int .i64 (0 : Int)) _ (op_assign rfl) rfl ?_
      refine WL.val (Value.int .i64 (1 : Int)) _ (op_assign rfl) rfl ?_
      refine WL.nil ?_
      refine W.ret ?_
      obtain rfl := Option.some.inj h
      show FinP _ _ _ _ _ _ _
      exact FinP.ret _ (res2 rfl rfl rfl) ⟨rfl, (inL rfl), (inL rfl), (Ext.trans hE7 hS30.ext)⟩
    · replace h := inegb h hc31
      refine W.skip ?_
      refine W.seq (W.seq (W.region ?_))
      refine WL.val (Value.agg #[v_r_Table]) _ (op_loadBox st_30 hf28 (BoxAt.lift hS30.ext hx6) rfl rfl) rfl ?_
      obtain ⟨x33, hx34, h⟩ := bs h
      refine WL.call _ (op_call fn_25 (args1 rfl)) (c_spec_l03Commutative (Ty.lift _ (Ext.trans hE7 hS30.ext) r_r_Table) hx34) rfl ?_
      rintro _ wd35 ⟨rfl, he36⟩
      have hS38 := St.extend hS30 he36
      replace hS38 : St wd2 wd35 [] := hS38
      refine WL.val (Value.bool (!x33)) _ (op_not rfl) rfl ?_
      refine WL.nil ?_
      refine W.cond (!x33) rfl (fun hc39 => ?_) (fun hc39 => ?_)
      · replace h := ip h hc39
        refine W.seq (W.region ?_)
        refine WL.val (Value.int .i64 (0 : Int)) _ (op_assign rfl) rfl ?_
        refine WL.val (Value.int .i64 (5 : Int)) _ (op_assign rfl) rfl ?_
        refine WL.nil ?_
        refine W.ret ?_
        obtain rfl := Option.some.inj h
        show FinP _ _ _ _ _ _ _
        exact FinP.ret _ (res2 rfl rfl rfl) ⟨rfl, (inL rfl), (inL rfl), (Ext.trans hE7 hS38.ext)⟩
      · replace h := inegb h hc39
        refine W.skip ?_
        refine W.seq (W.region ?_)
        refine WL.val (Value.int .i64 (1 : Int)) _ (op_assign rfl) rfl ?_
        refine WL.val (Value.int .i64 (1 : Int)) _ (op_assign rfl) rfl ?_
        refine WL.nil ?_
        refine W.seq (W.seq (W.region ?_))
        refine WL.val (Value.int .i64 (0 : Int)) _ (op_assign rfl) rfl ?_
        refine WL.nil ?_
        show W _ _ _ _ _ _
        obtain ⟨res41, hres42, h⟩ := bs h
        refine W.blockLoop (fun fq wq => ∃ s, res41 = Res.fin s ∧ fq 1 = v_graph ∧ fq 2 = (Value.pointer (some ⟨b1, 0, none⟩)) ∧ fq 6 = Value.int .i64 s ∧ InR .i64 s ∧ fq 7 = (Value.int .i64 (1 : Int)) ∧ St wd2 wq []) ?_ ?_
        · refine W.forN (fun k (s : Int) fq wq => fq 1 = v_graph ∧ fq 2 = (Value.pointer (some ⟨b1, 0, none⟩)) ∧ fq 6 = Value.int .i64 s ∧ InR .i64 s ∧ fq 7 = (Value.int .i64 (1 : Int)) ∧ fq 8 = Value.int .i64 (k : Int) ∧ InR .i64 (k : Int) ∧ St wd2 wq []) hres42 ⟨hf27, hf28, rfl, (inL rfl), rfl, rfl, (inL rfl), hS38⟩ ?_ ?_
          · intro k43 x44 ct45 f46 wd47 hk48 hb49 hI50 hbrk51 hret52
            replace hI50 : f46 1 = v_graph ∧ f46 2 = (Value.pointer (some ⟨b1, 0, none⟩)) ∧ f46 6 = Value.int .i64 x44 ∧ InR .i64 x44 ∧ f46 7 = (Value.int .i64 (1 : Int)) ∧ f46 8 = Value.int .i64 (k43 : Int) ∧ InR .i64 (k43 : Int) ∧ St wd2 wd47 [] := hI50
            replace hb49 : p_spec_GraphDimension_L1 r_Table k43 x44 = some ct45 := hb49
            unfold p_spec_GraphDimension_L1 at hb49
            obtain ⟨hf53, hf54, hf55, hr56, hf57, hf58, hr59, hS60⟩ := hI50
            refine W.seq (W.seq (W.region ?_))
            refine WL.val (Value.int .i64 (k43 : Int)) _ (op_move hf58) rfl ?_
            refine WL.val v_graph _ (op_move hf53) rfl ?_
            have hr61 := inR_len (Ty.lift _ (Ext.trans hE7 hS60.ext) r_graph)
            refine WL.val (Value.int .i64 ((graph).length : Int)) _ (op_lenL sl_25 (Ty.lift _ (Ext.trans hE7 hS60.ext) r_graph) rfl) rfl ?_
            refine WL.val (Value.int .i64 (w64 (((graph).length : Int) * (3 : Int)))) _ (op_mul rfl rfl) rfl ?_
            refine WL.val (Value.int .i64 (w64 (((w64 (((graph).length : Int) * (3 : Int)))).tdiv (2 : Int)))) _ (op_quo (b := 2) rfl rfl (by decide)) rfl ?_
            refine WL.val (Value.bool (decide ((k43 : Int) < (w64 (((w64 (((graph).length : Int) * (3 : Int)))).tdiv (2 : Int)))))) _ (op_lss rfl rfl) rfl ?_
            have hl62 : (k43 : Int) < (w64 (((w64 (((graph).length : Int) * (3 : Int)))).tdiv (2 : Int))) := by omega
            refine WL.nil ?_
            refine W.condT (decide ((k43 : Int) < (w64 (((w64 (((graph).length : Int) * (3 : Int)))).tdiv (2 : Int))))) rfl (decide_eq_true hl62) ?_
            refine W.skip ?_
            refine W.seq ?_
            refine W.block ?_
            refine W.seq (W.region ?_)
            refine WL.val (Value.int .i64 x44) _ (op_move hf55) rfl ?_
            refine WL.val (Value.pointer (some ⟨b1, 0, none⟩)) _ (op_fieldAddr fd_30_0 hf54) rfl ?_
            refine WL.val v_r_Table _ (op_load one_22 rfl (BoxAt.cell (BoxAt.lift hS60.ext hx6) rfl)) rfl ?_
            have hr64 := inR_len (Ty.lift _ (Ext.trans hE7 hS60.ext) r_r_Table)
            refine WL.val (Value.int .i64 ((r_Table).length : Int)) _ (op_lenL sl_22 (Ty.lift _ (Ext.trans hE7 hS60.ext) r_r_Table) rfl) rfl ?_
            refine WL.val (Value.int .i64 (w64 (x44 * ((r_Table).length : Int)))) _ (op_mul rfl rfl) rfl ?_
            refine WL.val (Value.int .i64 (w64 (x44 * ((r_Table).length : Int)))) _ (op_assign rfl) rfl ?_
            refine WL.nil ?_
            refine W.seq (W.region ?_)
            refine WL.val (Value.int .i64 (w64 (x44 * ((r_Table).length : Int)))) _ (op_move rfl) rfl ?_
            refine WL.val (Value.bool (decide ((w64 (x44 * ((r_Table).length : Int))) > (300000 : Int)))) _ (op_gtr rfl rfl) rfl ?_
            refine WL.nil ?_
            refine W.cond (decide ((w64 (x44 * ((r_Table).length : Int))) > (300000 : Int))) rfl (fun hc65 => ?_) (fun hc65 => ?_)
            · replace hb49 := ip hb49 hc65
              refine W.seq (W.region ?_)
              refine WL.val (Value.int .i64 (0 : Int)) _ (op_assign rfl) rfl ?_
              refine WL.val (Value.int .i64 (3 : Int)) _ (op_assign rfl) rfl ?_
              refine WL.nil ?_
              refine W.ret ?_
              obtain rfl := Option.some.inj hb49
              obtain rfl := hret52 _ rfl
              replace h := onRes_ret h
              obtain rfl := Option.some.inj h
              show FinP _ _ _ _ _ _ _
              exact FinP.ret _ (res2 rfl rfl rfl) ⟨rfl, (inL rfl), (inL rfl), (Ext.trans hE7 hS60.ext)⟩
            · replace hb49 := inegb hb49 hc65
              refine W.skip ?_
              show W _ _ _ _ _ _
              refine W.region ?_
              refine WL.val (Value.int .i64 (k43 : Int)) _ (op_move hf58) rfl ?_
              refine WL.val (Value.int .i64 (w64 ((k43 : Int) + (1 : Int)))) _ (op_add rfl rfl) rfl ?_
              refine WL.val (Value.int .i64 (w64 ((k43 : Int) + (1 : Int)))) _ (op_assign rfl) rfl ?_
              refine WL.nil ?_
              obtain rfl := Option.some.inj hb49
              show ∃ s, _ = Ctl.next s ∧ _
              exact ⟨_, rfl, hf53, hf54, rfl, (inR_wrap _ _), hf57, (ctr_next hl62 (inR_wrap _ _)), (ctr_rng hl62 (inR_wrap _ _)), hS60⟩
          · intro x73 f68 wd69 hs70 hI71
            replace hI71 : f68 1 = v_graph ∧ f68 2 = (Value.pointer (some ⟨b1, 0, none⟩)) ∧ f68 6 = Value.int .i64 x73 ∧ InR .i64 x73 ∧ f68 7 = (Value.int .i64 (1 : Int)) ∧ f68 8 = Value.int .i64 ((((w64 (((w64 (((graph).length : Int) * (3 : Int)))).tdiv (2 : Int)))).toNat : Nat) : Int) ∧ InR .i64 ((((w64 (((w64 (((graph).length : Int) * (3 : Int)))).tdiv (2 : Int)))).toNat : Nat) : Int) ∧ St wd2 wd69 [] := hI71
            obtain ⟨hf74, hf75, hf76, hr77, hf78, hf79, hr80, hS81⟩ := hI71
            refine W.seq (W.seq (W.region ?_))
            refine WL.val (Value.int .i64 ((((w64 (((w64 (((graph).length : Int) * (3 : Int)))).tdiv (2 : Int)))).toNat : Nat) : Int)) _ (op_move hf79) rfl ?_
            refine WL.val v_graph _ (op_move hf74) rfl ?_
            have hr82 := inR_len (Ty.lift _ (Ext.trans hE7 hS81.ext) r_graph)
            refine WL.val (Value.int .i64 ((graph).length : Int)) _ (op_lenL sl_25 (Ty.lift _ (Ext.trans hE7 hS81.ext) r_graph) rfl) rfl ?_
            refine WL.val (Value.int .i64 (w64 (((graph).length : Int) * (3 : Int)))) _ (op_mul rfl rfl) rfl ?_
            refine WL.val (Value.int .i64 (w64 (((w64 (((graph).length : Int) * (3 : Int)))).tdiv (2 : Int)))) _ (op_quo (b := 2) rfl rfl (by decide)) rfl ?_
            refine WL.val (Value.bool (decide (((((w64 (((w64 (((graph).length : Int) * (3 : Int)))).tdiv (2 : Int)))).toNat : Nat) : Int) < (w64 (((w64 (((graph).length : Int) * (3 : Int)))).tdiv (2 : Int)))))) _ (op_lss rfl rfl) rfl ?_
            have hl83 : ¬ ((((w64 (((w64 (((graph).length : Int) * (3 : Int)))).tdiv (2 : Int)))).toNat : Nat) : Int) < (w64 (((w64 (((graph).length : Int) * (3 : Int)))).tdiv (2 : Int))) := by omega
            refine WL.nil ?_
            refine W.condF (decide (((((w64 (((w64 (((graph).length : Int) * (3 : Int)))).tdiv (2 : Int)))).toNat : Nat) : Int) < (w64 (((w64 (((graph).length : Int) * (3 : Int)))).tdiv (2 : Int))))) rfl (decide_eq_false hl83) ?_
            refine W.exit ?_
            show _ = _ ∧ _
            exact ⟨rfl, _, hs70, hf74, hf75, hf76, hr77, hf78, hS81⟩
        · rintro f84 wd85 ⟨x88, rfl, hq86⟩
          replace h := onRes_fin h
          replace hq86 : f84 1 = v_graph ∧ f84 2 = (Value.pointer (some ⟨b1, 0, none⟩)) ∧ f84 6 = Value.int .i64 x88 ∧ InR .i64 x88 ∧ f84 7 = (Value.int .i64 (1 : Int)) ∧ St wd2 wd85 [] := hq86
          obtain ⟨hf89, hf90, hf91, hr92, hf93, hS94⟩ := hq86
          refine W.seq (W.seq (W.region ?_))
          refine WL.val (Value.int .i64 (0 : Int)) _ (op_assign rfl) rfl ?_
          refine WL.nil ?_
          show W _ _ _ _ _ _
          obtain ⟨res95, hres96, h⟩ := bs h
          refine W.blockLoop (fun fq wq => ∃ s, res95 = Res.fin s ∧ fq 1 = v_graph ∧ fq 2 = (Value.pointer (some ⟨b1, 0, none⟩)) ∧ fq 6 = (Value.int .i64 x88) ∧ fq 7 = Value.int .i64 s ∧ InR .i64 s ∧ St wd2 wq []) ?_ ?_
          · refine W.forN (fun k (s : Int) fq wq => fq 1 = v_graph ∧ fq 2 = (Value.pointer (some ⟨b1, 0, none⟩)) ∧ fq 6 = (Value.int .i64 x88) ∧ fq 7 = Value.int .i64 s ∧ InR .i64 s ∧ fq 9 = Value.int .i64 (k : Int) ∧ InR .i64 (k : Int) ∧ St wd2 wq []) hres96 ⟨hf89, hf90, hf91, hf93, (inL rfl), rfl, (inL rfl), hS94⟩ ?_ ?_
            · intro k97 x98 ct99 f100 wd101 hk102 hb103 hI104 hbrk105 hret106
              replace hI104 : f100 1 = v_graph ∧ f100 2 = (Value.pointer (some ⟨b1, 0, none⟩)) ∧ f100 6 = (Value.int .i64 x88) ∧ f100 7 = Value.int .i64 x98 ∧ InR .i64 x98 ∧ f100 9 = Value.int .i64 (k97 : Int) ∧ InR .i64 (k97 : Int) ∧ St wd2 wd101 [] := hI104
              replace hb103 : p_spec_GraphDimension_L2 r_Table k97 x98 = some ct99 := hb103
              unfold p_spec_GraphDimension_L2 at hb103
              obtain ⟨hf107, hf108, hf109, hf110, hr111, hf112, hr113, hS114⟩ := hI104
              refine W.seq (W.seq (W.region ?_))
              refine WL.val (Value.int .i64 (k97 : Int)) _ (op_move hf112) rfl ?_
              refine WL.val (Value.pointer (some ⟨b1, 0, none⟩)) _ (op_fieldAddr fd_30_0 hf108) rfl ?_
              refine WL.val v_r_Table _ (op_load one_22 rfl (BoxAt.cell (BoxAt.lift hS114.ext hx6) rfl)) rfl ?_
              have hr115 := inR_len (Ty.lift _ (Ext.trans hE7 hS114.ext) r_r_Table)
              refine WL.val (Value.int .i64 ((r_Table).length : Int)) _ (op_lenL sl_22 (Ty.lift _ (Ext.trans hE7 hS114.ext) r_r_Table) rfl) rfl ?_
              refine WL.val (Value.bool (decide ((k97 : Int) < ((r_Table).length : Int)))) _ (op_lss rfl rfl) rfl ?_
              have hl116 : (k97 : Int) < ((r_Table).length : Int) := by omega
              refine WL.nil ?_
              refine W.condT (decide ((k97 : Int) < ((r_Table).length : Int))) rfl (decide_eq_true hl116) ?_
              refine W.skip ?_
              refine W.seq ?_
              refine W.block ?_
              refine W.seq (W.region ?_)
              refine WL.val (Value.int .i64 (0 : Int)) _ (op_assign rfl) rfl ?_
              refine WL.nil ?_
              show W _ _ _ _ _ _
              obtain ⟨res118, hres119, hb103⟩ := bs hb103
              refine W.blockLoop (fun fq wq => ∃ s, res118 = Res.fin s ∧ fq 1 = v_graph ∧ fq 2 = (Value.pointer (some ⟨b1, 0, none⟩)) ∧ fq 6 = (Value.int .i64 x88) ∧ fq 7 = Value.int .i64 s ∧ InR .i64 s ∧ fq 9 = (Value.int .i64 (k97 : Int)) ∧ St wd2 wq []) ?_ ?_
              · refine W.forN (fun k (s : Int) fq wq => fq 1 = v_graph ∧ fq 2 = (Value.pointer (some ⟨b1, 0, none⟩)) ∧ fq 6 = (Value.int .i64 x88) ∧ fq 7 = Value.int .i64 s ∧ InR .i64 s ∧ fq 9 = (Value.int .i64 (k97 : Int)) ∧ fq 10 = Value.int .i64 (k : Int) ∧ InR .i64 (k : Int) ∧ St wd2 wq []) hres119 ⟨hf107, hf108, hf109, hf110, hr111, hf112, rfl, (inL rfl), hS114⟩ ?_ ?_
                · intro k120 x121 ct122 f123 wd124 hk125 hb126 hI127 hbrk128 hret129
                  replace hI127 : f123 1 = v_graph ∧ f123 2 = (Value.pointer (some ⟨b1, 0, none⟩)) ∧ f123 6 = (Value.int .i64 x88) ∧ f123 7 = Value.int .i64 x121 ∧ InR .i64 x121 ∧ f123 9 = (Value.int .i64 (k97 : Int)) ∧ f123 10 = Value.int .i64 (k120 : Int) ∧ InR .i64 (k120 : Int) ∧ St wd2 wd124 [] := hI127
                  replace hb126 : p_spec_GraphDimension_L3 r_Table k97 k120 x121 = some ct122 := hb126
                  unfold p_spec_GraphDimension_L3 at hb126
                  obtain ⟨hf130, hf131, hf132, hf133, hr134, hf135, hf136, hr137, hS138⟩ := hI127
                  refine W.seq (W.seq (W.region ?_))
                  refine WL.val (Value.int .i64 (k120 : Int)) _ (op_move hf136) rfl ?_
                  refine WL.val (Value.pointer (some ⟨b1, 0, none⟩)) _ (op_fieldAddr fd_30_0 hf131) rfl ?_
                  refine WL.val v_r_Table _ (op_load one_22 rfl (BoxAt.cell (BoxAt.lift hS138.ext hx6) rfl)) rfl ?_
                  have hr139 := inR_len (Ty.lift _ (Ext.trans hE7 hS138.ext) r_r_Table)
                  refine WL.val (Value.int .i64 ((r_Table).length : Int)) _ (op_lenL sl_22 (Ty.lift _ (Ext.trans hE7 hS138.ext) r_r_Table) rfl) rfl ?_
                  refine WL.val (Value.bool (decide ((k120 : Int) < ((r_Table).length : Int)))) _ (op_lss rfl rfl) rfl ?_
                  have hl140 : (k120 : Int) < ((r_Table).length : Int) := by omega
                  refine WL.nil ?_
                  refine W.condT (decide ((k120 : Int) < ((r_Table).length : Int))) rfl (decide_eq_true hl140) ?_
                  refine W.skip ?_
                  refine W.seq ?_
                  refine W.block ?_
                  refine W.seq (W.region ?_)
                  refine WL.val (Value.int .i64 (0 : Int)) _ (op_assign rfl) rfl ?_
                  refine WL.nil ?_
                  show W _ _ _ _ _ _
                  obtain ⟨res142, hres143, hb126⟩ := bs hb126
                  refine W.blockLoop (fun fq wq => ∃ s, res142 = Res.fin s ∧ fq 1 = v_graph ∧ fq 2 = (Value.pointer (some ⟨b1, 0, none⟩)) ∧ fq 6 = (Value.int .i64 x88) ∧ fq 7 = Value.int .i64 s ∧ InR .i64 s ∧ fq 9 = (Value.int .i64 (k97 : Int)) ∧ fq 10 = (Value.int .i64 (k120 : Int)) ∧ St wd2 wq []) ?_ ?_
                  · refine W.forN (fun k (s : Int) fq wq => fq 1 = v_graph ∧ fq 2 = (Value.pointer (some ⟨b1, 0, none⟩)) ∧ fq 6 = (Value.int .i64 x88) ∧ fq 7 = Value.int .i64 s ∧ InR .i64 s ∧ fq 9 = (Value.int .i64 (k97 : Int)) ∧ fq 10 = (Value.int .i64 (k120 : Int)) ∧ fq 11 = Value.int .i64 (k : Int) ∧ InR .i64 (k : Int) ∧ St wd2 wq []) hres143 ⟨hf130, hf131, hf132, hf133, hr134, hf135, hf136, rfl, (inL rfl), hS138⟩ ?_ ?_
                    · intro k144 x145 ct146 f147 wd148 hk149 hb150 hI151 hbrk152 hret153
                      replace hI151 : f147 1 = v_graph ∧ f147 2 = (Value.pointer (some ⟨b1, 0, none⟩)) ∧ f147 6 = (Value.int .i64 x88) ∧ f147 7 = Value.int .i64 x145 ∧ InR .i64 x145 ∧ f147 9 = (Value.int .i64 (k97 : Int)) ∧ f147 10 = (Value.int .i64 (k120 : Int)) ∧ f147 11 = Value.int .i64 (k144 : Int) ∧ InR .i64 (k144 : Int) ∧ St wd2 wd148 [] := hI151
                      replace hb150 : p_spec_GraphDimension_L4 r_Table k97 k120 k144 x145 = some ct146 := hb150
                      unfold p_spec_GraphDimension_L4 at hb150
                      obtain ⟨hf154, hf155, hf156, hf157, hr158, hf159, hf160, hf161, hr162, hS163⟩ := hI151
                      refine W.seq (W.seq (W.region ?_))
                      refine WL.val (Value.int .i64 (k144 : Int)) _ (op_move hf161) rfl ?_
                      refine WL.val (Value.pointer (some ⟨b1, 0, none⟩)) _ (op_fieldAddr fd_30_0 hf155) rfl ?_
                      refine WL.val v_r_Table _ (op_load one_22 rfl (BoxAt.cell (BoxAt.lift hS163.ext hx6) rfl)) rfl ?_
                      have hr164 := inR_len (Ty.lift _ (Ext.trans hE7 hS163.ext) r_r_Table)
                      refine WL.val (Value.int .i64 ((r_Table).length : Int)) _ (op_lenL sl_22 (Ty.lift _ (Ext.trans hE7 hS163.ext) r_r_Table) rfl) rfl ?_
                      refine WL.val (Value.bool (decide ((k144 : Int) < ((r_Table).length : Int)))) _ (op_lss rfl rfl) rfl ?_
                      have hl165 : (k144 : Int) < ((r_Table).length : Int) := by omega
                      refine WL.nil ?_
                      refine W.condT (decide ((k144 : Int) < ((r_Table).length : Int))) rfl (decide_eq_true hl165) ?_
                      refine W.skip ?_
                      refine W.seq ?_
                      refine W.block ?_
                      refine W.region ?_
                      refine WL.val (Value.int .i64 x145) _ (op_move hf157) rfl ?_
                      refine WL.val (Value.pointer (some ⟨b1, 0, none⟩)) _ (op_fieldAddr fd_30_0 hf155) rfl ?_
                      refine WL.val v_r_Table _ (op_load one_22 rfl (BoxAt.cell (BoxAt.lift hS163.ext hx6) rfl)) rfl ?_
                      refine WL.val (Value.int .i64 (k97 : Int)) _ (op_move hf159) rfl ?_
                      obtain ⟨x167, hx170, hb150⟩ := bs hb150
                      obtain ⟨ha168, hb169, hx170⟩ := idx_some hx170
                      refine WL.val (Value.pointer (some (elA v_r_Table ((k97 : Int)).toNat))) _ (op_idx sl_22 (Ty.lift _ (Ext.trans hE7 hS163.ext) r_r_Table) rfl rfl ha168 hb169) rfl ?_
                      obtain ⟨u171, hc172, hr173⟩ := repSl.el r_r_Table hx170
                      refine WL.val u171 _ (op_load one_25 rfl (Ext.cell (Ext.trans hE7 hS163.ext) hc172)) rfl ?_
                      refine WL.val (Value.int .i64 (k120 : Int)) _ (op_move hf160) rfl ?_
                      obtain ⟨x174, hx177, hb150⟩ := bs hb150
                      obtain ⟨ha175, hb176, hx177⟩ := idx_some hx177
                      refine WL.val (Value.pointer (some (elA u171 ((k120 : Int)).toNat))) _ (op_idx sl_25 (Ty.lift _ (Ext.trans hE7 hS163.ext) hr173) rfl rfl ha175 hb176) rfl ?_
                      obtain ⟨u178, hc179, hr180⟩ := repSl.el hr173 hx177
                      refine WL.val u178 _ (op_load one_36 rfl (Ext.cell (Ext.trans hE7 hS163.ext) hc179)) rfl ?_
                      refine WL.val (Value.int .i64 (k144 : Int)) _ (op_move hf161) rfl ?_
                      obtain ⟨x181, hx184, hb150⟩ := bs hb150
                      obtain ⟨ha182, hb183, hx184⟩ := idx_some hx184
                      refine WL.val (Value.pointer (some (elA u178 ((k144 : Int)).toNat))) _ (op_idx sl_36 (Ty.lift _ (Ext.trans hE7 hS163.ext) hr180) rfl rfl ha182 hb183) rfl ?_
                      obtain ⟨u185, hc186, hr187⟩ := repSl.el hr180 hx184
                      obtain ⟨rfl, hr187⟩ := hr187
                      refine WL.val (Value.int .i64 x181) _ (op_load one_2 rfl (Ext.cell (Ext.trans hE7 hS163.ext) hc186)) rfl ?_
                      refine WL.val (Value.int .i64 (if x181 > x145 then x181 else x145)) _ (op_max2 rfl rfl) rfl ?_
                      refine WL.val (Value.int .i64 (if x181 > x145 then x181 else x145)) _ (op_assign rfl) rfl ?_
                      refine WL.nil ?_
                      show W _ _ _ _ _ _
                      refine W.region ?_
                      refine WL.val (Value.int .i64 (k144 : Int)) _ (op_move hf161) rfl ?_
                      refine WL.val (Value.int .i64 (w64 ((k144 : Int) + (1 : Int)))) _ (op_add rfl rfl) rfl ?_
                      refine WL.val (Value.int .i64 (w64 ((k144 : Int) + (1 : Int)))) _ (op_assign rfl) rfl ?_
                      refine WL.nil ?_
                      obtain rfl := Option.some.inj hb150
                      show ∃ s, _ = Ctl.next s ∧ _
                      exact ⟨_, rfl, hf154, hf155, hf156, rfl, (inR_ite hr187 hr158), hf159, hf160, (ctr_next hl165 hr164), (ctr_rng hl165 hr164), hS163⟩
                    · intro x194 f189 wd190 hs191 hI192
                      replace hI192 : f189 1 = v_graph ∧ f189 2 = (Value.pointer (some ⟨b1, 0, none⟩)) ∧ f189 6 = (Value.int .i64 x88) ∧ f189 7 = Value.int .i64 x194 ∧ InR .i64 x194 ∧ f189 9 = (Value.int .i64 (k97 : Int)) ∧ f189 10 = (Value.int .i64 (k120 : Int)) ∧ f189 11 = Value.int .i64 (((r_Table).length : Nat) : Int) ∧ InR .i64 (((r_Table).length : Nat) : Int) ∧ St wd2 wd190 [] := hI192
                      obtain ⟨hf195, hf196, hf197, hf198, hr199, hf200, hf201, hf202, hr203, hS204⟩ := hI192
                      refine W.seq (W.seq (W.region ?_))
                      refine WL.val (Value.int .i64 (((r_Table).length : Nat) : Int)) _ (op_move hf202) rfl ?_
                      refine WL.val (Value.pointer (some ⟨b1, 0, none⟩)) _ (op_fieldAddr fd_30_0 hf196) rfl ?_
                      refine WL.val v_r_Table _ (op_load one_22 rfl (BoxAt.cell (BoxAt.lift hS204.ext hx6) rfl)) rfl ?_
                      have hr205 := inR_len (Ty.lift _ (Ext.trans hE7 hS204.ext) r_r_Table)
                      refine WL.val (Value.int .i64 ((r_Table).length : Int)) _ (op_lenL sl_22 (Ty.lift _ (Ext.trans hE7 hS204.ext) r_r_Table) rfl) rfl ?_
                      refine WL.val (Value.bool (decide ((((r_Table).length : Nat) : Int) < ((r_Table).length : Int)))) _ (op_lss rfl rfl) rfl ?_
                      have hl206 : ¬ (((r_Table).length : Nat) : Int) < ((r_Table).length : Int) := by omega
                      refine WL.nil ?_
                      refine W.condF (decide ((((r_Table).length : Nat) : Int) < ((r_Table).length : Int))) rfl (decide_eq_false hl206) ?_
                      refine W.exit ?_
                      show _ = _ ∧ _
                      exact ⟨rfl, _, hs191, hf195, hf196, hf197, hf198, hr199, hf200, hf201, hS204⟩
                  · rintro f207 wd208 ⟨x211, rfl, hq209⟩
                    replace hb126 := onRes_fin hb126
                    replace hq209 : f207 1 = v_graph ∧ f207 2 = (Value.pointer (some ⟨b1, 0, none⟩)) ∧ f207 6 = (Value.int .i64 x88) ∧ f207 7 = Value.int .i64 x211 ∧ InR .i64 x211 ∧ f207 9 = (Value.int .i64 (k97 : Int)) ∧ f207 10 = (Value.int .i64 (k120 : Int)) ∧ St wd2 wd208 [] := hq209
                    obtain ⟨hf212, hf213, hf214, hf215, hr216, hf217, hf218, hS219⟩ := hq209
                    show W _ _ _ _ _ _
                    refine W.region ?_
                    refine WL.val (Value.int .i64 (k120 : Int)) _ (op_move hf218) rfl ?_
                    refine WL.val (Value.int .i64 (w64 ((k120 : Int) + (1 : Int)))) _ (op_add rfl rfl) rfl ?_
                    refine WL.val (Value.int .i64 (w64 ((k120 : Int) + (1 : Int)))) _ (op_assign rfl) rfl ?_
                    refine WL.nil ?_
                    obtain rfl := Option.some.inj hb126
                    show ∃ s, _ = Ctl.next s ∧ _
                    exact ⟨_, rfl, hf212, hf213, hf214, hf215, hr216, hf217, (ctr_next hl140 hr139), (ctr_rng hl140 hr139), hS219⟩
                · intro x227 f222 wd223 hs224 hI225
                  replace hI225 : f222 1 = v_graph ∧ f222 2 = (Value.pointer (some ⟨b1, 0, none⟩)) ∧ f222 6 = (Value.int .i64 x88) ∧ f222 7 = Value.int .i64 x227 ∧ InR .i64 x227 ∧ f222 9 = (Value.int .i64 (k97 : Int)) ∧ f222 10 = Value.int .i64 (((r_Table).length : Nat) : Int) ∧ InR .i64 (((r_Table).length : Nat) : Int) ∧ St wd2 wd223 [] := hI225
                  obtain ⟨hf228, hf229, hf230, hf231, hr232, hf233, hf234, hr235, hS236⟩ := hI225
                  refine W.seq (W.seq (W.region ?_))
                  refine WL.val (Value.int .i64 (((r_Table).length : Nat) : Int)) _ (op_move hf234) rfl ?_
                  refine WL.val (Value.pointer (some ⟨b1, 0, none⟩)) _ (op_fieldAddr fd_30_0 hf229) rfl ?_
                  refine WL.val v_r_Table _ (op_load one_22 rfl (BoxAt.cell (BoxAt.lift hS236.ext hx6) rfl)) rfl ?_
                  have hr237 := inR_len (Ty.lift _ (Ext.trans hE7 hS236.ext) r_r_Table)
                  refine WL.val (Value.int .i64 ((r_Table).length : Int)) _ (op_lenL sl_22 (Ty.lift _ (Ext.trans hE7 hS236.ext) r_r_Table) rfl) rfl ?_
                  refine WL.val (Value.bool (decide ((((r_Table).length : Nat) : Int) < ((r_Table).length : Int)))) _ (op_lss rfl rfl) rfl ?_
                  have hl238 : ¬ (((r_Table).length : Nat) : Int) < ((r_Table).length : Int) := by omega
                  refine WL.nil ?_
                  refine W.condF (decide ((((r_Table).length : Nat) : Int) < ((r_Table).length : Int))) rfl (decide_eq_false hl238) ?_
                  refine W.exit ?_
                  show _ = _ ∧ _
                  exact ⟨rfl, _, hs224, hf228, hf229, hf230, hf231, hr232, hf233, hS236⟩
              · rintro f239 wd240 ⟨x243, rfl, hq241⟩
                replace hb103 := onRes_fin hb103
                replace hq241 : f239 1 = v_graph ∧ f239 2 = (Value.pointer (some ⟨b1, 0, none⟩)) ∧ f239 6 = (Value.int .i64 x88) ∧ f239 7 = Value.int .i64 x243 ∧ InR .i64 x243 ∧ f239 9 = (Value.int .i64 (k97 : Int)) ∧ St wd2 wd240 [] := hq241
                obtain ⟨hf244, hf245, hf246, hf247, hr248, hf249, hS250⟩ := hq241
                show W _ _ _ _ _ _
                refine W.region ?_
                refine WL.val (Value.int .i64 (k97 : Int)) _ (op_move hf249) rfl ?_
                refine WL.val (Value.int .i64 (w64 ((k97 : Int) + (1 : Int)))) _ (op_add rfl rfl) rfl ?_
                refine WL.val (Value.int .i64 (w64 ((k97 : Int) + (1 : Int)))) _ (op_assign rfl) rfl ?_
                refine WL.nil ?_
                obtain rfl := Option.some.inj hb103
                show ∃ s, _ = Ctl.next s ∧ _
                exact ⟨_, rfl, hf244, hf245, hf246, hf247, hr248, (ctr_next hl116 hr115), (ctr_rng hl116 hr115), hS250⟩
            · intro x258 f253 wd254 hs255 hI256
              replace hI256 : f253 1 = v_graph ∧ f253 2 = (Value.pointer (some ⟨b1, 0, none⟩)) ∧ f253 6 = (Value.int .i64 x88) ∧ f253 7 = Value.int .i64 x258 ∧ InR .i64 x258 ∧ f253 9 = Value.int .i64 (((r_Table).length : Nat) : Int) ∧ InR .i64 (((r_Table).length : Nat) : Int) ∧ St wd2 wd254 [] := hI256
              obtain ⟨hf259, hf260, hf261, hf262, hr263, hf264, hr265, hS266⟩ := hI256
              refine W.seq (W.seq (W.region ?_))
              refine WL.val (Value.int .i64 (((r_Table).length : Nat) : Int)) _ (op_move hf264) rfl ?_
              refine WL.val (Value.pointer (some ⟨b1, 0, none⟩)) _ (op_fieldAddr fd_30_0 hf260) rfl ?_
              refine WL.val v_r_Table _ (op_load one_22 rfl (BoxAt.cell (BoxAt.lift hS266.ext hx6) rfl)) rfl ?_
              have hr267 := inR_len (Ty.lift _ (Ext.trans hE7 hS266.ext) r_r_Table)
              refine WL.val (Value.int .i64 ((r_Table).length : Int)) _ (op_lenL sl_22 (Ty.lift _ (Ext.trans hE7 hS266.ext) r_r_Table) rfl) rfl ?_
              refine WL.val (Value.bool (decide ((((r_Table).length : Nat) : Int) < ((r_Table).length : Int)))) _ (op_lss rfl rfl) rfl ?_
              have hl268 : ¬ (((r_Table).length : Nat) : Int) < ((r_Table).length : Int) := by omega
              refine WL.nil ?_
              refine W.condF (decide ((((r_Table).length : Nat) : Int) < ((r_Table).length : Int))) rfl (decide_eq_false hl268) ?_
              refine W.exit ?_
              show _ = _ ∧ _
              exact ⟨rfl, _, hs255, hf259, hf260, hf261, hf262, hr263, hS266⟩
          · rintro f269 wd270 ⟨x273, rfl, hq271⟩
            replace h := onRes_fin h
            replace hq271 : f269 1 = v_graph ∧ f269 2 = (Value.pointer (some ⟨b1, 0, none⟩)) ∧ f269 6 = (Value.int .i64 x88) ∧ f269 7 = Value.int .i64 x273 ∧ InR .i64 x273 ∧ St wd2 wd270 [] := hq271
            obtain ⟨hf274, hf275, hf276, hf277, hr278, hS279⟩ := hq271
            refine W.seq (W.seq (W.region ?_))
            refine WL.val (Value.int .i64 (0 : Int)) _ (op_assign rfl) rfl ?_
            refine WL.nil ?_
            show W _ _ _ _ _ _
            obtain ⟨res280, hres281, h⟩ := bs h
            refine W.blockLoop (fun fq wq => ∃ s, res280 = Res.fin s ∧ fq 1 = v_graph ∧ fq 2 = (Value.pointer (some ⟨b1, 0, none⟩)) ∧ St wd2 wq []) ?_ ?_
            · refine W.forN (fun k (s : Int) fq wq => fq 1 = v_graph ∧ fq 2 = (Value.pointer (some ⟨b1, 0, none⟩)) ∧ fq 6 = Value.int .i64 s ∧ InR .i64 s ∧ fq 7 = (Value.int .i64 x273) ∧ fq 12 = Value.int .i64 (k : Int) ∧ InR .i64 (k : Int) ∧ St wd2 wq []) hres281 ⟨hf274, hf275, hf276, hr92, hf277, rfl, (inL rfl), hS279⟩ ?_ ?_
              · intro k282 x283 ct284 f285 wd286 hk287 hb288 hI289 hbrk290 hret291
                replace hI289 : f285 1 = v_graph ∧ f285 2 = (Value.pointer (some ⟨b1, 0, none⟩)) ∧ f285 6 = Value.int .i64 x283 ∧ InR .i64 x283 ∧ f285 7 = (Value.int .i64 x273) ∧ f285 12 = Value.int .i64 (k282 : Int) ∧ InR .i64 (k282 : Int) ∧ St wd2 wd286 [] := hI289
                replace hb288 : p_spec_GraphDimension_L5 x273 k282 x283 = some ct284 := hb288
                unfold p_spec_GraphDimension_L5 at hb288
                obtain ⟨hf292, hf293, hf294, hr295, hf296, hf297, hr298, hS299⟩ := hI289
                refine W.seq (W.seq (W.region ?_))
                refine WL.val (Value.int .i64 (k282 : Int)) _ (op_move hf297) rfl ?_
                refine WL.val v_graph _ (op_move hf292) rfl ?_
                have hr300 := inR_len (Ty.lift _ (Ext.trans hE7 hS299.ext) r_graph)
                refine WL.val (Value.int .i64 ((graph).length : Int)) _ (op_lenL sl_25 (Ty.lift _ (Ext.trans hE7 hS299.ext) r_graph) rfl) rfl ?_
                refine WL.val (Value.bool (decide ((k282 : Int) < ((graph).length : Int)))) _ (op_lss rfl rfl) rfl ?_
                have hl301 : (k282 : Int) < ((graph).length : Int) := by omega
                refine WL.nil ?_
                refine W.condT (decide ((k282 : Int) < ((graph).length : Int))) rfl (decide_eq_true hl301) ?_
                refine W.skip ?_
                refine W.seq ?_
                refine W.block ?_
                refine W.seq (W.seq (W.region ?_))
                refine WL.val (Value.int .i64 x283) _ (op_move hf294) rfl ?_
                refine WL.val (Value.int .i64 x273) _ (op_move hf296) rfl ?_
                obtain ⟨x303, hz304, hb288⟩ := bs hb288
                obtain ⟨h0305, hz304⟩ := quoI_some hz304
                have hr306 : InR .i64 x303 := by rw [hz304]; exact inR_wrap _ _
                refine WL.val (Value.int .i64 x303) _ (by rw [hz304]; exact op_quo rfl rfl h0305) rfl ?_
                refine WL.val (Value.bool (decide (x283 > x303))) _ (op_gtr rfl rfl) rfl ?_
                refine WL.nil ?_
                refine W.cond (decide (x283 > x303)) rfl (fun hc307 => ?_) (fun hc307 => ?_)
                · replace hb288 := ip hb288 hc307
                  refine W.seq (W.region ?_)
                  refine WL.val (Value.int .i64 (0 : Int)) _ (op_assign rfl) rfl ?_
                  refine WL.val (Value.int .i64 (3 : Int)) _ (op_assign rfl) rfl ?_
                  refine WL.nil ?_
                  refine W.ret ?_
                  obtain rfl := Option.some.inj hb288
                  obtain rfl := hret291 _ rfl
                  replace h := onRes_ret h
                  obtain rfl := Option.some.inj h
                  show FinP _ _ _ _ _ _ _
                  exact FinP.ret _ (res2 rfl rfl rfl) ⟨rfl, (inL rfl), (inL rfl), (Ext.trans hE7 hS299.ext)⟩
                · replace hb288 := inegb hb288 hc307
                  refine W.skip ?_
                  show W _ _ _ _ _ _
                  refine W.region ?_
                  refine WL.val (Value.int .i64 x283) _ (op_move hf294) rfl ?_
                  refine WL.val (Value.int .i64 x273) _ (op_move hf296) rfl ?_
                  refine WL.val (Value.int .i64 (w64 (x283 * x273))) _ (op_mul rfl rfl) rfl ?_
                  refine WL.val (Value.int .i64 (w64 (x283 * x273))) _ (op_assign rfl) rfl ?_
                  refine WL.nil ?_
                  show W _ _ _ _ _ _
                  refine W.region ?_
                  refine WL.val (Value.int .i64 (k282 : Int)) _ (op_move hf297) rfl ?_
                  refine WL.val (Value.int .i64 (w64 ((k282 : Int) + (1 : Int)))) _ (op_add rfl rfl) rfl ?_
                  refine WL.val (Value.int .i64 (w64 ((k282 : Int) + (1 : Int)))) _ (op_assign rfl) rfl ?_
                  refine WL.nil ?_
                  obtain rfl := Option.some.inj hb288
                  show ∃ s, _ = Ctl.next s ∧ _
                  exact ⟨_, rfl, hf292, hf293, rfl, (inR_wrap _ _), hf296, (ctr_next hl301 hr300), (ctr_rng hl301 hr300), hS299⟩
              · intro x315 f310 wd311 hs312 hI313
                replace hI313 : f310 1 = v_graph ∧ f310 2 = (Value.pointer (some ⟨b1, 0, none⟩)) ∧ f310 6 = Value.int .i64 x315 ∧ InR .i64 x315 ∧ f310 7 = (Value.int .i64 x273) ∧ f310 12 = Value.int .i64 (((graph).length : Nat) : Int) ∧ InR .i64 (((graph).length : Nat) : Int) ∧ St wd2 wd311 [] := hI313
                obtain ⟨hf316, hf317, hf318, hr319, hf320, hf321, hr322, hS323⟩ := hI313
                refine W.seq (W.seq (W.region ?_))
                refine WL.val (Value.int .i64 (((graph).length : Nat) : Int)) _ (op_move hf321) rfl ?_
                refine WL.val v_graph _ (op_move hf316) rfl ?_
                have hr324 := inR_len (Ty.lift _ (Ext.trans hE7 hS323.ext) r_graph)
                refine WL.val (Value.int .i64 ((graph).length : Int)) _ (op_lenL sl_25 (Ty.lift _ (Ext.trans hE7 hS323.ext) r_graph) rfl) rfl ?_
                refine WL.val (Value.bool (decide ((((graph).length : Nat) : Int) < ((graph).length : Int)))) _ (op_lss rfl rfl) rfl ?_
                have hl325 : ¬ (((graph).length : Nat) : Int) < ((graph).length : Int) := by omega
                refine WL.nil ?_
                refine W.condF (decide ((((graph).length : Nat) : Int) < ((graph).length : Int))) rfl (decide_eq_false hl325) ?_
                refine W.exit ?_
                show _ = _ ∧ _
                exact ⟨rfl, _, hs312, hf316, hf317, hS323⟩
            · rintro f326 wd327 ⟨x330, rfl, hq328⟩
              replace h := onRes_fin h
              replace hq328 : f326 1 = v_graph ∧ f326 2 = (Value.pointer (some ⟨b1, 0, none⟩)) ∧ St wd2 wd327 [] := hq328
              obtain ⟨hf331, hf332, hS333⟩ := hq328
              refine W.seq ?_
              obtain ⟨x358, hx359, h⟩ := bs h
              refine W.drawR mixo 5 [] [fun _ v S w' => v = (Value.agg #[v_r_Table]), fun _ v S w' => v = (Value.agg #[v_r_Table]), fun _ v S w' => SepS S w' [(Ty.sl (Ty.i .i64)).at v x358], fun _ v _ _ => v = v_graph, fun _ v S w' => SepS S w' [(Ty.sl (Ty.i .i64)).at v ([] : (List Int))]] (by kernel_rfl) (by kernel_rfl) ⟨pk, pk, ⟨fun _ _ _ _ _ he h => SepS.extend he h, fun _ _ _ _ _ _ h => h⟩, pk, ⟨fun _ _ _ _ _ he h => SepS.extend he h, fun _ _ _ _ _ _ h => h⟩, trivial⟩ ⟨?_, ?_, ?_, ?_, ?_, trivial⟩ ?_
              · refine ObX.op rfl fun f334 wd335 he336 hout337 hphi338 => ?_
                have hS339 := St.extend hS333 he336
                have e340 : f334 2 = (Value.pointer (some ⟨b1, 0, none⟩)) := (hout337 2 rfl).trans hf332
                exact OpX.val (Value.agg #[v_r_Table]) wd335 rfl (op_loadBox st_30 e340 (BoxAt.lift hS339.ext hx6) rfl rfl) (Ext.refl _) rfl
              · refine ObX.op rfl fun f341 wd342 he343 hout344 hphi345 => ?_
                have hS346 := St.extend hS333 he343
                have e347 : f341 2 = (Value.pointer (some ⟨b1, 0, none⟩)) := (hout344 2 rfl).trans hf332
                exact OpX.val (Value.agg #[v_r_Table]) wd342 rfl (op_loadBox st_30 e347 (BoxAt.lift hS346.ext hx6) rfl rfl) (Ext.refl _) rfl
              · refine ObX.op rfl fun f348 wd349 he350 hout351 hphi352 => ?_
                have hS353 := St.extend hS333 he350
                obtain ⟨S354, hS355, hf356⟩ := hphi352 1 87 _ rfl rfl rfl
                have e357 : f348 87 = (Value.agg #[v_r_Table]) := hf356
                refine OpX.call rfl (op_call fn_27 (args1 e357)) (Ret.mono (c_spec_l03Duals (Ty.lift _ (Ext.trans hE7 hS353.ext) r_r_Table) hx359) ?_)
                rintro u360 wd361 ⟨_, rfl, he362, hs363⟩
                exact ⟨he362, _, newS _ _, (Sep.new hs363)⟩
              · refine ObX.op rfl fun f364 wd365 he366 hout367 hphi368 => ?_
                have e370 : f364 1 = v_graph := (hout367 1 rfl).trans hf331
                exact OpX.val v_graph wd365 rfl (op_move e370) (Ext.refl _) rfl
              · refine ObX.op rfl fun f371 wd372 he373 hout374 hphi375 => ?_
                obtain ⟨v377, wd378, ho379, he380, hs381⟩ := mk_litFlat (P := Try.prog) (f := f371) (w := wd372) (T := 36) (m := 0) (ps := #[]) (us := []) (t := (Ty.i .i64)) (flat_i .i64) ([] : (List Int)) sl_36 rfl (Nat.le_of_ble_eq_true rfl) (fillL rfl trivial) rfl rfl (litL trivial)
                exact OpX.valO v377 wd378 rfl ho379 he380 (Sep.new hs381)
              · intro f382 wd383 Ss384 he385 hout386 hSn387 hSd388 hphi389
                show WL _ _ _ _ _ _ _
                have e391 : f382 86 = (Value.agg #[v_r_Table]) := hphi389 0 86 _ (by decide) rfl rfl
                have e392 : SepS (Ss384 2) wd383 [(Ty.sl (Ty.i .i64)).at (f382 88) x358] := hphi389 2 88 _ (by decide) rfl rfl
                have e393 : f382 89 = v_graph := hphi389 3 89 _ (by decide) rfl rfl
                have e394 : SepS (Ss384 4) wd383 [(Ty.sl (Ty.i .i64)).at (f382 90) ([] : (List Int))] := hphi389 4 90 _ (by decide) rfl rfl
                have hS395 := St.joinS hS333 he385 hSn387 (SepS.consS hSd388 rfl e392 (SepS.consS hSd388 rfl e394 SepS.nilS))
                replace hS395 : St wd2 wd383 [(Ty.sl (Ty.i .i64)).at (f382 88) x358, (Ty.sl (Ty.i .i64)).at (f382 90) ([] : (List Int))] := hS395
                have hb396 := St.rep (t := (Ty.sl (Ty.i .i64))) hS395 0 rfl
                have hb397 := St.rep (t := (Ty.sl (Ty.i .i64))) hS395 1 rfl
                have hE398 : Ext w wd383 := (Ext.trans hE7 hS395.ext)
                have hE399 : Ext wd2 wd383 := hS395.ext
                have hS400 : St wd383 wd383 [] := St.start wd383
                obtain ⟨x401, hx402, h⟩ := bs h
                refine WL.call _ (op_call fn_26 (args4 e391 rfl e393 rfl)) (c_spec_l15Sum (Ty.lift _ (Ext.trans hE398 hS400.ext) r_r_Table) (Ty.lift _ hS400.ext hb396) (Ty.lift _ (Ext.trans hE398 hS400.ext) r_graph) (Ty.lift _ hS400.ext hb397) hx402) rfl ?_
                rintro _ wd404 ⟨rfl, hr403, he405⟩
                have hS407 := St.extend hS400 he405
                replace hS407 : St wd383 wd404 [] := hS407
                refine WL.val (Value.int .i64 x401) _ (op_assign rfl) rfl ?_
                refine WL.val (Value.int .i64 (0 : Int)) _ (op_assign rfl) rfl ?_
                refine WL.nil ?_
                refine W.ret ?_
                obtain rfl := Option.some.inj h
                show FinP _ _ _ _ _ _ _
                exact FinP.ret _ (res2 rfl rfl rfl) ⟨rfl, hr403, (inL rfl), (Ext.trans hE398 hS407.ext)⟩

theorem c_impl_within {w : World} {n : Int} {low : Int} {high : Int} (r_n : InR .i64 n) (r_low : InR .i64 low) (r_high : InR .i64 high) {res : Bool} (h : p_impl_within n low high  = some res) :
    Ret Try.prog 52 #[(Value.int .i64 n), (Value.int .i64 low), (Value.int .i64 high)] w (fun v w' => v = Value.bool res ∧ Ext w w') := by
  unfold p_impl_within at h
  have hS0 : St w w [] := St.start w
  refine Ret.start (fn := Try.f52) Try.func52 rfl 15 rfl rfl ?_
  refine W.seq (W.region ?_)
  refine WL.val (Value.bool false) _ (op_assign rfl) rfl ?_
  refine WL.nil ?_
  refine W.seq (W.region ?_)
  refine WL.val (Value.int .i64 n) _ (op_move rfl) rfl ?_
  refine WL.val (Value.int .i64 low) _ (op_move rfl) rfl ?_
  refine WL.val (Value.bool (decide (n ≥ low))) _ (op_geq rfl rfl) rfl ?_
  refine WL.val (Value.bool (decide (n ≥ low))) _ (op_move rfl) rfl ?_
  refine WL.cut 4 (fun fq wq => fq 14 = (Value.bool ((decide (n ≥ low)) && (decide (n ≤ high)))) ∧ St w wq []) ?_ ?_
  · rcases Bool.eq_false_or_eq_true (decide (n ≥ low)) with hc1 | hc1
    · refine WL.grun rfl (bool_of rfl hc1) ?_
      refine WL.val (Value.int .i64 n) _ (op_move rfl) rfl ?_
      refine WL.grun rfl (bool_of rfl hc1) ?_
      refine WL.val (Value.int .i64 high) _ (op_move rfl) rfl ?_
      refine WL.grun rfl (bool_of rfl hc1) ?_
      refine WL.val (Value.bool (decide (n ≤ high))) _ (op_leq rfl rfl) rfl ?_
      refine WL.val (Value.bool (decide (n ≤ high))) _ (op_pick_t (evb_of rfl hc1) rfl) rfl ?_
      refine WL.nil ?_
      exact ⟨rfl, (andT hc1), hS0⟩
    · refine WL.gskip rfl (bool_of rfl hc1) rfl ?_
      refine WL.gskip rfl (bool_of rfl hc1) rfl ?_
      refine WL.gskip rfl (bool_of rfl hc1) rfl ?_
      refine WL.val (Value.bool false) _ (op_pick_f (evb_of rfl hc1) rfl) rfl ?_
      refine WL.nil ?_
      exact ⟨rfl, (andF hc1), hS0⟩
  · intro f2 wd3 hq4
    obtain ⟨hf5, hS6⟩ := hq4
    refine WL.val (Value.bool ((decide (n ≥ low)) && (decide (n ≤ high)))) _ (op_assign hf5) rfl ?_
    refine WL.nil ?_
    refine W.ret ?_
    obtain rfl := Option.some.inj h
    show FinP _ _ _ _ _ _ _
    exact FinP.ret _ (res1 rfl rfl) ⟨rfl, hS6.ext⟩

theorem c_impl_allWithin_c1 {w : World} {n : Int} {b_c0 : Nat} {c0 : Int} {b_c1 : Nat} {c1 : Int} (r_n : InR .i64 n) (k_c0 : BoxAt w b_c0 [(Value.int .i64 c0)]) (r_c0 : InR .i64 c0) (k_c1 : BoxAt w b_c1 [(Value.int .i64 c1)]) (r_c1 : InR .i64 c1) {res : Bool} (h : p_impl_allWithin_c1 n c0 c1 = some res) :
    Ret Try.prog 75 #[(Value.int .i64 n), (Value.pointer (some ⟨b_c0, 0, none⟩)), (Value.pointer (some ⟨b_c1, 0, none⟩))] w (fun v w' => v = Value.bool res ∧ Ext w w') := by
  unfold p_impl_allWithin_c1 at h
  have hS0 : St w w [] := St.start w
  refine Ret.start (fn := Try.f75) Try.func75 rfl 10 rfl rfl ?_
  refine W.seq (W.region ?_)
  refine WL.val (Value.bool false) _ (op_assign rfl) rfl ?_
  refine WL.nil ?_
  refine W.seq (W.region ?_)
  refine WL.val (Value.int .i64 n) _ (op_move rfl) rfl ?_
  refine WL.val (Value.int .i64 c0) _ (op_load one_2 rfl (BoxAt.cell (BoxAt.lift hS0.ext k_c0) rfl)) rfl ?_
  refine WL.val (Value.int .i64 c1) _ (op_load one_2 rfl (BoxAt.cell (BoxAt.lift hS0.ext k_c1) rfl)) rfl ?_
  obtain ⟨x1, hx2, h⟩ := bs h
  refine WL.call _ (op_call fn_52 (args3 rfl rfl rfl)) (c_impl_within r_n r_c0 r_c1 hx2) rfl ?_
  rintro _ wd3 ⟨rfl, he4⟩
  have hS6 := St.extend hS0 he4
  replace hS6 : St w wd3 [] := hS6
  refine WL.val (Value.bool (!x1)) _ (op_not rfl) rfl ?_
  refine WL.val (Value.bool (!x1)) _ (op_assign rfl) rfl ?_
  refine WL.nil ?_
  refine W.ret ?_
  obtain rfl := Option.some.inj h
  show FinP _ _ _ _ _ _ _
  exact FinP.ret _ (res1 rfl rfl) ⟨rfl, hS6.ext⟩

theorem c_slices_IndexFunc_Lint64_int64 {w : World} {s1 : (List Int)} {v_s1 : Value} {f1 : Int → Option Bool} {v_f1 : Value} (r_s1 : (Ty.sl (Ty.i .i64)).rep w v_s1 s1) (r_f1 : FnT_i_to_b Try.prog v_f1 w f1) {res : Int} (h : p_slices_IndexFunc_Lint64_int64 s1 f1  = some res) :
    Ret Try.prog 77 #[v_s1, v_f1] w (fun v w' => v = Value.int .i64 res ∧ InR .i64 res ∧ Ext w w') := by
  unfold p_slices_IndexFunc_Lint64_int64 at h
  have hS0 : St w w [] := St.start w
  have q_f1 := r_f1
  obtain ⟨g_f1, fst_f1, cap_f1, eq_f1, ok_f1, call_f1⟩ := q_f1
  subst eq_f1
  refine Ret.start (fn := Try.f77) Try.func77 rfl 19 rfl rfl ?_
  refine W.seq (W.region ?_)
  refine WL.val (Value.int .i64 (0 : Int)) _ (op_assign rfl) rfl ?_
  refine WL.nil ?_
  refine W.seq (W.seq (W.region ?_))
  refine WL.val v_s1 _ (op_move rfl) rfl ?_
  have hr1 := inR_len (Ty.lift _ hS0.ext r_s1)
  refine WL.val (Value.int .i64 ((s1).length : Int)) _ (op_lenL sl_36 (Ty.lift _ hS0.ext r_s1) rfl) rfl ?_
  refine WL.val (Value.int .i64 (0 : Int)) _ (op_move rfl) rfl ?_
  refine WL.nil ?_
  show W _ _ _ _ _ _
  obtain ⟨res2, hres3, h⟩ := bs h
  refine W.blockLoop (fun fq wq => ∃ s, res2 = Res.fin s ∧ St w wq []) ?_ ?_
  · refine W.forN (fun k (s : Unit) fq wq => fq 0 = v_s1 ∧ fq 1 = (Value.func (.func g_f1) fst_f1 cap_f1) ∧ fq 7 = (Value.int .i64 ((s1).length : Int)) ∧ fq 8 = Value.int .i64 (k : Int) ∧ InR .i64 (k : Int) ∧ St w wq []) hres3 ⟨rfl, rfl, rfl, rfl, (inL rfl), hS0⟩ ?_ ?_
    · intro k4 s36 ct5 f6 wd7 hk8 hb9 hI10 hbrk11 hret12
      obtain ⟨⟩ := s36
      replace hI10 : f6 0 = v_s1 ∧ f6 1 = (Value.func (.func g_f1) fst_f1 cap_f1) ∧ f6 7 = (Value.int .i64 ((s1).length : Int)) ∧ f6 8 = Value.int .i64 (k4 : Int) ∧ InR .i64 (k4 : Int) ∧ St w wd7 [] := hI10
      replace hb9 : p_slices_IndexFunc_Lint64_int64_L1 s1 f1 k4  = some ct5 := hb9
      unfold p_slices_IndexFunc_Lint64_int64_L1 at hb9
      obtain ⟨hf13, hf14, hf15, hf16, hr17, hS18⟩ := hI10
      refine W.seq (W.region ?_)
      refine WL.val (Value.bool (decide ((k4 : Int) < ((s1).length : Int)))) _ (op_lss hf16 hf15) rfl ?_
      have hl19 : (k4 : Int) < ((s1).length : Int) := by omega
      refine WL.nil ?_
      refine W.seq ?_
      refine W.condT (decide ((k4 : Int) < ((s1).length : Int))) rfl (decide_eq_true hl19) ?_
      refine W.skip ?_
      refine W.seq ?_
      refine W.block ?_
      refine W.seq (W.region ?_)
      refine WL.val (Value.int .i64 (k4 : Int)) _ (op_move hf16) rfl ?_
      refine WL.val (Value.int .i64 (k4 : Int)) _ (op_assign rfl) rfl ?_
      refine WL.nil ?_
      refine W.seq (W.region ?_)
      refine WL.val (Value.func (.func g_f1) fst_f1 cap_f1) _ (op_move hf14) rfl ?_
      refine WL.val v_s1 _ (op_move hf13) rfl ?_
      refine WL.val (Value.int .i64 (k4 : Int)) _ (op_move rfl) rfl ?_
      obtain ⟨x21, hx24, hb9⟩ := bs hb9
      obtain ⟨ha22, hb23, hx24⟩ := idx_some hx24
      refine WL.val (Value.pointer (some (elA v_s1 ((k4 : Int)).toNat))) _ (op_idx sl_36 (Ty.lift _ hS18.ext r_s1) rfl rfl ha22 hb23) rfl ?_
      obtain ⟨u25, hc26, hr27⟩ := repSl.el r_s1 hx24
      obtain ⟨rfl, hr27⟩ := hr27
      refine WL.val (Value.int .i64 x21) _ (op_load one_2 rfl (Ext.cell hS18.ext hc26)) rfl ?_
      obtain ⟨x28, hx29, hb9⟩ := bs hb9
      refine WL.call _ (op_callV rfl ok_f1 (args1 rfl)) (call_f1 wd7 x21 x28 hS18.ext hr27 hx29) rfl ?_
      rintro _ wd30 ⟨rfl, he31⟩
      have hS33 := St.extend hS18 he31
      refine WL.nil ?_
      refine W.cond x28 rfl (fun hc34 => ?_) (fun hc34 => ?_)
      · replace hb9 := ip hb9 hc34
        refine W.seq (W.region ?_)
        refine WL.val (Value.int .i64 (k4 : Int)) _ (op_move rfl) rfl ?_
        refine WL.val (Value.int .i64 (k4 : Int)) _ (op_assign rfl) rfl ?_
        refine WL.nil ?_
        refine W.ret ?_
        obtain rfl := Option.some.inj hb9
        obtain rfl := hret12 _ rfl
        replace h := onRes_ret h
        obtain rfl := Option.some.inj h
        show FinP _ _ _ _ _ _ _
        exact FinP.ret _ (res1 rfl rfl) ⟨rfl, hr17, hS33.ext⟩
      · replace hb9 := inegb hb9 hc34
        refine W.skip ?_
        show W _ _ _ _ _ _
        refine W.region ?_
        refine WL.val (Value.int .i64 (w64 ((k4 : Int) + (1 : Int)))) _ (op_add hf16 rfl) rfl ?_
        refine WL.val (Value.int .i64 (w64 ((k4 : Int) + (1 : Int)))) _ (op_move rfl) rfl ?_
        refine WL.nil ?_
        obtain rfl := Option.some.inj hb9
        show ∃ s, _ = Ctl.next s ∧ _
        exact ⟨_, rfl, hf13, hf14, hf15, (ctr_next hl19 hr1), (ctr_rng hl19 hr1), hS33⟩
    · intro s41 f37 wd38 hs39 hI40
      obtain ⟨⟩ := s41
      replace hI40 : f37 0 = v_s1 ∧ f37 1 = (Value.func (.func g_f1) fst_f1 cap_f1) ∧ f37 7 = (Value.int .i64 ((s1).length : Int)) ∧ f37 8 = Value.int .i64 (((s1).length : Nat) : Int) ∧ InR .i64 (((s1).length : Nat) : Int) ∧ St w wd38 [] := hI40
      obtain ⟨hf42, hf43, hf44, hf45, hr46, hS47⟩ := hI40
      refine W.seq (W.region ?_)
      refine WL.val (Value.bool (decide ((((s1).length : Nat) : Int) < ((s1).length : Int)))) _ (op_lss hf45 hf44) rfl ?_
      have hl48 : ¬ (((s1).length : Nat) : Int) < ((s1).length : Int) := by omega
      refine WL.nil ?_
      refine W.seq ?_
      refine W.condF (decide ((((s1).length : Nat) : Int) < ((s1).length : Int))) rfl (decide_eq_false hl48) ?_
      refine W.exit ?_
      show _ = _ ∧ _
      exact ⟨rfl, _, hs39, hS47⟩
  · rintro f49 wd50 ⟨s52, rfl, hq51⟩
    replace h := onRes_fin h
    obtain ⟨⟩ := s52
    replace hq51 : St w wd50 [] := hq51
    have hS53 := hq51
    refine W.seq (W.region ?_)
    refine WL.val (Value.int .i64 (-1 : Int)) _ (op_assign rfl) rfl ?_
    refine WL.nil ?_
    refine W.ret ?_
    obtain rfl := Option.some.inj h
    show FinP _ _ _ _ _ _ _
    exact FinP.ret _ (res1 rfl rfl) ⟨rfl, (inR_i64.2 (show (-9223372036854775808 : Int) ≤ -1 ∧ (-1 : Int) ≤ 9223372036854775807 from by decide)), hS53.ext⟩

theorem c_slices_ContainsFunc_Lint64_int64 {w : World} {s1 : (List Int)} {v_s1 : Value} {f1 : Int → Option Bool} {v_f1 : Value} (r_s1 : (Ty.sl (Ty.i .i64)).rep w v_s1 s1) (r_f1 : FnT_i_to_b Try.prog v_f1 w f1) {res : Bool} (h : p_slices_ContainsFunc_Lint64_int64 s1 f1  = some res) :
    Ret Try.prog 74 #[v_s1, v_f1] w (fun v w' => v = Value.bool res ∧ Ext w w') := by
  unfold p_slices_ContainsFunc_Lint64_int64 at h
  have hS0 : St w w [] := St.start w
  have q_f1 := r_f1
  obtain ⟨g_f1, fst_f1, cap_f1, eq_f1, ok_f1, call_f1⟩ := q_f1
  subst eq_f1
  refine Ret.start (fn := Try.f74) Try.func74 rfl 9 rfl rfl ?_
  refine W.seq (W.region ?_)
  refine WL.val (Value.bool false) _ (op_assign rfl) rfl ?_
  refine WL.nil ?_
  refine W.seq (W.region ?_)
  refine WL.val v_s1 _ (op_move rfl) rfl ?_
  refine WL.val (Value.func (.func g_f1) fst_f1 cap_f1) _ (op_move rfl) rfl ?_
  obtain ⟨x1, hx2, h⟩ := bs h
  refine WL.call _ (op_call fn_77 (args2 rfl rfl)) (c_slices_IndexFunc_Lint64_int64 (Ty.lift _ hS0.ext r_s1) (FnT_i_to_b.lift hS0.ext r_f1) hx2) rfl ?_
  rintro _ wd4 ⟨rfl, hr3, he5⟩
  have hS7 := St.extend hS0 he5
  replace hS7 : St w wd4 [] := hS7
  refine WL.val (Value.bool (decide (x1 ≥ (0 : Int)))) _ (op_geq rfl rfl) rfl ?_
  refine WL.val (Value.bool (decide (x1 ≥ (0 : Int)))) _ (op_assign rfl) rfl ?_
  refine WL.nil ?_
  refine W.ret ?_
  obtain rfl := Option.some.inj h
  show FinP _ _ _ _ _ _ _
  exact FinP.ret _ (res1 rfl rfl) ⟨rfl, hS7.ext⟩

theorem c_impl_allWithin {w : World} {list : (List Int)} {v_list : Value} {low : Int} {high : Int} (r_list : (Ty.sl (Ty.i .i64)).rep w v_list list) (r_low : InR .i64 low) (r_high : InR .i64 high) {res : Bool} (h : p_impl_allWithin list low high  = some res) :
    Ret Try.prog 63 #[v_list, (Value.int .i64 low), (Value.int .i64 high)] w (fun v w' => v = Value.bool res ∧ Ext w w') := by
  unfold p_impl_allWithin at h
  have hS0 : St w w [] := St.start w
  refine Ret.start (fn := Try.f63) Try.func63 rfl 11 rfl rfl ?_
  refine W.seq (W.region ?_)
  refine WL.box hS0 rfl (cs := [(Value.int .i64 low)]) rfl rfl ?_
  intro b1 wd2 hS3 he4 hx5
  replace hS3 : St w wd2 [bx b1 [(Value.int .i64 low)]] := hS3
  have hx6 := St.boxAt hS3 0 rfl
  have hE7 : Ext w wd2 := hS3.ext
  have hS8 : St wd2 wd2 [] := St.start wd2
  refine WL.box hS8 rfl (cs := [(Value.int .i64 high)]) rfl rfl ?_
  intro b9 wd10 hS11 he12 hx13
  replace hS11 : St wd2 wd10 [bx b9 [(Value.int .i64 high)]] := hS11
  have hx14 := St.boxAt hS11 0 rfl
  have hE15 : Ext w wd10 := (Ext.trans hE7 hS11.ext)
  have hE16 : Ext wd2 wd10 := hS11.ext
  have hS17 : St wd10 wd10 [] := St.start wd10
  refine WL.val (Value.bool false) _ (op_assign rfl) rfl ?_
  refine WL.nil ?_
  refine W.seq (W.region ?_)
  refine WL.val v_list _ (op_move rfl) rfl ?_
  refine WL.val (Value.func (.func 75) #[] #[(Value.pointer (some ⟨b1, 0, none⟩)), (Value.pointer (some ⟨b9, 0, none⟩))]) _ (op_makeFunc (va := #[]) (vb := #[(Value.pointer (some ⟨b1, 0, none⟩)), (Value.pointer (some ⟨b9, 0, none⟩))]) args0 (args2 rfl rfl)) rfl ?_
  obtain ⟨x22, hx23, h⟩ := bs h
  refine WL.call _ (op_call fn_74 (args2 rfl rfl)) (c_slices_ContainsFunc_Lint64_int64 (Ty.lift _ (Ext.trans hE15 hS17.ext) r_list) (⟨75, #[], #[(Value.pointer (some ⟨b1, 0, none⟩)), (Value.pointer (some ⟨b9, 0, none⟩))], rfl, fn_75, fun wd18 a0_19 r20 he19 ra0_19 hq21 => c_impl_allWithin_c1 ra0_19 (BoxAt.lift (Ext.trans (Ext.trans hE16 hS17.ext) he19) hx6) r_low (BoxAt.lift (Ext.trans hS17.ext he19) hx14) r_high hq21⟩) hx23) rfl ?_
  rintro _ wd24 ⟨rfl, he25⟩
  have hS27 := St.extend hS17 he25
  replace hS27 : St wd10 wd24 [] := hS27
  refine WL.val (Value.bool (!x22)) _ (op_not rfl) rfl ?_
  refine WL.val (Value.bool (!x22)) _ (op_assign rfl) rfl ?_
  refine WL.nil ?_
  refine W.ret ?_
  obtain rfl := Option.some.inj h
  show FinP _ _ _ _ _ _ _
  exact FinP.ret _ (res1 rfl rfl) ⟨rfl, (Ext.trans hE15 hS27.ext)⟩

theorem c_impl_isCube_c1 {w : World} {row : (List Int)} {v_row : Value} {b_c0 : Nat} {c0 : Int} (r_row : (Ty.sl (Ty.i .i64)).rep w v_row row) (k_c0 : BoxAt w b_c0 [(Value.int .i64 c0)]) (r_c0 : InR .i64 c0) {res : Bool} (h : p_impl_isCube_c1 row c0 = some res) :
    Ret Try.prog 62 #[v_row, (Value.pointer (some ⟨b_c0, 0, none⟩))] w (fun v w' => v = Value.bool res ∧ Ext w w') := by
  unfold p_impl_isCube_c1 at h
  have hS0 : St w w [] := St.start w
  refine Ret.start (fn := Try.f62) Try.func62 rfl 13 rfl rfl ?_
  refine W.seq (W.region ?_)
  refine WL.val (Value.bool false) _ (op_assign rfl) rfl ?_
  refine WL.nil ?_
  refine W.seq (W.region ?_)
  refine WL.val v_row _ (op_move rfl) rfl ?_
  have hr1 := inR_len (Ty.lift _ hS0.ext r_row)
  refine WL.val (Value.int .i64 ((row).length : Int)) _ (op_lenL sl_36 (Ty.lift _ hS0.ext r_row) rfl) rfl ?_
  refine WL.val (Value.int .i64 c0) _ (op_load one_3 rfl (BoxAt.cell (BoxAt.lift hS0.ext k_c0) rfl)) rfl ?_
  refine WL.val (Value.bool (((row).length : Int) != c0)) _ (op_neq rfl rfl) rfl ?_
  refine WL.val (Value.bool (((row).length : Int) != c0)) _ (op_move rfl) rfl ?_
  obtain ⟨x3, hj4, h⟩ := bs h
  refine WL.cut 4 (fun fq wq => fq 12 = Value.bool x3 ∧ St w wq []) ?_ ?_
  · rcases Bool.eq_false_or_eq_true (((row).length : Int) != c0) with hc2 | hc2
    · replace hj4 := ip hj4 hc2
      refine WL.gskip rfl (bool_of rfl hc2) rfl ?_
      refine WL.gskip rfl (bool_of rfl hc2) rfl ?_
      refine WL.gskip rfl (bool_of rfl hc2) rfl ?_
      refine WL.val (Value.bool true) _ (op_pick_t (evb_of rfl hc2) rfl) rfl ?_
      refine WL.nil ?_
      obtain rfl := Option.some.inj hj4
      exact ⟨rfl, rfl, hS0⟩
    · replace hj4 := inegb hj4 hc2
      refine WL.grun rfl (bool_of rfl hc2) ?_
      refine WL.val v_row _ (op_move rfl) rfl ?_
      refine WL.grun rfl (bool_of rfl hc2) ?_
      obtain ⟨x8, hx9, hj4⟩ := bs hj4
      refine WL.call _ (op_call fn_63 (args3 rfl rfl rfl)) (c_impl_allWithin (Ty.lift _ hS0.ext r_row) (inL rfl) (inL rfl) hx9) rfl ?_
      rintro _ wd10 ⟨rfl, he11⟩
      have hS13 := St.extend hS0 he11
      replace hS13 : St w wd10 [] := hS13
      refine WL.grun rfl (bool_of rfl hc2) ?_
      refine WL.val (Value.bool (!x8)) _ (op_not rfl) rfl ?_
      refine WL.val (Value.bool (!x8)) _ (op_pick_f (evb_of rfl hc2) rfl) rfl ?_
      refine WL.nil ?_
      obtain rfl := Option.some.inj hj4
      exact ⟨rfl, rfl, hS13⟩
  · intro f5 wd6 hq7
    obtain ⟨hf14, hS15⟩ := hq7
    refine WL.val (Value.bool x3) _ (op_assign hf14) rfl ?_
    refine WL.nil ?_
    refine W.ret ?_
    obtain rfl := Option.some.inj h
    show FinP _ _ _ _ _ _ _
    exact FinP.ret _ (res1 rfl rfl) ⟨rfl, hS15.ext⟩

theorem c_slices_IndexFunc_LLint64_Lint64 {w : World} {s1 : (List (List Int))} {v_s1 : Value} {f1 : (List Int) → Option Bool} {v_f1 : Value} (r_s1 : (Ty.sl (Ty.sl (Ty.i .i64))).rep w v_s1 s1) (r_f1 : FnT_li_to_b Try.prog v_f1 w f1) {res : Int} (h : p_slices_IndexFunc_LLint64_Lint64 s1 f1  = some res) :
    Ret Try.prog 73 #[v_s1, v_f1] w (fun v w' => v = Value.int .i64 res ∧ InR .i64 res ∧ Ext w w') := by
  unfold p_slices_IndexFunc_LLint64_Lint64 at h
  have hS0 : St w w [] := St.start w
  have q_f1 := r_f1
  obtain ⟨g_f1, fst_f1, cap_f1, eq_f1, ok_f1, call_f1⟩ := q_f1
  subst eq_f1
  refine Ret.start (fn := Try.f73) Try.func73 rfl 19 rfl rfl ?_
  refine W.seq (W.region ?_)
  refine WL.val (Value.int .i64 (0 : Int)) _ (op_assign rfl) rfl ?_
  refine WL.nil ?_
  refine W.seq (W.seq (W.region ?_))
  refine WL.val v_s1 _ (op_move rfl) rfl ?_
  have hr1 := inR_len (Ty.lift _ hS0.ext r_s1)
  refine WL.val (Value.int .i64 ((s1).length : Int)) _ (op_lenL sl_25 (Ty.lift _ hS0.ext r_s1) rfl) rfl ?_
  refine WL.val (Value.int .i64 (0 : Int)) _ (op_move rfl) rfl ?_
  refine WL.nil ?_
  show W _ _ _ _ _ _
  obtain ⟨res2, hres3, h⟩ := bs h
  refine W.blockLoop (fun fq wq => ∃ s, res2 = Res.fin s ∧ St w wq []) ?_ ?_
  · refine W.forN (fun k (s : Unit) fq wq => fq 0 = v_s1 ∧ fq 1 = (Value.func (.func g_f1) fst_f1 cap_f1) ∧ fq 7 = (Value.int .i64 ((s1).length : Int)) ∧ fq 8 = Value.int .i64 (k : Int) ∧ InR .i64 (k : Int) ∧ St w wq []) hres3 ⟨rfl, rfl, rfl, rfl, (inL rfl), hS0⟩ ?_ ?_
    · intro k4 s36 ct5 f6 wd7 hk8 hb9 hI10 hbrk11 hret12
      obtain ⟨⟩ := s36
      replace hI10 : f6 0 = v_s1 ∧ f6 1 = (Value.func (.func g_f1) fst_f1 cap_f1) ∧ f6 7 = (Value.int .i64 ((s1).length : Int)) ∧ f6 8 = Value.int .i64 (k4 : Int) ∧ InR .i64 (k4 : Int) ∧ St w wd7 [] := hI10
      replace hb9 : p_slices_IndexFunc_LLint64_Lint64_L1 s1 f1 k4  = some ct5 := hb9
      unfold p_slices_IndexFunc_LLint64_Lint64_L1 at hb9
      obtain ⟨hf13, hf14, hf15, hf16, hr17, hS18⟩ := hI10
      refine W.seq (W.region ?_)
      refine WL.val (Value.bool (decide ((k4 : Int) < ((s1).length : Int)))) _ (op_lss hf16 hf15) rfl ?_
      have hl19 : (k4 : Int) < ((s1).length : Int) := by omega
      refine WL.nil ?_
      refine W.seq ?_
      refine W.condT (decide ((k4 : Int) < ((s1).length : Int))) rfl (decide_eq_true hl19) ?_
      refine W.skip ?_
      refine W.seq ?_
      refine W.block ?_
      refine W.seq (W.region ?_)
      refine WL.val (Value.int .i64 (k4 : Int)) _ (op_move hf16) rfl ?_
      refine WL.val (Value.int .i64 (k4 : Int)) _ (op_assign rfl) rfl ?_
      refine WL.nil ?_
      refine W.seq (W.region ?_)
      refine WL.val (Value.func (.func g_f1) fst_f1 cap_f1) _ (op_move hf14) rfl ?_
      refine WL.val v_s1 _ (op_move hf13) rfl ?_
      refine WL.val (Value.int .i64 (k4 : Int)) _ (op_move rfl) rfl ?_
      obtain ⟨x21, hx24, hb9⟩ := bs hb9
      obtain ⟨ha22, hb23, hx24⟩ := idx_some hx24
      refine WL.val (Value.pointer (some (elA v_s1 ((k4 : Int)).toNat))) _ (op_idx sl_25 (Ty.lift _ hS18.ext r_s1) rfl rfl ha22 hb23) rfl ?_
      obtain ⟨u25, hc26, hr27⟩ := repSl.el r_s1 hx24
      refine WL.val u25 _ (op_load one_36 rfl (Ext.cell hS18.ext hc26)) rfl ?_
      obtain ⟨x28, hx29, hb9⟩ := bs hb9
      refine WL.call _ (op_callV rfl ok_f1 (args1 rfl)) (call_f1 wd7 u25 x21 x28 hS18.ext (Ty.lift _ hS18.ext hr27) hx29) rfl ?_
      rintro _ wd30 ⟨rfl, he31⟩
      have hS33 := St.extend hS18 he31
      refine WL.nil ?_
      refine W.cond x28 rfl (fun hc34 => ?_) (fun hc34 => ?_)
      · replace hb9 := ip hb9 hc34
        refine W.seq (W.region ?_)
        refine WL.val (Value.int .i64 (k4 : Int)) _ (op_move rfl) rfl ?_
        refine WL.val (Value.int .i64 (k4 : Int)) _ (op_assign rfl) rfl ?_
        refine WL.nil ?_
        refine W.ret ?_
        obtain rfl := Option.some.inj hb9
        obtain rfl := hret12 _ rfl
        replace h := onRes_ret h
        obtain rfl := Option.some.inj h
        show FinP _ _ _ _ _ _ _
        exact FinP.ret _ (res1 rfl rfl) ⟨rfl, hr17, hS33.ext⟩
      · replace hb9 := inegb hb9 hc34
        refine W.skip ?_
        show W _ _ _ _ _ _
        refine W.region ?_
        refine WL.val (Value.int .i64 (w64 ((k4 : Int) + (1 : Int)))) _ (op_add hf16 rfl) rfl ?_
        refine WL.val (Value.int .i64 (w64 ((k4 : Int) + (1 : Int)))) _ (op_move rfl) rfl ?_
        refine WL.nil ?_
        obtain rfl := Option.some.inj hb9
        show ∃ s, _ = Ctl.next s ∧ _
        exact ⟨_, rfl, hf13, hf14, hf15, (ctr_next hl19 hr1), (ctr_rng hl19 hr1), hS33⟩
    · intro s41 f37 wd38 hs39 hI40
      obtain ⟨⟩ := s41
      replace hI40 : f37 0 = v_s1 ∧ f37 1 = (Value.func (.func g_f1) fst_f1 cap_f1) ∧ f37 7 = (Value.int .i64 ((s1).length : Int)) ∧ f37 8 = Value.int .i64 (((s1).length : Nat) : Int) ∧ InR .i64 (((s1).length : Nat) : Int) ∧ St w wd38 [] := hI40
      obtain ⟨hf42, hf43, hf44, hf45, hr46, hS47⟩ := hI40
      refine W.seq (W.region ?_)
      refine WL.val (Value.bool (decide ((((s1).length : Nat) : Int) < ((s1).length : Int)))) _ (op_lss hf45 hf44) rfl ?_
      have hl48 : ¬ (((s1).length : Nat) : Int) < ((s1).length : Int) := by omega
      refine WL.nil ?_
      refine W.seq ?_
      refine W.condF (decide ((((s1).length : Nat) : Int) < ((s1).length : Int))) rfl (decide_eq_false hl48) ?_
      refine W.exit ?_
      show _ = _ ∧ _
      exact ⟨rfl, _, hs39, hS47⟩
  · rintro f49 wd50 ⟨s52, rfl, hq51⟩
    replace h := onRes_fin h
    obtain ⟨⟩ := s52
    replace hq51 : St w wd50 [] := hq51
    have hS53 := hq51
    refine W.seq (W.region ?_)
    refine WL.val (Value.int .i64 (-1 : Int)) _ (op_assign rfl) rfl ?_
    refine WL.nil ?_
    refine W.ret ?_
    obtain rfl := Option.some.inj h
    show FinP _ _ _ _ _ _ _
    exact FinP.ret _ (res1 rfl rfl) ⟨rfl, (inR_i64.2 (show (-9223372036854775808 : Int) ≤ -1 ∧ (-1 : Int) ≤ 9223372036854775807 from by decide)), hS53.ext⟩

theorem c_slices_ContainsFunc_LLint64_Lint64 {w : World} {s1 : (List (List Int))} {v_s1 : Value} {f1 : (List Int) → Option Bool} {v_f1 : Value} (r_s1 : (Ty.sl (Ty.sl (Ty.i .i64))).rep w v_s1 s1) (r_f1 : FnT_li_to_b Try.prog v_f1 w f1) {res : Bool} (h : p_slices_ContainsFunc_LLint64_Lint64 s1 f1  = some res) :
    Ret Try.prog 61 #[v_s1, v_f1] w (fun v w' => v = Value.bool res ∧ Ext w w') := by
  unfold p_slices_ContainsFunc_LLint64_Lint64 at h
  have hS0 : St w w [] := St.start w
  have q_f1 := r_f1
  obtain ⟨g_f1, fst_f1, cap_f1, eq_f1, ok_f1, call_f1⟩ := q_f1
  subst eq_f1
  refine Ret.start (fn := Try.f61) Try.func61 rfl 9 rfl rfl ?_
  refine W.seq (W.region ?_)
  refine WL.val (Value.bool false) _ (op_assign rfl) rfl ?_
  refine WL.nil ?_
  refine W.seq (W.region ?_)
  refine WL.val v_s1 _ (op_move rfl) rfl ?_
  refine WL.val (Value.func (.func g_f1) fst_f1 cap_f1) _ (op_move rfl) rfl ?_
  obtain ⟨x1, hx2, h⟩ := bs h
  refine WL.call _ (op_call fn_73 (args2 rfl rfl)) (c_slices_IndexFunc_LLint64_Lint64 (Ty.lift _ hS0.ext r_s1) (FnT_li_to_b.lift hS0.ext r_f1) hx2) rfl ?_
  rintro _ wd4 ⟨rfl, hr3, he5⟩
  have hS7 := St.extend hS0 he5
  replace hS7 : St w wd4 [] := hS7
  refine WL.val (Value.bool (decide (x1 ≥ (0 : Int)))) _ (op_geq rfl rfl) rfl ?_
  refine WL.val (Value.bool (decide (x1 ≥ (0 : Int)))) _ (op_assign rfl) rfl ?_
  refine WL.nil ?_
  refine W.ret ?_
  obtain rfl := Option.some.inj h
  show FinP _ _ _ _ _ _ _
  exact FinP.ret _ (res1 rfl rfl) ⟨rfl, hS7.ext⟩

theorem c_impl_isCube {w : World} {r_Table : (List (List (List Int)))} {v_r_Table : Value} (r_r_Table : (Ty.sl (Ty.sl (Ty.sl (Ty.i .i64)))).rep w v_r_Table r_Table) {res : Bool} (h : p_impl_isCube r_Table  = some res) :
    Ret Try.prog 50 #[(Value.agg #[v_r_Table])] w (fun v w' => v = Value.bool res ∧ Ext w w') := by
  unfold p_impl_isCube at h
  have hS0 : St w w [] := St.start w
  refine Ret.start (fn := Try.f50) Try.func50 rfl 32 rfl rfl ?_
  refine W.seq (W.region ?_)
  refine WL.box hS0 rfl (cs := [v_r_Table]) rfl rfl ?_
  intro b1 wd2 hS3 he4 hx5
  replace hS3 : St w wd2 [bx b1 [v_r_Table]] := hS3
  have hx6 := St.boxAt hS3 0 rfl
  have hE7 : Ext w wd2 := hS3.ext
  have hS8 : St wd2 wd2 [] := St.start wd2
  refine WL.val (Value.bool false) _ (op_assign rfl) rfl ?_
  refine WL.nil ?_
  refine W.seq (W.region ?_)
  refine WL.val (Value.pointer (some ⟨b1, 0, none⟩)) _ (op_fieldAddr fd_30_0 rfl) rfl ?_
  refine WL.val v_r_Table _ (op_load one_22 rfl (BoxAt.cell (BoxAt.lift hS8.ext hx6) rfl)) rfl ?_
  have hr9 := inR_len (Ty.lift _ (Ext.trans hE7 hS8.ext) r_r_Table)
  refine WL.val (Value.int .i64 ((r_Table).length : Int)) _ (op_lenL sl_22 (Ty.lift _ (Ext.trans hE7 hS8.ext) r_r_Table) rfl) rfl ?_
  refine WL.alloc hS8 ze_3 (cs := [(Value.int .i64 (0 : Int))]) rfl rfl ?_
  intro b10 wd11 hS12 he13
  replace hS12 : St wd2 wd11 [bx b10 [(Value.int .i64 (0 : Int))]] := hS12
  refine WL.storeBox [(Value.int .i64 ((r_Table).length : Int))] hS12 (k := 0) rfl rfl rfl (us := [(Value.int .i64 ((r_Table).length : Int))]) rfl sz_3 rfl rfl (all_cons rfl all_nil) rfl ?_
  intro wd14 hS15
  replace hS15 : St wd2 wd14 [bx b10 [(Value.int .i64 ((r_Table).length : Int))]] := hS15
  refine WL.nil ?_
  refine W.seq (W.seq (W.region ?_))
  refine WL.val (Value.pointer (some ⟨b1, 0, none⟩)) _ (op_fieldAddr fd_30_0 rfl) rfl ?_
  refine WL.val v_r_Table _ (op_load one_22 rfl (BoxAt.cell (BoxAt.lift hS15.ext hx6) rfl)) rfl ?_
  have hr16 := inR_len (Ty.lift _ (Ext.trans hE7 hS15.ext) r_r_Table)
  refine WL.val (Value.int .i64 ((r_Table).length : Int)) _ (op_lenL sl_22 (Ty.lift _ (Ext.trans hE7 hS15.ext) r_r_Table) rfl) rfl ?_
  refine WL.val (Value.int .i64 (0 : Int)) _ (op_move rfl) rfl ?_
  refine WL.nil ?_
  show W _ _ _ _ _ _
  obtain ⟨res17, hres18, h⟩ := bs h
  refine W.blockLoop (fun fq wq => ∃ s, res17 = Res.fin s ∧ fq 3 = (Value.pointer (some ⟨b10, 0, none⟩)) ∧ St wd2 wq [bx b10 [(Value.int .i64 ((r_Table).length : Int))]]) ?_ ?_
  · refine W.forN (fun k (s : Unit) fq wq => fq 3 = (Value.pointer (some ⟨b10, 0, none⟩)) ∧ fq 10 = v_r_Table ∧ fq 11 = (Value.int .i64 ((r_Table).length : Int)) ∧ fq 12 = Value.int .i64 (k : Int) ∧ InR .i64 (k : Int) ∧ St wd2 wq [bx b10 [(Value.int .i64 ((r_Table).length : Int))]]) hres18 ⟨rfl, rfl, rfl, rfl, (inL rfl), hS15⟩ ?_ ?_
    · intro k19 s68 ct20 f21 wd22 hk23 hb24 hI25 hbrk26 hret27
      obtain ⟨⟩ := s68
      replace hI25 : f21 3 = (Value.pointer (some ⟨b10, 0, none⟩)) ∧ f21 10 = v_r_Table ∧ f21 11 = (Value.int .i64 ((r_Table).length : Int)) ∧ f21 12 = Value.int .i64 (k19 : Int) ∧ InR .i64 (k19 : Int) ∧ St wd2 wd22 [bx b10 [(Value.int .i64 ((r_Table).length : Int))]] := hI25
      replace hb24 : p_impl_isCube_L1 r_Table k19  = some ct20 := hb24
      unfold p_impl_isCube_L1 at hb24
      obtain ⟨hf28, hf29, hf30, hf31, hr32, hS33⟩ := hI25
      refine W.seq (W.region ?_)
      refine WL.val (Value.bool (decide ((k19 : Int) < ((r_Table).length : Int)))) _ (op_lss hf31 hf30) rfl ?_
      have hl34 : (k19 : Int) < ((r_Table).length : Int) := by omega
      refine WL.nil ?_
      refine W.seq ?_
      refine W.condT (decide ((k19 : Int) < ((r_Table).length : Int))) rfl (decide_eq_true hl34) ?_
      refine W.skip ?_
      refine W.seq ?_
      refine W.block ?_
      refine W.seq (W.region ?_)
      obtain ⟨x36, hx39, hb24⟩ := bs hb24
      obtain ⟨ha37, hb38, hx39⟩ := idx_some hx39
      refine WL.val (Value.pointer (some (elA v_r_Table ((k19 : Int)).toNat))) _ (op_idx sl_22 (Ty.lift _ (Ext.trans hE7 hS33.ext) r_r_Table) hf29 hf31 ha37 hb38) rfl ?_
      obtain ⟨u40, hc41, hr42⟩ := repSl.el r_r_Table hx39
      refine WL.val u40 _ (op_load one_25 rfl (Ext.cell (Ext.trans hE7 hS33.ext) hc41)) rfl ?_
      refine WL.val u40 _ (op_assign rfl) rfl ?_
      refine WL.nil ?_
      refine W.seq (W.region ?_)
      refine WL.val u40 _ (op_move rfl) rfl ?_
      have hr43 := inR_len (Ty.lift _ (Ext.trans hE7 hS33.ext) hr42)
      refine WL.val (Value.int .i64 ((x36).length : Int)) _ (op_lenL sl_25 (Ty.lift _ (Ext.trans hE7 hS33.ext) hr42) rfl) rfl ?_
      refine WL.val (Value.int .i64 ((r_Table).length : Int)) _ (op_load one_3 hf28 (BoxAt.cell (St.boxAt hS33 0 rfl) rfl)) rfl ?_
      refine WL.val (Value.bool (((x36).length : Int) != ((r_Table).length : Int))) _ (op_neq rfl rfl) rfl ?_
      refine WL.val (Value.bool (((x36).length : Int) != ((r_Table).length : Int))) _ (op_move rfl) rfl ?_
      obtain ⟨x45, hj46, hb24⟩ := bs hb24
      refine WL.cut 4 (fun fq wq => fq 3 = (Value.pointer (some ⟨b10, 0, none⟩)) ∧ fq 10 = v_r_Table ∧ fq 11 = (Value.int .i64 ((r_Table).length : Int)) ∧ fq 12 = (Value.int .i64 (k19 : Int)) ∧ fq 24 = Value.bool x45 ∧ St wd2 wq [bx b10 [(Value.int .i64 ((r_Table).length : Int))]]) ?_ ?_
      · rcases Bool.eq_false_or_eq_true (((x36).length : Int) != ((r_Table).length : Int)) with hc44 | hc44
        · replace hj46 := ip hj46 hc44
          refine WL.gskip rfl (bool_of rfl hc44) rfl ?_
          refine WL.gskip rfl (bool_of rfl hc44) rfl ?_
          refine WL.gskip rfl (bool_of rfl hc44) rfl ?_
          refine WL.val (Value.bool true) _ (op_pick_t (evb_of rfl hc44) rfl) rfl ?_
          refine WL.nil ?_
          obtain rfl := Option.some.inj hj46
          exact ⟨rfl, hf28, hf29, hf30, hf31, rfl, hS33⟩
        · replace hj46 := inegb hj46 hc44
          refine WL.grun rfl (bool_of rfl hc44) ?_
          refine WL.val u40 _ (op_move rfl) rfl ?_
          refine WL.grun rfl (bool_of rfl hc44) ?_
          refine WL.val (Value.func (.func 62) #[] #[(Value.pointer (some ⟨b10, 0, none⟩))]) _ (op_makeFunc (va := #[]) (vb := #[(Value.pointer (some ⟨b10, 0, none⟩))]) args0 (args1 hf28)) rfl ?_
          refine WL.grun rfl (bool_of rfl hc44) ?_
          obtain ⟨x54, hx55, hj46⟩ := bs hj46
          refine WL.call _ (op_call fn_61 (args2 rfl rfl)) (c_slices_ContainsFunc_LLint64_Lint64 (Ty.lift _ (Ext.trans hE7 hS33.ext) hr42) (⟨62, #[], #[(Value.pointer (some ⟨b10, 0, none⟩))], rfl, fn_62, fun wd50 u0_51 a0_51 r52 he51 ra0_51 hq53 => c_impl_isCube_c1 ra0_51 (BoxAt.lift he51 (St.boxAt hS33 0 rfl)) hr9 hq53⟩) hx55) rfl ?_
          rintro _ wd56 ⟨rfl, he57⟩
          have hS59 := St.extend hS33 he57
          replace hS59 : St wd2 wd56 [bx b10 [(Value.int .i64 ((r_Table).length : Int))]] := hS59
          refine WL.val (Value.bool x54) _ (op_pick_f (evb_of rfl hc44) rfl) rfl ?_
          refine WL.nil ?_
          obtain rfl := Option.some.inj hj46
          exact ⟨rfl, hf28, hf29, hf30, hf31, rfl, hS59⟩
      · intro f47 wd48 hq49
        obtain ⟨hf60, hf61, hf62, hf63, hf64, hS65⟩ := hq49
        refine WL.nil ?_
        refine W.cond x45 hf64 (fun hc66 => ?_) (fun hc66 => ?_)
        · replace hb24 := ip hb24 hc66
          refine W.seq (W.region ?_)
          refine WL.val (Value.bool false) _ (op_assign rfl) rfl ?_
          refine WL.nil ?_
          refine W.ret ?_
          obtain rfl := Option.some.inj hb24
          obtain rfl := hret27 _ rfl
          replace h := onRes_ret h
          obtain rfl := Option.some.inj h
          show FinP _ _ _ _ _ _ _
          exact FinP.ret _ (res1 rfl rfl) ⟨rfl, (Ext.trans hE7 hS65.ext)⟩
        · replace hb24 := inegb hb24 hc66
          refine W.skip ?_
          show W _ _ _ _ _ _
          refine W.region ?_
          refine WL.val (Value.int .i64 (w64 ((k19 : Int) + (1 : Int)))) _ (op_add hf63 rfl) rfl ?_
          refine WL.val (Value.int .i64 (w64 ((k19 : Int) + (1 : Int)))) _ (op_move rfl) rfl ?_
          refine WL.nil ?_
          obtain rfl := Option.some.inj hb24
          show ∃ s, _ = Ctl.next s ∧ _
          exact ⟨_, rfl, hf60, hf61, hf62, (ctr_next hl34 hr16), (ctr_rng hl34 hr16), hS65⟩
    · intro s73 f69 wd70 hs71 hI72
      obtain ⟨⟩ := s73
      replace hI72 : f69 3 = (Value.pointer (some ⟨b10, 0, none⟩)) ∧ f69 10 = v_r_Table ∧ f69 11 = (Value.int .i64 ((r_Table).length : Int)) ∧ f69 12 = Value.int .i64 (((r_Table).length : Nat) : Int) ∧ InR .i64 (((r_Table).length : Nat) : Int) ∧ St wd2 wd70 [bx b10 [(Value.int .i64 ((r_Table).length : Int))]] := hI72
      obtain ⟨hf74, hf75, hf76, hf77, hr78, hS79⟩ := hI72
      refine W.seq (W.region ?_)
      refine WL.val (Value.bool (decide ((((r_Table).length : Nat) : Int) < ((r_Table).length : Int)))) _ (op_lss hf77 hf76) rfl ?_
      have hl80 : ¬ (((r_Table).length : Nat) : Int) < ((r_Table).length : Int) := by omega
      refine WL.nil ?_
      refine W.seq ?_
      refine W.condF (decide ((((r_Table).length : Nat) : Int) < ((r_Table).length : Int))) rfl (decide_eq_false hl80) ?_
      refine W.exit ?_
      show _ = _ ∧ _
      exact ⟨rfl, _, hs71, hf74, hS79⟩
  · rintro f81 wd82 ⟨s84, rfl, hq83⟩
    replace h := onRes_fin h
    obtain ⟨⟩ := s84
    replace hq83 : f81 3 = (Value.pointer (some ⟨b10, 0, none⟩)) ∧ St wd2 wd82 [bx b10 [(Value.int .i64 ((r_Table).length : Int))]] := hq83
    obtain ⟨hf85, hS86⟩ := hq83
    refine W.seq (W.region ?_)
    refine WL.val (Value.int .i64 ((r_Table).length : Int)) _ (op_load one_3 hf85 (BoxAt.cell (St.boxAt hS86 0 rfl) rfl)) rfl ?_
    refine WL.val (Value.bool (decide (((r_Table).length : Int) ≥ (1 : Int)))) _ (op_geq rfl rfl) rfl ?_
    refine WL.val (Value.bool (decide (((r_Table).length : Int) ≥ (1 : Int)))) _ (op_move rfl) rfl ?_
    refine WL.cut 3 (fun fq wq => fq 31 = (Value.bool ((decide (((r_Table).length : Int) ≥ (1 : Int))) && (decide (((r_Table).length : Int) ≤ (16 : Int))))) ∧ St wd2 wq []) ?_ ?_
    · rcases Bool.eq_false_or_eq_true (decide (((r_Table).length : Int) ≥ (1 : Int))) with hc87 | hc87
      · refine WL.grun rfl (bool_of rfl hc87) ?_
        refine WL.val (Value.int .i64 ((r_Table).length : Int)) _ (op_load one_3 hf85 (BoxAt.cell (St.boxAt hS86 0 rfl) rfl)) rfl ?_
        refine WL.grun rfl (bool_of rfl hc87) ?_
        refine WL.val (Value.bool (decide (((r_Table).length : Int) ≤ (16 : Int)))) _ (op_leq rfl rfl) rfl ?_
        refine WL.val (Value.bool (decide (((r_Table).length : Int) ≤ (16 : Int)))) _ (op_pick_t (evb_of rfl hc87) rfl) rfl ?_
        refine WL.nil ?_
        exact ⟨rfl, (andT hc87), (St.pick hS86 [] rfl)⟩
      · refine WL.gskip rfl (bool_of rfl hc87) rfl ?_
        refine WL.gskip rfl (bool_of rfl hc87) rfl ?_
        refine WL.val (Value.bool false) _ (op_pick_f (evb_of rfl hc87) rfl) rfl ?_
        refine WL.nil ?_
        exact ⟨rfl, (andF hc87), (St.pick hS86 [] rfl)⟩
    · intro f88 wd89 hq90
      obtain ⟨hf91, hS92⟩ := hq90
      refine WL.val (Value.bool ((decide (((r_Table).length : Int) ≥ (1 : Int))) && (decide (((r_Table).length : Int) ≤ (16 : Int))))) _ (op_assign hf91) rfl ?_
      refine WL.nil ?_
      refine W.ret ?_
      obtain rfl := Option.some.inj h
      show FinP _ _ _ _ _ _ _
      exact FinP.ret _ (res1 rfl rfl) ⟨rfl, (Ext.trans hE7 hS92.ext)⟩

theorem c_impl_delta {w : World} {i : Int} {k1 : Int} (r_i : InR .i64 i) (r_k1 : InR .i64 k1) {res : Int} (h : p_impl_delta i k1  = some res) :
    Ret Try.prog 76 #[(Value.int .i64 i), (Value.int .i64 k1)] w (fun v w' => v = Value.int .i64 res ∧ InR .i64 res ∧ Ext w w') := by
  unfold p_impl_delta at h
  have hS0 : St w w [] := St.start w
  refine Ret.start (fn := Try.f76) Try.func76 rfl 8 rfl rfl ?_
  refine W.seq (W.region ?_)
  refine WL.val (Value.int .i64 (0 : Int)) _ (op_assign rfl) rfl ?_
  refine WL.nil ?_
  refine W.seq (W.seq (W.region ?_))
  refine WL.val (Value.int .i64 i) _ (op_move rfl) rfl ?_
  refine WL.val (Value.int .i64 k1) _ (op_move rfl) rfl ?_
  refine WL.val (Value.bool (i == k1)) _ (op_eql rfl rfl) rfl ?_
  refine WL.nil ?_
  refine W.cond (i == k1) rfl (fun hc1 => ?_) (fun hc1 => ?_)
  · replace h := ip h hc1
    refine W.seq (W.region ?_)
    refine WL.val (Value.int .i64 (1 : Int)) _ (op_assign rfl) rfl ?_
    refine WL.nil ?_
    refine W.ret ?_
    obtain rfl := Option.some.inj h
    show FinP _ _ _ _ _ _ _
    exact FinP.ret _ (res1 rfl rfl) ⟨rfl, (inL rfl), hS0.ext⟩
  · replace h := inegb h hc1
    refine W.skip ?_
    refine W.seq (W.region ?_)
    refine WL.val (Value.int .i64 (0 : Int)) _ (op_assign rfl) rfl ?_
    refine WL.nil ?_
    refine W.ret ?_
    obtain rfl := Option.some.inj h
    show FinP _ _ _ _ _ _ _
    exact FinP.ret _ (res1 rfl rfl) ⟨rfl, (inL rfl), hS0.ext⟩

theorem c_impl_Ring_unitFault {w : World} {r_Table : (List (List (List Int)))} {v_r_Table : Value} (r_r_Table : (Ty.sl (Ty.sl (Ty.sl (Ty.i .i64)))).rep w v_r_Table r_Table) {res : (List Int)} (h : p_impl_Ring_unitFault r_Table  = some res) :
    Ret Try.prog 64 #[(Value.agg #[v_r_Table])] w (fun v w' => ∃ (u0 : Value), v = u0 ∧ NilIff u0 res ∧ Ext w w' ∧ Sep w.heap.size w' [(Ty.sl (Ty.i .i64)).at u0 res]) := by
  unfold p_impl_Ring_unitFault at h
  have hS0 : St w w [] := St.start w
  refine Ret.start (fn := Try.f64) Try.func64 rfl 52 rfl rfl ?_
  refine W.seq (W.region ?_)
  refine WL.box hS0 rfl (cs := [v_r_Table]) rfl rfl ?_
  intro b1 wd2 hS3 he4 hx5
  replace hS3 : St w wd2 [bx b1 [v_r_Table]] := hS3
  have hx6 := St.boxAt hS3 0 rfl
  have hE7 : Ext w wd2 := hS3.ext
  have hS8 : St wd2 wd2 [] := St.start wd2
  refine WL.val (Value.slice none 0 0) _ (op_assign rfl) rfl ?_
  refine WL.nil ?_
  refine W.seq (W.seq (W.region ?_))
  refine WL.val (Value.pointer (some ⟨b1, 0, none⟩)) _ (op_fieldAddr fd_30_0 rfl) rfl ?_
  refine WL.val v_r_Table _ (op_load one_22 rfl (BoxAt.cell (BoxAt.lift hS8.ext hx6) rfl)) rfl ?_
  have hr9 := inR_len (Ty.lift _ (Ext.trans hE7 hS8.ext) r_r_Table)
  refine WL.val (Value.int .i64 ((r_Table).length : Int)) _ (op_lenL sl_22 (Ty.lift _ (Ext.trans hE7 hS8.ext) r_r_Table) rfl) rfl ?_
  refine WL.val (Value.int .i64 (0 : Int)) _ (op_move rfl) rfl ?_
  refine WL.nil ?_
  show W _ _ _ _ _ _
  obtain ⟨res10, hres11, h⟩ := bs h
  refine W.blockLoop (fun fq wq => ∃ s, res10 = Res.fin s ∧ St wd2 wq []) ?_ ?_
  · refine W.forN (fun k (s : Unit) fq wq => fq 1 = (Value.pointer (some ⟨b1, 0, none⟩)) ∧ fq 7 = (Value.int .i64 ((r_Table).length : Int)) ∧ fq 8 = Value.int .i64 (k : Int) ∧ InR .i64 (k : Int) ∧ St wd2 wq []) hres11 ⟨rfl, rfl, rfl, (inL rfl), hS8⟩ ?_ ?_
    · intro k12 s672 ct13 f14 wd15 hk16 hb17 hI18 hbrk19 hret20
      obtain ⟨⟩ := s672
      replace hI18 : f14 1 = (Value.pointer (some ⟨b1, 0, none⟩)) ∧ f14 7 = (Value.int .i64 ((r_Table).length : Int)) ∧ f14 8 = Value.int .i64 (k12 : Int) ∧ InR .i64 (k12 : Int) ∧ St wd2 wd15 [] := hI18
      replace hb17 : p_impl_Ring_unitFault_L1 r_Table k12  = some ct13 := hb17
      unfold p_impl_Ring_unitFault_L1 at hb17
      obtain ⟨hf21, hf22, hf23, hr24, hS25⟩ := hI18
      refine W.seq (W.region ?_)
      refine WL.val (Value.bool (decide ((k12 : Int) < ((r_Table).length : Int)))) _ (op_lss hf23 hf22) rfl ?_
      have hl26 : (k12 : Int) < ((r_Table).length : Int) := by omega
      refine WL.nil ?_
      refine W.seq ?_
      refine W.condT (decide ((k12 : Int) < ((r_Table).length : Int))) rfl (decide_eq_true hl26) ?_
      refine W.skip ?_
      refine W.seq ?_
      refine W.block ?_
      refine W.seq (W.region ?_)
      refine WL.val (Value.int .i64 (k12 : Int)) _ (op_move hf23) rfl ?_
      refine WL.val (Value.int .i64 (k12 : Int)) _ (op_assign rfl) rfl ?_
      refine WL.nil ?_
      refine W.seq (W.region ?_)
      refine WL.val (Value.pointer (some ⟨b1, 0, none⟩)) _ (op_fieldAddr fd_30_0 hf21) rfl ?_
      refine WL.val v_r_Table _ (op_load one_22 rfl (BoxAt.cell (BoxAt.lift hS25.ext hx6) rfl)) rfl ?_
      have hr28 := inR_len (Ty.lift _ (Ext.trans hE7 hS25.ext) r_r_Table)
      refine WL.val (Value.int .i64 ((r_Table).length : Int)) _ (op_lenL sl_22 (Ty.lift _ (Ext.trans hE7 hS25.ext) r_r_Table) rfl) rfl ?_
      refine WL.val (Value.int .i64 (0 : Int)) _ (op_move rfl) rfl ?_
      refine WL.nil ?_
      show W _ _ _ _ _ _
      obtain ⟨res29, hres30, hb17⟩ := bs hb17
      refine W.blockLoop (fun fq wq => ∃ s, res29 = Res.fin s ∧ fq 1 = (Value.pointer (some ⟨b1, 0, none⟩)) ∧ fq 7 = (Value.int .i64 ((r_Table).length : Int)) ∧ fq 8 = (Value.int .i64 (k12 : Int)) ∧ St wd2 wq []) ?_ ?_
      · refine W.forN (fun k (s : Unit) fq wq => fq 1 = (Value.pointer (some ⟨b1, 0, none⟩)) ∧ fq 3 = (Value.int .i64 (k12 : Int)) ∧ fq 7 = (Value.int .i64 ((r_Table).length : Int)) ∧ fq 8 = (Value.int .i64 (k12 : Int)) ∧ fq 13 = (Value.int .i64 ((r_Table).length : Int)) ∧ fq 14 = Value.int .i64 (k : Int) ∧ InR .i64 (k : Int) ∧ St wd2 wq []) hres30 ⟨hf21, rfl, hf22, hf23, rfl, rfl, (inL rfl), hS25⟩ ?_ ?_
        · intro k31 s648 ct32 f33 wd34 hk35 hb36 hI37 hbrk38 hret39
          obtain ⟨⟩ := s648
          replace hI37 : f33 1 = (Value.pointer (some ⟨b1, 0, none⟩)) ∧ f33 3 = (Value.int .i64 (k12 : Int)) ∧ f33 7 = (Value.int .i64 ((r_Table).length : Int)) ∧ f33 8 = (Value.int .i64 (k12 : Int)) ∧ f33 13 = (Value.int .i64 ((r_Table).length : Int)) ∧ f33 14 = Value.int .i64 (k31 : Int) ∧ InR .i64 (k31 : Int) ∧ St wd2 wd34 [] := hI37
          replace hb36 : p_impl_Ring_unitFault_L2 r_Table k12 k31  = some ct32 := hb36
          unfold p_impl_Ring_unitFault_L2 at hb36
          obtain ⟨hf40, hf41, hf42, hf43, hf44, hf45, hr46, hS47⟩ := hI37
          refine W.seq (W.region ?_)
          refine WL.val (Value.bool (decide ((k31 : Int) < ((r_Table).length : Int)))) _ (op_lss hf45 hf44) rfl ?_
          have hl48 : (k31 : Int) < ((r_Table).length : Int) := by omega
          refine WL.nil ?_
          refine W.seq ?_
          refine W.condT (decide ((k31 : Int) < ((r_Table).length : Int))) rfl (decide_eq_true hl48) ?_
          refine W.skip ?_
          refine W.seq ?_
          refine W.block ?_
          refine W.seq (W.region ?_)
          refine WL.val (Value.int .i64 (k31 : Int)) _ (op_move hf45) rfl ?_
          refine WL.val (Value.int .i64 (k31 : Int)) _ (op_assign rfl) rfl ?_
          refine WL.nil ?_
          refine W.seq ?_
          obtain ⟨x77, hx80, hb36⟩ := bs hb36
          obtain ⟨ha78, hb79, hx80⟩ := idx_some hx80
          obtain ⟨u91, hc92, hr93⟩ := repSl.el r_r_Table hx80
          obtain ⟨x116, hx119, hb36⟩ := bs hb36
          obtain ⟨ha117, hb118, hx119⟩ := idx_some hx119
          obtain ⟨u130, hc131, hr132⟩ := repSl.el hr93 hx119
          obtain ⟨x155, hx158, hb36⟩ := bs hb36
          obtain ⟨ha156, hb157, hx158⟩ := idx_some hx158
          obtain ⟨u169, hc170, hr171⟩ := repSl.el hr132 hx158
          obtain ⟨rfl, hr171⟩ := hr171
          obtain ⟨x202, hx203, hb36⟩ := bs hb36
          obtain ⟨x234, hj235, hb36⟩ := bs hb36
          refine W.cutCode (fun fq wq => fq 1 = (Value.pointer (some ⟨b1, 0, none⟩)) ∧ fq 3 = (Value.int .i64 (k12 : Int)) ∧ fq 4 = (Value.int .i64 (k31 : Int)) ∧ fq 7 = (Value.int .i64 ((r_Table).length : Int)) ∧ fq 8 = (Value.int .i64 (k12 : Int)) ∧ fq 13 = (Value.int .i64 ((r_Table).length : Int)) ∧ fq 14 = (Value.int .i64 (k31 : Int)) ∧ fq 46 = Value.bool x234 ∧ St wd2 wq []) ?_ ?_
          · rcases Bool.eq_false_or_eq_true (x155 != x202) with hc236 | hc236
            · replace hj235 := ip hj235 hc236
              refine W.drawR mixo 28 [] [fun _ v _ _ => v = (Value.pointer (some ⟨b1, 0, none⟩)), fun _ v _ _ => v = v_r_Table, fun _ v _ _ => v = (Value.pointer (some (elA v_r_Table ((0 : Int)).toNat))), fun _ v _ _ => v = u91, fun _ v _ _ => v = (Value.int .i64 (k12 : Int)) ∧ InR .i64 (k12 : Int), fun _ v _ _ => v = (Value.pointer (some (elA u91 ((k12 : Int)).toNat))), fun _ v _ _ => v = u130, fun _ v _ _ => v = (Value.int .i64 (k31 : Int)) ∧ InR .i64 (k31 : Int), fun _ v _ _ => v = (Value.pointer (some (elA u130 ((k31 : Int)).toNat))), fun _ v _ _ => v = (Value.int .i64 x155) ∧ InR .i64 x155, fun _ v _ _ => v = (Value.int .i64 (k12 : Int)) ∧ InR .i64 (k12 : Int), fun _ v _ _ => v = (Value.int .i64 (k31 : Int)) ∧ InR .i64 (k31 : Int), fun _ v _ _ => v = (Value.int .i64 x202) ∧ InR .i64 x202, fun _ v _ _ => v = (Value.bool (x155 != x202)), fun _ v _ _ => v = (Value.bool (x155 != x202)), fun _ v _ _ => v = undef, fun _ v _ _ => v = undef, fun _ v _ _ => v = undef, fun _ v _ _ => v = undef, fun _ v _ _ => v = undef, fun _ v _ _ => v = undef, fun _ v _ _ => v = undef, fun _ v _ _ => v = undef, fun _ v _ _ => v = undef, fun _ v _ _ => v = undef, fun _ v _ _ => v = undef, fun _ v _ _ => v = undef, fun _ v _ _ => v = undef] (by kernel_rfl) (by kernel_rfl) ⟨pk, pk, pk, pk, pk, pk, pk, pk, pk, pk, pk, pk, pk, pk, pk, pk, pk, pk, pk, pk, pk, pk, pk, pk, pk, pk, pk, pk, trivial⟩ ⟨?_, ?_, ?_, ?_, ?_, ?_, ?_, ?_, ?_, ?_, ?_, ?_, ?_, ?_, ?_, ?_, ?_, ?_, ?_, ?_, ?_, ?_, ?_, ?_, ?_, ?_, ?_, ?_, trivial⟩ ?_
              · refine ObX.op rfl fun f50 wd51 he52 hout53 hphi54 => ?_
                have hS55 := St.extend hS47 he52
                have e56 : f50 1 = (Value.pointer (some ⟨b1, 0, none⟩)) := (hout53 1 rfl).trans hf40
                exact OpX.val (Value.pointer (some ⟨b1, 0, none⟩)) wd51 rfl (op_fieldAddr fd_30_0 e56) (Ext.refl _) rfl
              · refine ObX.op rfl fun f57 wd58 he59 hout60 hphi61 => ?_
                have hS62 := St.extend hS47 he59
                obtain ⟨S63, hS64, hf65⟩ := hphi61 0 17 _ rfl rfl rfl
                have e66 : f57 17 = (Value.pointer (some ⟨b1, 0, none⟩)) := hf65
                exact OpX.val v_r_Table wd58 rfl (op_load one_22 e66 (BoxAt.cell (BoxAt.lift hS62.ext hx6) rfl)) (Ext.refl _) rfl
              · refine ObX.op rfl fun f67 wd68 he69 hout70 hphi71 => ?_
                have hS72 := St.extend hS47 he69
                obtain ⟨S73, hS74, hf75⟩ := hphi71 1 18 _ rfl rfl rfl
                have e76 : f67 18 = v_r_Table := hf75
                exact OpX.val (Value.pointer (some (elA v_r_Table ((0 : Int)).toNat))) wd68 rfl (op_idx sl_22 (Ty.lift _ (Ext.trans hE7 hS72.ext) r_r_Table) e76 rfl ha78 hb79) (Ext.refl _) rfl
              · refine ObX.op rfl fun f81 wd82 he83 hout84 hphi85 => ?_
                have hS86 := St.extend hS47 he83
                obtain ⟨S87, hS88, hf89⟩ := hphi85 2 19 _ rfl rfl rfl
                have e90 : f81 19 = (Value.pointer (some (elA v_r_Table ((0 : Int)).toNat))) := hf89
                exact OpX.val u91 wd82 rfl (op_load one_25 e90 (Ext.cell (Ext.trans hE7 hS86.ext) hc92)) (Ext.refl _) rfl
              · refine ObX.op rfl fun f94 wd95 he96 hout97 hphi98 => ?_
                have hS99 := St.extend hS47 he96
                have e100 : f94 3 = (Value.int .i64 (k12 : Int)) := (hout97 3 rfl).trans hf41
                exact OpX.val (Value.int .i64 (k12 : Int)) wd95 rfl (op_move e100) (Ext.refl _) ⟨rfl, hr24⟩
              · refine ObX.op rfl fun f101 wd102 he103 hout104 hphi105 => ?_
                have hS106 := St.extend hS47 he103
                obtain ⟨S107, hS108, hf109⟩ := hphi105 3 20 _ rfl rfl rfl
                have e110 : f101 20 = u91 := hf109
                obtain ⟨S111, hS112, hf113⟩ := hphi105 4 21 _ rfl rfl rfl
                obtain ⟨e114, hr115⟩ := hf113
                exact OpX.val (Value.pointer (some (elA u91 ((k12 : Int)).toNat))) wd102 rfl (op_idx sl_25 (Ty.lift _ (Ext.trans hE7 hS106.ext) hr93) e110 e114 ha117 hb118) (Ext.refl _) rfl
              · refine ObX.op rfl fun f120 wd121 he122 hout123 hphi124 => ?_
                have hS125 := St.extend hS47 he122
                obtain ⟨S126, hS127, hf128⟩ := hphi124 5 22 _ rfl rfl rfl
                have e129 : f120 22 = (Value.pointer (some (elA u91 ((k12 : Int)).toNat))) := hf128
                exact OpX.val u130 wd121 rfl (op_load one_36 e129 (Ext.cell (Ext.trans hE7 hS125.ext) hc131)) (Ext.refl _) rfl
              · refine ObX.op rfl fun f133 wd134 he135 hout136 hphi137 => ?_
                have hS138 := St.extend hS47 he135
                have e139 : f133 4 = (Value.int .i64 (k31 : Int)) := (hout136 4 rfl).trans rfl
                exact OpX.val (Value.int .i64 (k31 : Int)) wd134 rfl (op_move e139) (Ext.refl _) ⟨rfl, hr46⟩
              · refine ObX.op rfl fun f140 wd141 he142 hout143 hphi144 => ?_
                have hS145 := St.extend hS47 he142
                obtain ⟨S146, hS147, hf148⟩ := hphi144 6 23 _ rfl rfl rfl
                have e149 : f140 23 = u130 := hf148
                obtain ⟨S150, hS151, hf152⟩ := hphi144 7 24 _ rfl rfl rfl
                obtain ⟨e153, hr154⟩ := hf152
                exact OpX.val (Value.pointer (some (elA u130 ((k31 : Int)).toNat))) wd141 rfl (op_idx sl_36 (Ty.lift _ (Ext.trans hE7 hS145.ext) hr132) e149 e153 ha156 hb157) (Ext.refl _) rfl
              · refine ObX.op rfl fun f159 wd160 he161 hout162 hphi163 => ?_
                have hS164 := St.extend hS47 he161
                obtain ⟨S165, hS166, hf167⟩ := hphi163 8 25 _ rfl rfl rfl
                have e168 : f159 25 = (Value.pointer (some (elA u130 ((k31 : Int)).toNat))) := hf167
                exact OpX.val (Value.int .i64 x155) wd160 rfl (op_load one_2 e168 (Ext.cell (Ext.trans hE7 hS164.ext) hc170)) (Ext.refl _) ⟨rfl, hr171⟩
              · refine ObX.op rfl fun f172 wd173 he174 hout175 hphi176 => ?_
                have hS177 := St.extend hS47 he174
                have e178 : f172 3 = (Value.int .i64 (k12 : Int)) := (hout175 3 rfl).trans hf41
                exact OpX.val (Value.int .i64 (k12 : Int)) wd173 rfl (op_move e178) (Ext.refl _) ⟨rfl, hr24⟩
              · refine ObX.op rfl fun f179 wd180 he181 hout182 hphi183 => ?_
                have hS184 := St.extend hS47 he181
                have e185 : f179 4 = (Value.int .i64 (k31 : Int)) := (hout182 4 rfl).trans rfl
                exact OpX.val (Value.int .i64 (k31 : Int)) wd180 rfl (op_move e185) (Ext.refl _) ⟨rfl, hr46⟩
              · refine ObX.op rfl fun f186 wd187 he188 hout189 hphi190 => ?_
                have hS191 := St.extend hS47 he188
                obtain ⟨S192, hS193, hf194⟩ := hphi190 10 27 _ rfl rfl rfl
                obtain ⟨e195, hr196⟩ := hf194
                obtain ⟨S197, hS198, hf199⟩ := hphi190 11 28 _ rfl rfl rfl
                obtain ⟨e200, hr201⟩ := hf199
                refine OpX.call rfl (op_call fn_76 (args2 e195 e200)) (Ret.mono (c_impl_delta hr196 hr201 hx203) ?_)
                rintro _ wd205 ⟨rfl, hr204, he206⟩
                exact ⟨he206, _, noS _ _, ⟨rfl, hr204⟩⟩
              · refine ObX.op rfl fun f208 wd209 he210 hout211 hphi212 => ?_
                have hS213 := St.extend hS47 he210
                obtain ⟨S214, hS215, hf216⟩ := hphi212 9 26 _ rfl rfl rfl
                obtain ⟨e217, hr218⟩ := hf216
                obtain ⟨S219, hS220, hf221⟩ := hphi212 12 29 _ rfl rfl rfl
                obtain ⟨e222, hr223⟩ := hf221
                exact OpX.val (Value.bool (x155 != x202)) wd209 rfl (op_neq e217 e222) (Ext.refl _) rfl
              · refine ObX.op rfl fun f224 wd225 he226 hout227 hphi228 => ?_
                have hS229 := St.extend hS47 he226
                obtain ⟨S230, hS231, hf232⟩ := hphi228 13 30 _ rfl rfl rfl
                have e233 : f224 30 = (Value.bool (x155 != x202)) := hf232
                exact OpX.val (Value.bool (x155 != x202)) wd225 rfl (op_move e233) (Ext.refl _) rfl
              · refine ObX.op rfl fun f237 wd238 he239 hout240 hphi241 => ?_
                obtain ⟨S242, hS243, hf244⟩ := hphi241 14 31 _ rfl rfl rfl
                have e245 : f237 31 = (Value.bool (x155 != x202)) := hf244
                exact OpX.skip (wanted_skip rfl rfl e245 hc236) rfl
              · refine ObX.op rfl fun f246 wd247 he248 hout249 hphi250 => ?_
                obtain ⟨S251, hS252, hf253⟩ := hphi250 14 31 _ rfl rfl rfl
                have e254 : f246 31 = (Value.bool (x155 != x202)) := hf253
                exact OpX.skip (wanted_skip rfl rfl e254 hc236) rfl
              · refine ObX.op rfl fun f255 wd256 he257 hout258 hphi259 => ?_
                obtain ⟨S260, hS261, hf262⟩ := hphi259 14 31 _ rfl rfl rfl
                have e263 : f255 31 = (Value.bool (x155 != x202)) := hf262
                exact OpX.skip (wanted_skip rfl rfl e263 hc236) rfl
              · refine ObX.op rfl fun f264 wd265 he266 hout267 hphi268 => ?_
                obtain ⟨S269, hS270, hf271⟩ := hphi268 14 31 _ rfl rfl rfl
                have e272 : f264 31 = (Value.bool (x155 != x202)) := hf271
                exact OpX.skip (wanted_skip rfl rfl e272 hc236) rfl
              · refine ObX.op rfl fun f273 wd274 he275 hout276 hphi277 => ?_
                obtain ⟨S278, hS279, hf280⟩ := hphi277 14 31 _ rfl rfl rfl
                have e281 : f273 31 = (Value.bool (x155 != x202)) := hf280
                exact OpX.skip (wanted_skip rfl rfl e281 hc236) rfl
              · refine ObX.op rfl fun f282 wd283 he284 hout285 hphi286 => ?_
                obtain ⟨S287, hS288, hf289⟩ := hphi286 14 31 _ rfl rfl rfl
                have e290 : f282 31 = (Value.bool (x155 != x202)) := hf289
                exact OpX.skip (wanted_skip rfl rfl e290 hc236) rfl
              · refine ObX.op rfl fun f291 wd292 he293 hout294 hphi295 => ?_
                obtain ⟨S296, hS297, hf298⟩ := hphi295 14 31 _ rfl rfl rfl
                have e299 : f291 31 = (Value.bool (x155 != x202)) := hf298
                exact OpX.skip (wanted_skip rfl rfl e299 hc236) rfl
              · refine ObX.op rfl fun f300 wd301 he302 hout303 hphi304 => ?_
                obtain ⟨S305, hS306, hf307⟩ := hphi304 14 31 _ rfl rfl rfl
                have e308 : f300 31 = (Value.bool (x155 != x202)) := hf307
                exact OpX.skip (wanted_skip rfl rfl e308 hc236) rfl
              · refine ObX.op rfl fun f309 wd310 he311 hout312 hphi313 => ?_
                obtain ⟨S314, hS315, hf316⟩ := hphi313 14 31 _ rfl rfl rfl
                have e317 : f309 31 = (Value.bool (x155 != x202)) := hf316
                exact OpX.skip (wanted_skip rfl rfl e317 hc236) rfl
              · refine ObX.op rfl fun f318 wd319 he320 hout321 hphi322 => ?_
                obtain ⟨S323, hS324, hf325⟩ := hphi322 14 31 _ rfl rfl rfl
                have e326 : f318 31 = (Value.bool (x155 != x202)) := hf325
                exact OpX.skip (wanted_skip rfl rfl e326 hc236) rfl
              · refine ObX.op rfl fun f327 wd328 he329 hout330 hphi331 => ?_
                obtain ⟨S332, hS333, hf334⟩ := hphi331 14 31 _ rfl rfl rfl
                have e335 : f327 31 = (Value.bool (x155 != x202)) := hf334
                exact OpX.skip (wanted_skip rfl rfl e335 hc236) rfl
              · refine ObX.op rfl fun f336 wd337 he338 hout339 hphi340 => ?_
                obtain ⟨S341, hS342, hf343⟩ := hphi340 14 31 _ rfl rfl rfl
                have e344 : f336 31 = (Value.bool (x155 != x202)) := hf343
                exact OpX.skip (wanted_skip rfl rfl e344 hc236) rfl
              · refine ObX.op rfl fun f345 wd346 he347 hout348 hphi349 => ?_
                obtain ⟨S350, hS351, hf352⟩ := hphi349 14 31 _ rfl rfl rfl
                have e353 : f345 31 = (Value.bool (x155 != x202)) := hf352
                exact OpX.skip (wanted_skip rfl rfl e353 hc236) rfl
              · intro f354 wd355 Ss356 he357 hout358 hSn359 hSd360 hphi361
                show WL _ _ _ _ _ _ _
                have hS362 := St.extend hS47 he357
                have e363 : f354 31 = (Value.bool (x155 != x202)) := hphi361 14 31 _ (by decide) rfl rfl
                have e377 : f354 1 = (Value.pointer (some ⟨b1, 0, none⟩)) := (hout358 1 rfl).trans hf40
                have e378 : f354 3 = (Value.int .i64 (k12 : Int)) := (hout358 3 rfl).trans hf41
                have e379 : f354 4 = (Value.int .i64 (k31 : Int)) := (hout358 4 rfl).trans rfl
                have e380 : f354 7 = (Value.int .i64 ((r_Table).length : Int)) := (hout358 7 rfl).trans hf42
                have e381 : f354 8 = (Value.int .i64 (k12 : Int)) := (hout358 8 rfl).trans hf43
                have e382 : f354 13 = (Value.int .i64 ((r_Table).length : Int)) := (hout358 13 rfl).trans hf44
                have e383 : f354 14 = (Value.int .i64 (k31 : Int)) := (hout358 14 rfl).trans hf45
                refine WL.gskip rfl (bool_of e363 hc236) rfl ?_
                refine WL.val (Value.bool true) _ (op_pick_t (evb_of e363 hc236) rfl) rfl ?_
                refine WL.nil ?_
                obtain rfl := Option.some.inj hj235
                exact ⟨e377, e378, e379, e380, e381, e382, e383, rfl, hS362⟩
            · replace hj235 := inegb hj235 hc236
              obtain ⟨x439, hx442, hj235⟩ := bs hj235
              obtain ⟨ha440, hb441, hx442⟩ := idx_some hx442
              obtain ⟨u457, hc458, hr459⟩ := repSl.el r_r_Table hx442
              obtain ⟨x474, hx477, hj235⟩ := bs hj235
              obtain ⟨ha475, hb476, hx477⟩ := idx_some hx477
              obtain ⟨u492, hc493, hr494⟩ := repSl.el hr459 hx477
              obtain ⟨x525, hx528, hj235⟩ := bs hj235
              obtain ⟨ha526, hb527, hx528⟩ := idx_some hx528
              obtain ⟨u543, hc544, hr545⟩ := repSl.el hr494 hx528
              obtain ⟨rfl, hr545⟩ := hr545
              obtain ⟨x588, hx589, hj235⟩ := bs hj235
              refine W.drawR mixo 28 [] [fun _ v _ _ => v = (Value.pointer (some ⟨b1, 0, none⟩)), fun _ v _ _ => v = v_r_Table, fun _ v _ _ => v = (Value.pointer (some (elA v_r_Table ((0 : Int)).toNat))), fun _ v _ _ => v = u91, fun _ v _ _ => v = (Value.int .i64 (k12 : Int)) ∧ InR .i64 (k12 : Int), fun _ v _ _ => v = (Value.pointer (some (elA u91 ((k12 : Int)).toNat))), fun _ v _ _ => v = u130, fun _ v _ _ => v = (Value.int .i64 (k31 : Int)) ∧ InR .i64 (k31 : Int), fun _ v _ _ => v = (Value.pointer (some (elA u130 ((k31 : Int)).toNat))), fun _ v _ _ => v = (Value.int .i64 x155) ∧ InR .i64 x155, fun _ v _ _ => v = (Value.int .i64 (k12 : Int)) ∧ InR .i64 (k12 : Int), fun _ v _ _ => v = (Value.int .i64 (k31 : Int)) ∧ InR .i64 (k31 : Int), fun _ v _ _ => v = (Value.int .i64 x202) ∧ InR .i64 x202, fun _ v _ _ => v = (Value.bool (x155 != x202)), fun _ v _ _ => v = (Value.bool (x155 != x202)), fun _ v _ _ => v = (Value.pointer (some ⟨b1, 0, none⟩)), fun _ v _ _ => v = v_r_Table, fun _ v _ _ => v = (Value.int .i64 (k12 : Int)) ∧ InR .i64 (k12 : Int), fun _ v _ _ => v = (Value.pointer (some (elA v_r_Table ((k12 : Int)).toNat))), fun _ v _ _ => v = u457, fun _ v _ _ => v = (Value.pointer (some (elA u457 ((0 : Int)).toNat))), fun _ v _ _ => v = u492, fun _ v _ _ => v = (Value.int .i64 (k31 : Int)) ∧ InR .i64 (k31 : Int), fun _ v _ _ => v = (Value.pointer (some (elA u492 ((k31 : Int)).toNat))), fun _ v _ _ => v = (Value.int .i64 x525) ∧ InR .i64 x525, fun _ v _ _ => v = (Value.int .i64 (k12 : Int)) ∧ InR .i64 (k12 : Int), fun _ v _ _ => v = (Value.int .i64 (k31 : Int)) ∧ InR .i64 (k31 : Int), fun _ v _ _ => v = (Value.int .i64 x588) ∧ InR .i64 x588] (by kernel_rfl) (by kernel_rfl) ⟨pk, pk, pk, pk, pk, pk, pk, pk, pk, pk, pk, pk, pk, pk, pk, pk, pk, pk, pk, pk, pk, pk, pk, pk, pk, pk, pk, pk, trivial⟩ ⟨?_, ?_, ?_, ?_, ?_, ?_, ?_, ?_, ?_, ?_, ?_, ?_, ?_, ?_, ?_, ?_, ?_, ?_, ?_, ?_, ?_, ?_, ?_, ?_, ?_, ?_, ?_, ?_, trivial⟩ ?_
              · refine ObX.op rfl fun f50 wd51 he52 hout53 hphi54 => ?_
                have hS55 := St.extend hS47 he52
                have e56 : f50 1 = (Value.pointer (some ⟨b1, 0, none⟩)) := (hout53 1 rfl).trans hf40
                exact OpX.val (Value.pointer (some ⟨b1, 0, none⟩)) wd51 rfl (op_fieldAddr fd_30_0 e56) (Ext.refl _) rfl
              · refine ObX.op rfl fun f57 wd58 he59 hout60 hphi61 => ?_
                have hS62 := St.extend hS47 he59
                obtain ⟨S63, hS64, hf65⟩ := hphi61 0 17 _ rfl rfl rfl
                have e66 : f57 17 = (Value.pointer (some ⟨b1, 0, none⟩)) := hf65
                exact OpX.val v_r_Table wd58 rfl (op_load one_22 e66 (BoxAt.cell (BoxAt.lift hS62.ext hx6) rfl)) (Ext.refl _) rfl
              · refine ObX.op rfl fun f67 wd68 he69 hout70 hphi71 => ?_
                have hS72 := St.extend hS47 he69
                obtain ⟨S73, hS74, hf75⟩ := hphi71 1 18 _ rfl rfl rfl
                have e76 : f67 18 = v_r_Table := hf75
                exact OpX.val (Value.pointer (some (elA v_r_Table ((0 : Int)).toNat))) wd68 rfl (op_idx sl_22 (Ty.lift _ (Ext.trans hE7 hS72.ext) r_r_Table) e76 rfl ha78 hb79) (Ext.refl _) rfl
              · refine ObX.op rfl fun f81 wd82 he83 hout84 hphi85 => ?_
                have hS86 := St.extend hS47 he83
                obtain ⟨S87, hS88, hf89⟩ := hphi85 2 19 _ rfl rfl rfl
                have e90 : f81 19 = (Value.pointer (some (elA v_r_Table ((0 : Int)).toNat))) := hf89
                exact OpX.val u91 wd82 rfl (op_load one_25 e90 (Ext.cell (Ext.trans hE7 hS86.ext) hc92)) (Ext.refl _) rfl
              · refine ObX.op rfl fun f94 wd95 he96 hout97 hphi98 => ?_
                have hS99 := St.extend hS47 he96
                have e100 : f94 3 = (Value.int .i64 (k12 : Int)) := (hout97 3 rfl).trans hf41
                exact OpX.val (Value.int .i64 (k12 : Int)) wd95 rfl (op_move e100) (Ext.refl _) ⟨rfl, hr24⟩
              · refine ObX.op rfl fun f101 wd102 he103 hout104 hphi105 => ?_
                have hS106 := St.extend hS47 he103
                obtain ⟨S107, hS108, hf109⟩ := hphi105 3 20 _ rfl rfl rfl
                have e110 : f101 20 = u91 := hf109
                obtain ⟨S111, hS112, hf113⟩ := hphi105 4 21 _ rfl rfl rfl
                obtain ⟨e114, hr115⟩ := hf113
                exact OpX.val (Value.pointer (some (elA u91 ((k12 : Int)).toNat))) wd102 rfl (op_idx sl_25 (Ty.lift _ (Ext.trans hE7 hS106.ext) hr93) e110 e114 ha117 hb118) (Ext.refl _) rfl
              · refine ObX.op rfl fun f120 wd121 he122 hout123 hphi124 => ?_
                have hS125 := St.extend hS47 he122
                obtain ⟨S126, hS127, hf128⟩ := hphi124 5 22 _ rfl rfl rfl
                have e129 : f120 22 = (Value.pointer (some (elA u91 ((k12 : Int)).toNat))) := hf128
                exact OpX.val u130 wd121 rfl (op_load one_36 e129 (Ext.cell (Ext.trans hE7 hS125.ext) hc131)) (Ext.refl _) rfl
              · refine ObX.op rfl fun f133 wd134 he135 hout136 hphi137 => ?_
                have hS138 := St.extend hS47 he135
                have e139 : f133 4 = (Value.int .i64 (k31 : Int)) := (hout136 4 rfl).trans rfl
                exact OpX.val (Value.int .i64 (k31 : Int)) wd134 rfl (op_move e139) (Ext.refl _) ⟨rfl, hr46⟩
              · refine ObX.op rfl fun f140 wd141 he142 hout143 hphi144 => ?_
                have hS145 := St.extend hS47 he142
                obtain ⟨S146, hS147, hf148⟩ := hphi144 6 23 _ rfl rfl rfl
                have e149 : f140 23 = u130 := hf148
                obtain ⟨S150, hS151, hf152⟩ := hphi144 7 24 _ rfl rfl rfl
                obtain ⟨e153, hr154⟩ := hf152
                exact OpX.val (Value.pointer (some (elA u130 ((k31 : Int)).toNat))) wd141 rfl (op_idx sl_36 (Ty.lift _ (Ext.trans hE7 hS145.ext) hr132) e149 e153 ha156 hb157) (Ext.refl _) rfl
              · refine ObX.op rfl fun f159 wd160 he161 hout162 hphi163 => ?_
                have hS164 := St.extend hS47 he161
                obtain ⟨S165, hS166, hf167⟩ := hphi163 8 25 _ rfl rfl rfl
                have e168 : f159 25 = (Value.pointer (some (elA u130 ((k31 : Int)).toNat))) := hf167
                exact OpX.val (Value.int .i64 x155) wd160 rfl (op_load one_2 e168 (Ext.cell (Ext.trans hE7 hS164.ext) hc170)) (Ext.refl _) ⟨rfl, hr171⟩
              · refine ObX.op rfl fun f172 wd173 he174 hout175 hphi176 => ?_
                have hS177 := St.extend hS47 he174
                have e178 : f172 3 = (Value.int .i64 (k12 : Int)) := (hout175 3 rfl).trans hf41
                exact OpX.val (Value.int .i64 (k12 : Int)) wd173 rfl (op_move e178) (Ext.refl _) ⟨rfl, hr24⟩
              · refine ObX.op rfl fun f179 wd180 he181 hout182 hphi183 => ?_
                have hS184 := St.extend hS47 he181
                have e185 : f179 4 = (Value.int .i64 (k31 : Int)) := (hout182 4 rfl).trans rfl
                exact OpX.val (Value.int .i64 (k31 : Int)) wd180 rfl (op_move e185) (Ext.refl _) ⟨rfl, hr46⟩
              · refine ObX.op rfl fun f186 wd187 he188 hout189 hphi190 => ?_
                have hS191 := St.extend hS47 he188
                obtain ⟨S192, hS193, hf194⟩ := hphi190 10 27 _ rfl rfl rfl
                obtain ⟨e195, hr196⟩ := hf194
                obtain ⟨S197, hS198, hf199⟩ := hphi190 11 28 _ rfl rfl rfl
                obtain ⟨e200, hr201⟩ := hf199
                refine OpX.call rfl (op_call fn_76 (args2 e195 e200)) (Ret.mono (c_impl_delta hr196 hr201 hx203) ?_)
                rintro _ wd205 ⟨rfl, hr204, he206⟩
                exact ⟨he206, _, noS _ _, ⟨rfl, hr204⟩⟩
              · refine ObX.op rfl fun f208 wd209 he210 hout211 hphi212 => ?_
                have hS213 := St.extend hS47 he210
                obtain ⟨S214, hS215, hf216⟩ := hphi212 9 26 _ rfl rfl rfl
                obtain ⟨e217, hr218⟩ := hf216
                obtain ⟨S219, hS220, hf221⟩ := hphi212 12 29 _ rfl rfl rfl
                obtain ⟨e222, hr223⟩ := hf221
                exact OpX.val (Value.bool (x155 != x202)) wd209 rfl (op_neq e217 e222) (Ext.refl _) rfl
              · refine ObX.op rfl fun f224 wd225 he226 hout227 hphi228 => ?_
                have hS229 := St.extend hS47 he226
                obtain ⟨S230, hS231, hf232⟩ := hphi228 13 30 _ rfl rfl rfl
                have e233 : f224 30 = (Value.bool (x155 != x202)) := hf232
                exact OpX.val (Value.bool (x155 != x202)) wd225 rfl (op_move e233) (Ext.refl _) rfl
              · refine ObX.op rfl fun f384 wd385 he386 hout387 hphi388 => ?_
                have e390 : f384 1 = (Value.pointer (some ⟨b1, 0, none⟩)) := (hout387 1 rfl).trans hf40
                obtain ⟨S391, hS392, hf393⟩ := hphi388 14 31 _ rfl rfl rfl
                have e394 : f384 31 = (Value.bool (x155 != x202)) := hf393
                exact OpX.val (Value.pointer (some ⟨b1, 0, none⟩)) wd385 (wanted_run rfl rfl e394 hc236) (op_fieldAddr fd_30_0 e390) (Ext.refl _) rfl
              · refine ObX.op rfl fun f395 wd396 he397 hout398 hphi399 => ?_
                have hS400 := St.extend hS47 he397
                obtain ⟨S401, hS402, hf403⟩ := hphi399 14 31 _ rfl rfl rfl
                have e404 : f395 31 = (Value.bool (x155 != x202)) := hf403
                obtain ⟨S405, hS406, hf407⟩ := hphi399 15 32 _ rfl rfl rfl
                have e408 : f395 32 = (Value.pointer (some ⟨b1, 0, none⟩)) := hf407
                exact OpX.val v_r_Table wd396 (wanted_run rfl rfl e404 hc236) (op_load one_22 e408 (BoxAt.cell (BoxAt.lift hS400.ext hx6) rfl)) (Ext.refl _) rfl
              · refine ObX.op rfl fun f409 wd410 he411 hout412 hphi413 => ?_
                have e415 : f409 3 = (Value.int .i64 (k12 : Int)) := (hout412 3 rfl).trans hf41
                obtain ⟨S416, hS417, hf418⟩ := hphi413 14 31 _ rfl rfl rfl
                have e419 : f409 31 = (Value.bool (x155 != x202)) := hf418
                exact OpX.val (Value.int .i64 (k12 : Int)) wd410 (wanted_run rfl rfl e419 hc236) (op_move e415) (Ext.refl _) ⟨rfl, hr24⟩
              · refine ObX.op rfl fun f420 wd421 he422 hout423 hphi424 => ?_
                have hS425 := St.extend hS47 he422
                obtain ⟨S426, hS427, hf428⟩ := hphi424 14 31 _ rfl rfl rfl
                have e429 : f420 31 = (Value.bool (x155 != x202)) := hf428
                obtain ⟨S430, hS431, hf432⟩ := hphi424 16 33 _ rfl rfl rfl
                have e433 : f420 33 = v_r_Table := hf432
                obtain ⟨S434, hS435, hf436⟩ := hphi424 17 34 _ rfl rfl rfl
                obtain ⟨e437, hr438⟩ := hf436
                exact OpX.val (Value.pointer (some (elA v_r_Table ((k12 : Int)).toNat))) wd421 (wanted_run rfl rfl e429 hc236) (op_idx sl_22 (Ty.lift _ (Ext.trans hE7 hS425.ext) r_r_Table) e433 e437 ha440 hb441) (Ext.refl _) rfl
              · refine ObX.op rfl fun f443 wd444 he445 hout446 hphi447 => ?_
                have hS448 := St.extend hS47 he445
                obtain ⟨S449, hS450, hf451⟩ := hphi447 14 31 _ rfl rfl rfl
                have e452 : f443 31 = (Value.bool (x155 != x202)) := hf451
                obtain ⟨S453, hS454, hf455⟩ := hphi447 18 35 _ rfl rfl rfl
                have e456 : f443 35 = (Value.pointer (some (elA v_r_Table ((k12 : Int)).toNat))) := hf455
                exact OpX.val u457 wd444 (wanted_run rfl rfl e452 hc236) (op_load one_25 e456 (Ext.cell (Ext.trans hE7 hS448.ext) hc458)) (Ext.refl _) rfl
              · refine ObX.op rfl fun f460 wd461 he462 hout463 hphi464 => ?_
                have hS465 := St.extend hS47 he462
                obtain ⟨S466, hS467, hf468⟩ := hphi464 14 31 _ rfl rfl rfl
                have e469 : f460 31 = (Value.bool (x155 != x202)) := hf468
                obtain ⟨S470, hS471, hf472⟩ := hphi464 19 36 _ rfl rfl rfl
                have e473 : f460 36 = u457 := hf472
                exact OpX.val (Value.pointer (some (elA u457 ((0 : Int)).toNat))) wd461 (wanted_run rfl rfl e469 hc236) (op_idx sl_25 (Ty.lift _ (Ext.trans hE7 hS465.ext) hr459) e473 rfl ha475 hb476) (Ext.refl _) rfl
              · refine ObX.op rfl fun f478 wd479 he480 hout481 hphi482 => ?_
                have hS483 := St.extend hS47 he480
                obtain ⟨S484, hS485, hf486⟩ := hphi482 14 31 _ rfl rfl rfl
                have e487 : f478 31 = (Value.bool (x155 != x202)) := hf486
                obtain ⟨S488, hS489, hf490⟩ := hphi482 20 37 _ rfl rfl rfl
                have e491 : f478 37 = (Value.pointer (some (elA u457 ((0 : Int)).toNat))) := hf490
                exact OpX.val u492 wd479 (wanted_run rfl rfl e487 hc236) (op_load one_36 e491 (Ext.cell (Ext.trans hE7 hS483.ext) hc493)) (Ext.refl _) rfl
              · refine ObX.op rfl fun f495 wd496 he497 hout498 hphi499 => ?_
                have e501 : f495 4 = (Value.int .i64 (k31 : Int)) := (hout498 4 rfl).trans rfl
                obtain ⟨S502, hS503, hf504⟩ := hphi499 14 31 _ rfl rfl rfl
                have e505 : f495 31 = (Value.bool (x155 != x202)) := hf504
                exact OpX.val (Value.int .i64 (k31 : Int)) wd496 (wanted_run rfl rfl e505 hc236) (op_move e501) (Ext.refl _) ⟨rfl, hr46⟩
              · refine ObX.op rfl fun f506 wd507 he508 hout509 hphi510 => ?_
                have hS511 := St.extend hS47 he508
                obtain ⟨S512, hS513, hf514⟩ := hphi510 14 31 _ rfl rfl rfl
                have e515 : f506 31 = (Value.bool (x155 != x202)) := hf514
                obtain ⟨S516, hS517, hf518⟩ := hphi510 21 38 _ rfl rfl rfl
                have e519 : f506 38 = u492 := hf518
                obtain ⟨S520, hS521, hf522⟩ := hphi510 22 39 _ rfl rfl rfl
                obtain ⟨e523, hr524⟩ := hf522
                exact OpX.val (Value.pointer (some (elA u492 ((k31 : Int)).toNat))) wd507 (wanted_run rfl rfl e515 hc236) (op_idx sl_36 (Ty.lift _ (Ext.trans hE7 hS511.ext) hr494) e519 e523 ha526 hb527) (Ext.refl _) rfl
              · refine ObX.op rfl fun f529 wd530 he531 hout532 hphi533 => ?_
                have hS534 := St.extend hS47 he531
                obtain ⟨S535, hS536, hf537⟩ := hphi533 14 31 _ rfl rfl rfl
                have e538 : f529 31 = (Value.bool (x155 != x202)) := hf537
                obtain ⟨S539, hS540, hf541⟩ := hphi533 23 40 _ rfl rfl rfl
                have e542 : f529 40 = (Value.pointer (some (elA u492 ((k31 : Int)).toNat))) := hf541
                exact OpX.val (Value.int .i64 x525) wd530 (wanted_run rfl rfl e538 hc236) (op_load one_2 e542 (Ext.cell (Ext.trans hE7 hS534.ext) hc544)) (Ext.refl _) ⟨rfl, hr545⟩
              · refine ObX.op rfl fun f546 wd547 he548 hout549 hphi550 => ?_
                have e552 : f546 3 = (Value.int .i64 (k12 : Int)) := (hout549 3 rfl).trans hf41
                obtain ⟨S553, hS554, hf555⟩ := hphi550 14 31 _ rfl rfl rfl
                have e556 : f546 31 = (Value.bool (x155 != x202)) := hf555
                exact OpX.val (Value.int .i64 (k12 : Int)) wd547 (wanted_run rfl rfl e556 hc236) (op_move e552) (Ext.refl _) ⟨rfl, hr24⟩
              · refine ObX.op rfl fun f557 wd558 he559 hout560 hphi561 => ?_
                have e563 : f557 4 = (Value.int .i64 (k31 : Int)) := (hout560 4 rfl).trans rfl
                obtain ⟨S564, hS565, hf566⟩ := hphi561 14 31 _ rfl rfl rfl
                have e567 : f557 31 = (Value.bool (x155 != x202)) := hf566
                exact OpX.val (Value.int .i64 (k31 : Int)) wd558 (wanted_run rfl rfl e567 hc236) (op_move e563) (Ext.refl _) ⟨rfl, hr46⟩
              · refine ObX.op rfl fun f568 wd569 he570 hout571 hphi572 => ?_
                obtain ⟨S574, hS575, hf576⟩ := hphi572 14 31 _ rfl rfl rfl
                have e577 : f568 31 = (Value.bool (x155 != x202)) := hf576
                obtain ⟨S578, hS579, hf580⟩ := hphi572 25 42 _ rfl rfl rfl
                obtain ⟨e581, hr582⟩ := hf580
                obtain ⟨S583, hS584, hf585⟩ := hphi572 26 43 _ rfl rfl rfl
                obtain ⟨e586, hr587⟩ := hf585
                refine OpX.call (wanted_run rfl rfl e577 hc236) (op_call fn_76 (args2 e581 e586)) (Ret.mono (c_impl_delta hr582 hr587 hx589) ?_)
                rintro _ wd591 ⟨rfl, hr590, he592⟩
                exact ⟨he592, _, noS _ _, ⟨rfl, hr590⟩⟩
              · intro f594 wd595 Ss596 he597 hout598 hSn599 hSd600 hphi601
                show WL _ _ _ _ _ _ _
                have hS602 := St.extend hS47 he597
                have e603 : f594 31 = (Value.bool (x155 != x202)) := hphi601 14 31 _ (by decide) rfl rfl
                obtain ⟨e606, hr607⟩ := hphi601 17 34 _ (by decide) rfl rfl
                obtain ⟨e612, hr613⟩ := hphi601 22 39 _ (by decide) rfl rfl
                obtain ⟨e615, hr616⟩ := hphi601 24 41 _ (by decide) rfl rfl
                obtain ⟨e617, hr618⟩ := hphi601 25 42 _ (by decide) rfl rfl
                obtain ⟨e619, hr620⟩ := hphi601 26 43 _ (by decide) rfl rfl
                obtain ⟨e621, hr622⟩ := hphi601 27 44 _ (by decide) rfl rfl
                have e623 : f594 1 = (Value.pointer (some ⟨b1, 0, none⟩)) := (hout598 1 rfl).trans hf40
                have e624 : f594 3 = (Value.int .i64 (k12 : Int)) := (hout598 3 rfl).trans hf41
                have e625 : f594 4 = (Value.int .i64 (k31 : Int)) := (hout598 4 rfl).trans rfl
                have e626 : f594 7 = (Value.int .i64 ((r_Table).length : Int)) := (hout598 7 rfl).trans hf42
                have e627 : f594 8 = (Value.int .i64 (k12 : Int)) := (hout598 8 rfl).trans hf43
                have e628 : f594 13 = (Value.int .i64 ((r_Table).length : Int)) := (hout598 13 rfl).trans hf44
                have e629 : f594 14 = (Value.int .i64 (k31 : Int)) := (hout598 14 rfl).trans hf45
                refine WL.grun rfl (bool_of e603 hc236) ?_
                refine WL.val (Value.bool (x525 != x588)) _ (op_neq e615 e621) rfl ?_
                refine WL.val (Value.bool (x525 != x588)) _ (op_pick_f (evb_of e603 hc236) rfl) rfl ?_
                refine WL.nil ?_
                obtain rfl := Option.some.inj hj235
                exact ⟨e623, e624, e625, e626, e627, e628, e629, rfl, hS602⟩
          · intro f630 wd631 hq632
            obtain ⟨hf633, hf634, hf635, hf636, hf637, hf638, hf639, hf640, hS641⟩ := hq632
            refine W.cond x234 hf640 (fun hc642 => ?_) (fun hc642 => ?_)
            · replace hb36 := ip hb36 hc642
              refine W.seq (W.region ?_)
              refine WL.val (Value.int .i64 (k12 : Int)) _ (op_move hf634) rfl ?_
              refine WL.val (Value.int .i64 (k31 : Int)) _ (op_move hf635) rfl ?_
              refine WL.litFlat (t := (Ty.i .i64)) (flat_i .i64) [(Value.int .i64 (0 : Int)), (Value.int .i64 (k12 : Int)), (Value.int .i64 (k31 : Int))] [(0 : Int), (k12 : Int), (k31 : Int)] hS641 sl_36 rfl rfl (fillL rfl ⟨rfl, rfl, rfl, rfl, rfl, rfl, rfl, rfl, rfl, trivial⟩) rfl rfl (litL ⟨⟨rfl, (inL rfl)⟩, ⟨rfl, hr24⟩, ⟨rfl, hr46⟩, trivial⟩) rfl ?_
              intro u644 wd645 hS646 he647
              replace hS646 : St wd2 wd645 [(Ty.sl (Ty.i .i64)).at u644 ([(0 : Int), (k12 : Int), (k31 : Int)] : (List Int))] := hS646
              refine WL.val u644 _ (op_assign rfl) rfl ?_
              refine WL.nil ?_
              refine W.ret ?_
              obtain rfl := Option.some.inj hb36
              obtain rfl := hret39 _ rfl
              replace hb17 := onRes_ret hb17
              obtain rfl := Option.some.inj hb17
              obtain rfl := hret20 _ rfl
              replace h := onRes_ret h
              obtain rfl := Option.some.inj h
              show FinP _ _ _ _ _ _ _
              exact FinP.ret _ (res1 rfl rfl) ⟨u644, rfl, (nil_cons), (Ext.trans hE7 hS646.ext), (St.out (St.pick hS646 [0] rfl) (hE7))⟩
            · replace hb36 := inegb hb36 hc642
              refine W.skip ?_
              show W _ _ _ _ _ _
              refine W.region ?_
              refine WL.val (Value.int .i64 (w64 ((k31 : Int) + (1 : Int)))) _ (op_add hf639 rfl) rfl ?_
              refine WL.val (Value.int .i64 (w64 ((k31 : Int) + (1 : Int)))) _ (op_move rfl) rfl ?_
              refine WL.nil ?_
              obtain rfl := Option.some.inj hb36
              show ∃ s, _ = Ctl.next s ∧ _
              exact ⟨_, rfl, hf633, hf634, hf636, hf637, hf638, (ctr_next hl48 hr28), (ctr_rng hl48 hr28), hS641⟩
        · intro s653 f649 wd650 hs651 hI652
          obtain ⟨⟩ := s653
          replace hI652 : f649 1 = (Value.pointer (some ⟨b1, 0, none⟩)) ∧ f649 3 = (Value.int .i64 (k12 : Int)) ∧ f649 7 = (Value.int .i64 ((r_Table).length : Int)) ∧ f649 8 = (Value.int .i64 (k12 : Int)) ∧ f649 13 = (Value.int .i64 ((r_Table).length : Int)) ∧ f649 14 = Value.int .i64 (((r_Table).length : Nat) : Int) ∧ InR .i64 (((r_Table).length : Nat) : Int) ∧ St wd2 wd650 [] := hI652
          obtain ⟨hf654, hf655, hf656, hf657, hf658, hf659, hr660, hS661⟩ := hI652
          refine W.seq (W.region ?_)
          refine WL.val (Value.bool (decide ((((r_Table).length : Nat) : Int) < ((r_Table).length : Int)))) _ (op_lss hf659 hf658) rfl ?_
          have hl662 : ¬ (((r_Table).length : Nat) : Int) < ((r_Table).length : Int) := by omega
          refine WL.nil ?_
          refine W.seq ?_
          refine W.condF (decide ((((r_Table).length : Nat) : Int) < ((r_Table).length : Int))) rfl (decide_eq_false hl662) ?_
          refine W.exit ?_
          show _ = _ ∧ _
          exact ⟨rfl, _, hs651, hf654, hf656, hf657, hS661⟩
      · rintro f663 wd664 ⟨s666, rfl, hq665⟩
        replace hb17 := onRes_fin hb17
        obtain ⟨⟩ := s666
        replace hq665 : f663 1 = (Value.pointer (some ⟨b1, 0, none⟩)) ∧ f663 7 = (Value.int .i64 ((r_Table).length : Int)) ∧ f663 8 = (Value.int .i64 (k12 : Int)) ∧ St wd2 wd664 [] := hq665
        obtain ⟨hf667, hf668, hf669, hS670⟩ := hq665
        show W _ _ _ _ _ _
        refine W.region ?_
        refine WL.val (Value.int .i64 (w64 ((k12 : Int) + (1 : Int)))) _ (op_add hf669 rfl) rfl ?_
        refine WL.val (Value.int .i64 (w64 ((k12 : Int) + (1 : Int)))) _ (op_move rfl) rfl ?_
        refine WL.nil ?_
        obtain rfl := Option.some.inj hb17
        show ∃ s, _ = Ctl.next s ∧ _
        exact ⟨_, rfl, hf667, hf668, (ctr_next hl26 hr9), (ctr_rng hl26 hr9), hS670⟩
    · intro s677 f673 wd674 hs675 hI676
      obtain ⟨⟩ := s677
      replace hI676 : f673 1 = (Value.pointer (some ⟨b1, 0, none⟩)) ∧ f673 7 = (Value.int .i64 ((r_Table).length : Int)) ∧ f673 8 = Value.int .i64 (((r_Table).length : Nat) : Int) ∧ InR .i64 (((r_Table).length : Nat) : Int) ∧ St wd2 wd674 [] := hI676
      obtain ⟨hf678, hf679, hf680, hr681, hS682⟩ := hI676
      refine W.seq (W.region ?_)
      refine WL.val (Value.bool (decide ((((r_Table).length : Nat) : Int) < ((r_Table).length : Int)))) _ (op_lss hf680 hf679) rfl ?_
      have hl683 : ¬ (((r_Table).length : Nat) : Int) < ((r_Table).length : Int) := by omega
      refine WL.nil ?_
      refine W.seq ?_
      refine W.condF (decide ((((r_Table).length : Nat) : Int) < ((r_Table).length : Int))) rfl (decide_eq_false hl683) ?_
      refine W.exit ?_
      show _ = _ ∧ _
      exact ⟨rfl, _, hs675, hS682⟩
  · rintro f684 wd685 ⟨s687, rfl, hq686⟩
    replace h := onRes_fin h
    obtain ⟨⟩ := s687
    replace hq686 : St wd2 wd685 [] := hq686
    have hS688 := hq686
    refine W.seq (W.region ?_)
    refine WL.val (Value.slice none 0 0) _ (op_assign rfl) rfl ?_
    refine WL.nil ?_
    refine W.ret ?_
    obtain rfl := Option.some.inj h
    show FinP _ _ _ _ _ _ _
    exact FinP.ret _ (res1 rfl rfl) ⟨(Value.slice none 0 0), rfl, (fun _ => ⟨0, 0, rfl⟩), (Ext.trans hE7 hS688.ext), (St.out (St.pick (St.addNil (Ty.i .i64) hS688) [0] rfl) (hE7))⟩

theorem c_impl_Ring_onlyOf {w : World} {r_Table : (List (List (List Int)))} {v_r_Table : Value} {i : Int} (r_r_Table : (Ty.sl (Ty.sl (Ty.sl (Ty.i .i64)))).rep w v_r_Table r_Table) (r_i : InR .i64 i) {res : Int} (h : p_impl_Ring_onlyOf r_Table i  = some res) :
    Ret Try.prog 56 #[(Value.agg #[v_r_Table]), (Value.int .i64 i)] w (fun v w' => v = Value.int .i64 res ∧ InR .i64 res ∧ Ext w w') := by
  unfold p_impl_Ring_onlyOf at h
  have hS0 : St w w [] := St.start w
  refine Ret.start (fn := Try.f56) Try.func56 rfl 34 rfl rfl ?_
  refine W.seq (W.region ?_)
  refine WL.box hS0 rfl (cs := [v_r_Table]) rfl rfl ?_
  intro b1 wd2 hS3 he4 hx5
  replace hS3 : St w wd2 [bx b1 [v_r_Table]] := hS3
  have hx6 := St.boxAt hS3 0 rfl
  have hE7 : Ext w wd2 := hS3.ext
  have hS8 : St wd2 wd2 [] := St.start wd2
  refine WL.val (Value.int .i64 (0 : Int)) _ (op_assign rfl) rfl ?_
  refine WL.nil ?_
  refine W.seq (W.region ?_)
  refine WL.val (Value.int .i64 (-1 : Int)) _ (op_assign rfl) rfl ?_
  refine WL.nil ?_
  refine W.seq (W.seq (W.region ?_))
  refine WL.val (Value.pointer (some ⟨b1, 0, none⟩)) _ (op_fieldAddr fd_30_0 rfl) rfl ?_
  refine WL.val v_r_Table _ (op_load one_22 rfl (BoxAt.cell (BoxAt.lift hS8.ext hx6) rfl)) rfl ?_
  refine WL.val (Value.int .i64 i) _ (op_move rfl) rfl ?_
  obtain ⟨x9, hx12, h⟩ := bs h
  obtain ⟨ha10, hb11, hx12⟩ := idx_some hx12
  refine WL.val (Value.pointer (some (elA v_r_Table (i).toNat))) _ (op_idx sl_22 (Ty.lift _ (Ext.trans hE7 hS8.ext) r_r_Table) rfl rfl ha10 hb11) rfl ?_
  obtain ⟨u13, hc14, hr15⟩ := repSl.el r_r_Table hx12
  refine WL.val u13 _ (op_load one_25 rfl (Ext.cell (Ext.trans hE7 hS8.ext) hc14)) rfl ?_
  have hr16 := inR_len (Ty.lift _ (Ext.trans hE7 hS8.ext) hr15)
  refine WL.val (Value.int .i64 ((x9).length : Int)) _ (op_lenL sl_25 (Ty.lift _ (Ext.trans hE7 hS8.ext) hr15) rfl) rfl ?_
  refine WL.val (Value.int .i64 (0 : Int)) _ (op_move rfl) rfl ?_
  refine WL.nil ?_
  show W _ _ _ _ _ _
  obtain ⟨res17, hres18, h⟩ := bs h
  refine W.blockLoop (fun fq wq => ∃ s, res17 = Res.fin s ∧ fq 5 = Value.int .i64 s ∧ InR .i64 s ∧ St wd2 wq []) ?_ ?_
  · refine W.forN (fun k (s : Int) fq wq => fq 5 = Value.int .i64 s ∧ InR .i64 s ∧ fq 12 = u13 ∧ fq 13 = (Value.int .i64 ((x9).length : Int)) ∧ fq 14 = Value.int .i64 (k : Int) ∧ InR .i64 (k : Int) ∧ St wd2 wq []) hres18 ⟨rfl, (inR_i64.2 (show (-9223372036854775808 : Int) ≤ -1 ∧ (-1 : Int) ≤ 9223372036854775807 from by decide)), rfl, rfl, rfl, (inL rfl), hS8⟩ ?_ ?_
    · intro k19 x20 ct21 f22 wd23 hk24 hb25 hI26 hbrk27 hret28
      replace hI26 : f22 5 = Value.int .i64 x20 ∧ InR .i64 x20 ∧ f22 12 = u13 ∧ f22 13 = (Value.int .i64 ((x9).length : Int)) ∧ f22 14 = Value.int .i64 (k19 : Int) ∧ InR .i64 (k19 : Int) ∧ St wd2 wd23 [] := hI26
      replace hb25 : p_impl_Ring_onlyOf_L1 x9 k19 x20 = some ct21 := hb25
      unfold p_impl_Ring_onlyOf_L1 at hb25
      obtain ⟨hf29, hr30, hf31, hf32, hf33, hr34, hS35⟩ := hI26
      refine W.seq (W.region ?_)
      refine WL.val (Value.bool (decide ((k19 : Int) < ((x9).length : Int)))) _ (op_lss hf33 hf32) rfl ?_
      have hl36 : (k19 : Int) < ((x9).length : Int) := by omega
      refine WL.nil ?_
      refine W.seq ?_
      refine W.condT (decide ((k19 : Int) < ((x9).length : Int))) rfl (decide_eq_true hl36) ?_
      refine W.skip ?_
      refine W.seq ?_
      refine W.block ?_
      refine W.seq (W.region ?_)
      refine WL.val (Value.int .i64 (k19 : Int)) _ (op_move hf33) rfl ?_
      obtain ⟨x38, hx41, hb25⟩ := bs hb25
      obtain ⟨ha39, hb40, hx41⟩ := idx_some hx41
      refine WL.val (Value.pointer (some (elA u13 ((k19 : Int)).toNat))) _ (op_idx sl_25 (Ty.lift _ (Ext.trans hE7 hS35.ext) hr15) hf31 hf33 ha39 hb40) rfl ?_
      obtain ⟨u42, hc43, hr44⟩ := repSl.el hr15 hx41
      refine WL.val u42 _ (op_load one_36 rfl (Ext.cell (Ext.trans hE7 hS35.ext) hc43)) rfl ?_
      refine WL.val (Value.int .i64 (k19 : Int)) _ (op_assign rfl) rfl ?_
      refine WL.val u42 _ (op_assign rfl) rfl ?_
      refine WL.nil ?_
      refine W.seq (W.seq (W.region ?_))
      refine WL.val u42 _ (op_move rfl) rfl ?_
      obtain ⟨x45, hx48, hb25⟩ := bs hb25
      obtain ⟨ha46, hb47, hx48⟩ := idx_some hx48
      refine WL.val (Value.pointer (some (elA u42 ((0 : Int)).toNat))) _ (op_idx sl_36 (Ty.lift _ (Ext.trans hE7 hS35.ext) hr44) rfl rfl ha46 hb47) rfl ?_
      obtain ⟨u49, hc50, hr51⟩ := repSl.el hr44 hx48
      obtain ⟨rfl, hr51⟩ := hr51
      refine WL.val (Value.int .i64 x45) _ (op_load one_2 rfl (Ext.cell (Ext.trans hE7 hS35.ext) hc50)) rfl ?_
      refine WL.val (Value.bool (x45 == (0 : Int))) _ (op_eql rfl rfl) rfl ?_
      refine WL.nil ?_
      refine W.cond (x45 == (0 : Int)) rfl (fun hc52 => ?_) (fun hc52 => ?_)
      · replace hb25 := ip hb25 hc52
        refine W.exit ?_
        show W _ _ _ _ _ _
        refine W.region ?_
        refine WL.val (Value.int .i64 (w64 ((k19 : Int) + (1 : Int)))) _ (op_add hf33 rfl) rfl ?_
        refine WL.val (Value.int .i64 (w64 ((k19 : Int) + (1 : Int)))) _ (op_move rfl) rfl ?_
        refine WL.nil ?_
        obtain rfl := Option.some.inj hb25
        show ∃ s, _ = Ctl.next s ∧ _
        exact ⟨_, rfl, hf29, hr30, hf31, hf32, (ctr_next hl36 hr16), (ctr_rng hl36 hr16), hS35⟩
      · replace hb25 := inegb hb25 hc52
        refine W.skip ?_
        refine W.seq (W.seq (W.region ?_))
        refine WL.val (Value.int .i64 x20) _ (op_move hf29) rfl ?_
        refine WL.val (Value.bool (decide (x20 ≥ (0 : Int)))) _ (op_geq rfl rfl) rfl ?_
        refine WL.val (Value.bool (decide (x20 ≥ (0 : Int)))) _ (op_move rfl) rfl ?_
        refine WL.cut 5 (fun fq wq => fq 6 = (Value.int .i64 (k19 : Int)) ∧ fq 12 = u13 ∧ fq 13 = (Value.int .i64 ((x9).length : Int)) ∧ fq 14 = (Value.int .i64 (k19 : Int)) ∧ fq 30 = (Value.bool ((decide (x20 ≥ (0 : Int))) || (x45 != (1 : Int)))) ∧ St wd2 wq []) ?_ ?_
        · rcases Bool.eq_false_or_eq_true (decide (x20 ≥ (0 : Int))) with hc54 | hc54
          · refine WL.gskip rfl (bool_of rfl hc54) rfl ?_
            refine WL.gskip rfl (bool_of rfl hc54) rfl ?_
            refine WL.gskip rfl (bool_of rfl hc54) rfl ?_
            refine WL.gskip rfl (bool_of rfl hc54) rfl ?_
            refine WL.val (Value.bool true) _ (op_pick_t (evb_of rfl hc54) rfl) rfl ?_
            refine WL.nil ?_
            exact ⟨rfl, rfl, hf31, hf32, hf33, (orT hc54), hS35⟩
          · refine WL.grun rfl (bool_of rfl hc54) ?_
            refine WL.val u42 _ (op_move rfl) rfl ?_
            refine WL.grun rfl (bool_of rfl hc54) ?_
            refine WL.val (Value.pointer (some (elA u42 ((0 : Int)).toNat))) _ (op_idx sl_36 (Ty.lift _ (Ext.trans hE7 hS35.ext) hr44) rfl rfl ha46 hb47) rfl ?_
            refine WL.grun rfl (bool_of rfl hc54) ?_
            obtain ⟨u58, hc59, hr60⟩ := repSl.el hr44 hx48
            obtain ⟨rfl, hr60⟩ := hr60
            refine WL.val (Value.int .i64 x45) _ (op_load one_2 rfl (Ext.cell (Ext.trans hE7 hS35.ext) hc59)) rfl ?_
            refine WL.grun rfl (bool_of rfl hc54) ?_
            refine WL.val (Value.bool (x45 != (1 : Int))) _ (op_neq rfl rfl) rfl ?_
            refine WL.val (Value.bool (x45 != (1 : Int))) _ (op_pick_f (evb_of rfl hc54) rfl) rfl ?_
            refine WL.nil ?_
            exact ⟨rfl, rfl, hf31, hf32, hf33, (orF hc54), hS35⟩
        · intro f55 wd56 hq57
          obtain ⟨hf61, hf62, hf63, hf64, hf65, hS66⟩ := hq57
          refine WL.nil ?_
          refine W.cond ((decide (x20 ≥ (0 : Int))) || (x45 != (1 : Int))) hf65 (fun hc67 => ?_) (fun hc67 => ?_)
          · replace hb25 := ip hb25 hc67
            refine W.seq (W.region ?_)
            refine WL.val (Value.int .i64 (-1 : Int)) _ (op_assign rfl) rfl ?_
            refine WL.nil ?_
            refine W.ret ?_
            obtain rfl := Option.some.inj hb25
            obtain rfl := hret28 _ rfl
            replace h := onRes_ret h
            obtain rfl := Option.some.inj h
            show FinP _ _ _ _ _ _ _
            exact FinP.ret _ (res1 rfl rfl) ⟨rfl, (inR_i64.2 (show (-9223372036854775808 : Int) ≤ -1 ∧ (-1 : Int) ≤ 9223372036854775807 from by decide)), (Ext.trans hE7 hS66.ext)⟩
          · replace hb25 := inegb hb25 hc67
            refine W.skip ?_
            show W _ _ _ _ _ _
            refine W.region ?_
            refine WL.val (Value.int .i64 (k19 : Int)) _ (op_move hf61) rfl ?_
            refine WL.val (Value.int .i64 (k19 : Int)) _ (op_assign rfl) rfl ?_
            refine WL.nil ?_
            show W _ _ _ _ _ _
            refine W.region ?_
            refine WL.val (Value.int .i64 (w64 ((k19 : Int) + (1 : Int)))) _ (op_add hf64 rfl) rfl ?_
            refine WL.val (Value.int .i64 (w64 ((k19 : Int) + (1 : Int)))) _ (op_move rfl) rfl ?_
            refine WL.nil ?_
            obtain rfl := Option.some.inj hb25
            show ∃ s, _ = Ctl.next s ∧ _
            exact ⟨_, rfl, rfl, hr34, hf62, hf63, (ctr_next hl36 hr16), (ctr_rng hl36 hr16), hS66⟩
    · intro x75 f70 wd71 hs72 hI73
      replace hI73 : f70 5 = Value.int .i64 x75 ∧ InR .i64 x75 ∧ f70 12 = u13 ∧ f70 13 = (Value.int .i64 ((x9).length : Int)) ∧ f70 14 = Value.int .i64 (((x9).length : Nat) : Int) ∧ InR .i64 (((x9).length : Nat) : Int) ∧ St wd2 wd71 [] := hI73
      obtain ⟨hf76, hr77, hf78, hf79, hf80, hr81, hS82⟩ := hI73
      refine W.seq (W.region ?_)
      refine WL.val (Value.bool (decide ((((x9).length : Nat) : Int) < ((x9).length : Int)))) _ (op_lss hf80 hf79) rfl ?_
      have hl83 : ¬ (((x9).length : Nat) : Int) < ((x9).length : Int) := by omega
      refine WL.nil ?_
      refine W.seq ?_
      refine W.condF (decide ((((x9).length : Nat) : Int) < ((x9).length : Int))) rfl (decide_eq_false hl83) ?_
      refine W.exit ?_
      show _ = _ ∧ _
      exact ⟨rfl, _, hs72, hf76, hr77, hS82⟩
  · rintro f84 wd85 ⟨x88, rfl, hq86⟩
    replace h := onRes_fin h
    replace hq86 : f84 5 = Value.int .i64 x88 ∧ InR .i64 x88 ∧ St wd2 wd85 [] := hq86
    obtain ⟨hf89, hr90, hS91⟩ := hq86
    refine W.seq (W.region ?_)
    refine WL.val (Value.int .i64 x88) _ (op_move hf89) rfl ?_
    refine WL.val (Value.int .i64 x88) _ (op_assign rfl) rfl ?_
    refine WL.nil ?_
    refine W.ret ?_
    obtain rfl := Option.some.inj h
    show FinP _ _ _ _ _ _ _
    exact FinP.ret _ (res1 rfl rfl) ⟨rfl, hr90, (Ext.trans hE7 hS91.ext)⟩

theorem c_impl_Ring_dualFault {w : World} {r_Table : (List (List (List Int)))} {v_r_Table : Value} (r_r_Table : (Ty.sl (Ty.sl (Ty.sl (Ty.i .i64)))).rep w v_r_Table r_Table) {res : Int} (h : p_impl_Ring_dualFault r_Table  = some res) :
    Ret Try.prog 65 #[(Value.agg #[v_r_Table])] w (fun v w' => v = Value.int .i64 res ∧ InR .i64 res ∧ Ext w w') := by
  unfold p_impl_Ring_dualFault at h
  have hS0 : St w w [] := St.start w
  refine Ret.start (fn := Try.f65) Try.func65 rfl 25 rfl rfl ?_
  refine W.seq (W.region ?_)
  refine WL.box hS0 rfl (cs := [v_r_Table]) rfl rfl ?_
  intro b1 wd2 hS3 he4 hx5
  replace hS3 : St w wd2 [bx b1 [v_r_Table]] := hS3
  have hx6 := St.boxAt hS3 0 rfl
  have hE7 : Ext w wd2 := hS3.ext
  have hS8 : St wd2 wd2 [] := St.start wd2
  refine WL.val (Value.int .i64 (0 : Int)) _ (op_assign rfl) rfl ?_
  refine WL.nil ?_
  refine W.seq (W.seq (W.region ?_))
  refine WL.val (Value.pointer (some ⟨b1, 0, none⟩)) _ (op_fieldAddr fd_30_0 rfl) rfl ?_
  refine WL.val v_r_Table _ (op_load one_22 rfl (BoxAt.cell (BoxAt.lift hS8.ext hx6) rfl)) rfl ?_
  have hr9 := inR_len (Ty.lift _ (Ext.trans hE7 hS8.ext) r_r_Table)
  refine WL.val (Value.int .i64 ((r_Table).length : Int)) _ (op_lenL sl_22 (Ty.lift _ (Ext.trans hE7 hS8.ext) r_r_Table) rfl) rfl ?_
  refine WL.val (Value.int .i64 (0 : Int)) _ (op_move rfl) rfl ?_
  refine WL.nil ?_
  show W _ _ _ _ _ _
  obtain ⟨res10, hres11, h⟩ := bs h
  refine W.blockLoop (fun fq wq => ∃ s, res10 = Res.fin s ∧ St wd2 wq []) ?_ ?_
  · refine W.forN (fun k (s : Unit) fq wq => fq 1 = (Value.pointer (some ⟨b1, 0, none⟩)) ∧ fq 7 = (Value.int .i64 ((r_Table).length : Int)) ∧ fq 8 = Value.int .i64 (k : Int) ∧ InR .i64 (k : Int) ∧ St wd2 wq []) hres11 ⟨rfl, rfl, rfl, (inL rfl), hS8⟩ ?_ ?_
    · intro k12 s56 ct13 f14 wd15 hk16 hb17 hI18 hbrk19 hret20
      obtain ⟨⟩ := s56
      replace hI18 : f14 1 = (Value.pointer (some ⟨b1, 0, none⟩)) ∧ f14 7 = (Value.int .i64 ((r_Table).length : Int)) ∧ f14 8 = Value.int .i64 (k12 : Int) ∧ InR .i64 (k12 : Int) ∧ St wd2 wd15 [] := hI18
      replace hb17 : p_impl_Ring_dualFault_L1 r_Table k12  = some ct13 := hb17
      unfold p_impl_Ring_dualFault_L1 at hb17
      obtain ⟨hf21, hf22, hf23, hr24, hS25⟩ := hI18
      refine W.seq (W.region ?_)
      refine WL.val (Value.bool (decide ((k12 : Int) < ((r_Table).length : Int)))) _ (op_lss hf23 hf22) rfl ?_
      have hl26 : (k12 : Int) < ((r_Table).length : Int) := by omega
      refine WL.nil ?_
      refine W.seq ?_
      refine W.condT (decide ((k12 : Int) < ((r_Table).length : Int))) rfl (decide_eq_true hl26) ?_
      refine W.skip ?_
      refine W.seq ?_
      refine W.block ?_
      refine W.seq (W.region ?_)
      refine WL.val (Value.int .i64 (k12 : Int)) _ (op_move hf23) rfl ?_
      refine WL.val (Value.int .i64 (k12 : Int)) _ (op_assign rfl) rfl ?_
      refine WL.nil ?_
      refine W.seq (W.region ?_)
      refine WL.val (Value.agg #[v_r_Table]) _ (op_loadBox st_30 hf21 (BoxAt.lift hS25.ext hx6) rfl rfl) rfl ?_
      refine WL.val (Value.int .i64 (k12 : Int)) _ (op_move rfl) rfl ?_
      obtain ⟨x28, hx29, hb17⟩ := bs hb17
      refine WL.call _ (op_call fn_56 (args2 rfl rfl)) (c_impl_Ring_onlyOf (Ty.lift _ (Ext.trans hE7 hS25.ext) r_r_Table) hr24 hx29) rfl ?_
      rintro _ wd31 ⟨rfl, hr30, he32⟩
      have hS34 := St.extend hS25 he32
      replace hS34 : St wd2 wd31 [] := hS34
      refine WL.val (Value.int .i64 x28) _ (op_assign rfl) rfl ?_
      refine WL.nil ?_
      refine W.seq (W.region ?_)
      refine WL.val (Value.int .i64 x28) _ (op_move rfl) rfl ?_
      refine WL.val (Value.bool (decide (x28 < (0 : Int)))) _ (op_lss rfl rfl) rfl ?_
      refine WL.val (Value.bool (decide (x28 < (0 : Int)))) _ (op_move rfl) rfl ?_
      obtain ⟨x36, hj37, hb17⟩ := bs hb17
      refine WL.cut 6 (fun fq wq => fq 1 = (Value.pointer (some ⟨b1, 0, none⟩)) ∧ fq 3 = (Value.int .i64 (k12 : Int)) ∧ fq 7 = (Value.int .i64 ((r_Table).length : Int)) ∧ fq 8 = (Value.int .i64 (k12 : Int)) ∧ fq 22 = Value.bool x36 ∧ St wd2 wq []) ?_ ?_
      · rcases Bool.eq_false_or_eq_true (decide (x28 < (0 : Int))) with hc35 | hc35
        · replace hj37 := ip hj37 hc35
          refine WL.gskip rfl (bool_of rfl hc35) rfl ?_
          refine WL.gskip rfl (bool_of rfl hc35) rfl ?_
          refine WL.gskip rfl (bool_of rfl hc35) rfl ?_
          refine WL.gskip rfl (bool_of rfl hc35) rfl ?_
          refine WL.gskip rfl (bool_of rfl hc35) rfl ?_
          refine WL.val (Value.bool true) _ (op_pick_t (evb_of rfl hc35) rfl) rfl ?_
          refine WL.nil ?_
          obtain rfl := Option.some.inj hj37
          exact ⟨rfl, hf21, rfl, hf22, hf23, rfl, hS34⟩
        · replace hj37 := inegb hj37 hc35
          refine WL.grun rfl (bool_of rfl hc35) ?_
          refine WL.val (Value.agg #[v_r_Table]) _ (op_loadBox st_30 hf21 (BoxAt.lift hS34.ext hx6) rfl rfl) rfl ?_
          refine WL.grun rfl (bool_of rfl hc35) ?_
          refine WL.val (Value.int .i64 x28) _ (op_move rfl) rfl ?_
          refine WL.grun rfl (bool_of rfl hc35) ?_
          obtain ⟨x41, hx42, hj37⟩ := bs hj37
          refine WL.call _ (op_call fn_56 (args2 rfl rfl)) (c_impl_Ring_onlyOf (Ty.lift _ (Ext.trans hE7 hS34.ext) r_r_Table) hr30 hx42) rfl ?_
          rintro _ wd44 ⟨rfl, hr43, he45⟩
          have hS47 := St.extend hS34 he45
          replace hS47 : St wd2 wd44 [] := hS47
          refine WL.grun rfl (bool_of rfl hc35) ?_
          refine WL.val (Value.int .i64 (k12 : Int)) _ (op_move rfl) rfl ?_
          refine WL.grun rfl (bool_of rfl hc35) ?_
          refine WL.val (Value.bool (x41 != (k12 : Int))) _ (op_neq rfl rfl) rfl ?_
          refine WL.val (Value.bool (x41 != (k12 : Int))) _ (op_pick_f (evb_of rfl hc35) rfl) rfl ?_
          refine WL.nil ?_
          obtain rfl := Option.some.inj hj37
          exact ⟨rfl, hf21, rfl, hf22, hf23, rfl, hS47⟩
      · intro f38 wd39 hq40
        obtain ⟨hf48, hf49, hf50, hf51, hf52, hS53⟩ := hq40
        refine WL.nil ?_
        refine W.cond x36 hf52 (fun hc54 => ?_) (fun hc54 => ?_)
        · replace hb17 := ip hb17 hc54
          refine W.seq (W.region ?_)
          refine WL.val (Value.int .i64 (k12 : Int)) _ (op_move hf49) rfl ?_
          refine WL.val (Value.int .i64 (k12 : Int)) _ (op_assign rfl) rfl ?_
          refine WL.nil ?_
          refine W.ret ?_
          obtain rfl := Option.some.inj hb17
          obtain rfl := hret20 _ rfl
          replace h := onRes_ret h
          obtain rfl := Option.some.inj h
          show FinP _ _ _ _ _ _ _
          exact FinP.ret _ (res1 rfl rfl) ⟨rfl, hr24, (Ext.trans hE7 hS53.ext)⟩
        · replace hb17 := inegb hb17 hc54
          refine W.skip ?_
          show W _ _ _ _ _ _
          refine W.region ?_
          refine WL.val (Value.int .i64 (w64 ((k12 : Int) + (1 : Int)))) _ (op_add hf51 rfl) rfl ?_
          refine WL.val (Value.int .i64 (w64 ((k12 : Int) + (1 : Int)))) _ (op_move rfl) rfl ?_
          refine WL.nil ?_
          obtain rfl := Option.some.inj hb17
          show ∃ s, _ = Ctl.next s ∧ _
          exact ⟨_, rfl, hf48, hf50, (ctr_next hl26 hr9), (ctr_rng hl26 hr9), hS53⟩
    · intro s61 f57 wd58 hs59 hI60
      obtain ⟨⟩ := s61
      replace hI60 : f57 1 = (Value.pointer (some ⟨b1, 0, none⟩)) ∧ f57 7 = (Value.int .i64 ((r_Table).length : Int)) ∧ f57 8 = Value.int .i64 (((r_Table).length : Nat) : Int) ∧ InR .i64 (((r_Table).length : Nat) : Int) ∧ St wd2 wd58 [] := hI60
      obtain ⟨hf62, hf63, hf64, hr65, hS66⟩ := hI60
      refine W.seq (W.region ?_)
      refine WL.val (Value.bool (decide ((((r_Table).length : Nat) : Int) < ((r_Table).length : Int)))) _ (op_lss hf64 hf63) rfl ?_
      have hl67 : ¬ (((r_Table).length : Nat) : Int) < ((r_Table).length : Int) := by omega
      refine WL.nil ?_
      refine W.seq ?_
      refine W.condF (decide ((((r_Table).length : Nat) : Int) < ((r_Table).length : Int))) rfl (decide_eq_false hl67) ?_
      refine W.exit ?_
      show _ = _ ∧ _
      exact ⟨rfl, _, hs59, hS66⟩
  · rintro f68 wd69 ⟨s71, rfl, hq70⟩
    replace h := onRes_fin h
    obtain ⟨⟩ := s71
    replace hq70 : St wd2 wd69 [] := hq70
    have hS72 := hq70
    refine W.seq (W.region ?_)
    refine WL.val (Value.int .i64 (-1 : Int)) _ (op_assign rfl) rfl ?_
    refine WL.nil ?_
    refine W.ret ?_
    obtain rfl := Option.some.inj h
    show FinP _ _ _ _ _ _ _
    exact FinP.ret _ (res1 rfl rfl) ⟨rfl, (inR_i64.2 (show (-9223372036854775808 : Int) ≤ -1 ∧ (-1 : Int) ≤ 9223372036854775807 from by decide)), (Ext.trans hE7 hS72.ext)⟩

theorem c_impl_Ring_duals {w : World} {r_Table : (List (List (List Int)))} {v_r_Table : Value} (r_r_Table : (Ty.sl (Ty.sl (Ty.sl (Ty.i .i64)))).rep w v_r_Table r_Table) {res : (List Int)} (h : p_impl_Ring_duals r_Table  = some res) :
    Ret Try.prog 33 #[(Value.agg #[v_r_Table])] w (fun v w' => ∃ (u0 : Value), v = u0 ∧ Ext w w' ∧ Sep w.heap.size w' [(Ty.sl (Ty.i .i64)).at u0 res]) := by
  unfold p_impl_Ring_duals at h
  have hS0 : St w w [] := St.start w
  refine Ret.start (fn := Try.f33) Try.func33 rfl 20 rfl rfl ?_
  refine W.seq (W.region ?_)
  refine WL.box hS0 rfl (cs := [v_r_Table]) rfl rfl ?_
  intro b1 wd2 hS3 he4 hx5
  replace hS3 : St w wd2 [bx b1 [v_r_Table]] := hS3
  have hx6 := St.boxAt hS3 0 rfl
  have hE7 : Ext w wd2 := hS3.ext
  have hS8 : St wd2 wd2 [] := St.start wd2
  refine WL.val (Value.slice none 0 0) _ (op_assign rfl) rfl ?_
  refine WL.nil ?_
  refine W.seq (W.region ?_)
  refine WL.lit0 (t := (Ty.i .i64)) hS8 sl_52 rfl rfl ?_
  intro u9 wd10 hS11 he12
  replace hS11 : St wd2 wd10 [(Ty.sl (Ty.i .i64)).at u9 ([] : (List Int))] := hS11
  refine WL.val u9 _ (op_assign rfl) rfl ?_
  refine WL.nil ?_
  refine W.seq (W.seq (W.region ?_))
  refine WL.val (Value.pointer (some ⟨b1, 0, none⟩)) _ (op_fieldAddr fd_30_0 rfl) rfl ?_
  refine WL.val v_r_Table _ (op_load one_22 rfl (BoxAt.cell (BoxAt.lift hS11.ext hx6) rfl)) rfl ?_
  have hr13 := inR_len (Ty.lift _ (Ext.trans hE7 hS11.ext) r_r_Table)
  refine WL.val (Value.int .i64 ((r_Table).length : Int)) _ (op_lenL sl_22 (Ty.lift _ (Ext.trans hE7 hS11.ext) r_r_Table) rfl) rfl ?_
  refine WL.val (Value.int .i64 (0 : Int)) _ (op_move rfl) rfl ?_
  refine WL.nil ?_
  show W _ _ _ _ _ _
  obtain ⟨res14, hres15, h⟩ := bs h
  refine W.blockLoop (fun fq wq => ∃ s, res14 = Res.fin s ∧ ∃ (uu0 : Value), fq 3 = uu0 ∧ St wd2 wq [(Ty.sl (Ty.i .i64)).at uu0 s]) ?_ ?_
  · refine W.forN (fun k (s : (List Int)) fq wq => ∃ (uu0 : Value), fq 1 = (Value.pointer (some ⟨b1, 0, none⟩)) ∧ fq 3 = uu0 ∧ fq 8 = (Value.int .i64 ((r_Table).length : Int)) ∧ fq 9 = Value.int .i64 (k : Int) ∧ InR .i64 (k : Int) ∧ St wd2 wq [(Ty.sl (Ty.i .i64)).at uu0 s]) hres15 ⟨u9, rfl, rfl, rfl, rfl, (inL rfl), hS11⟩ ?_ ?_
    · intro k16 x17 ct18 f19 wd20 hk21 hb22 hI23 hbrk24 hret25
      replace hI23 : ∃ (uu0 : Value), f19 1 = (Value.pointer (some ⟨b1, 0, none⟩)) ∧ f19 3 = uu0 ∧ f19 8 = (Value.int .i64 ((r_Table).length : Int)) ∧ f19 9 = Value.int .i64 (k16 : Int) ∧ InR .i64 (k16 : Int) ∧ St wd2 wd20 [(Ty.sl (Ty.i .i64)).at uu0 x17] := hI23
      replace hb22 : p_impl_Ring_duals_L1 r_Table k16 x17 = some ct18 := hb22
      unfold p_impl_Ring_duals_L1 at hb22
      obtain ⟨u26, hf27, hf28, hf29, hf30, hr31, hS32⟩ := hI23
      refine W.seq (W.region ?_)
      refine WL.val (Value.bool (decide ((k16 : Int) < ((r_Table).length : Int)))) _ (op_lss hf30 hf29) rfl ?_
      have hl33 : (k16 : Int) < ((r_Table).length : Int) := by omega
      refine WL.nil ?_
      refine W.seq ?_
      refine W.condT (decide ((k16 : Int) < ((r_Table).length : Int))) rfl (decide_eq_true hl33) ?_
      refine W.skip ?_
      refine W.seq ?_
      refine W.block ?_
      refine W.seq (W.region ?_)
      refine WL.val (Value.int .i64 (k16 : Int)) _ (op_move hf30) rfl ?_
      refine WL.val (Value.int .i64 (k16 : Int)) _ (op_assign rfl) rfl ?_
      refine WL.nil ?_
      show W _ _ _ _ _ _
      refine W.region ?_
      refine WL.val u26 _ (op_move hf28) rfl ?_
      refine WL.val (Value.agg #[v_r_Table]) _ (op_loadBox st_30 hf27 (BoxAt.lift hS32.ext hx6) rfl rfl) rfl ?_
      refine WL.val (Value.int .i64 (k16 : Int)) _ (op_move rfl) rfl ?_
      obtain ⟨x35, hx36, hb22⟩ := bs hb22
      refine WL.call _ (op_call fn_56 (args2 rfl rfl)) (c_impl_Ring_onlyOf (Ty.lift _ (Ext.trans hE7 hS32.ext) r_r_Table) hr31 hx36) rfl ?_
      rintro _ wd38 ⟨rfl, hr37, he39⟩
      have hS41 := St.extend hS32 he39
      replace hS41 : St wd2 wd38 [(Ty.sl (Ty.i .i64)).at u26 x17] := hS41
      refine WL.litFlat (t := (Ty.i .i64)) (flat_i .i64) [(Value.int .i64 x35)] [x35] hS41 sl_52 rfl rfl (fillL rfl ⟨rfl, rfl, rfl, trivial⟩) rfl rfl (litL ⟨⟨rfl, hr37⟩, trivial⟩) rfl ?_
      intro u42 wd43 hS44 he45
      replace hS44 : St wd2 wd43 [(Ty.sl (Ty.i .i64)).at u26 x17, (Ty.sl (Ty.i .i64)).at u42 ([x35] : (List Int))] := hS44
      obtain ⟨x46, hx47, hb22⟩ := bs hb22
      refine WL.append (flat_i .i64) hS44 (k := 0) rfl sl_52 rfl rfl rfl rfl (St.rep (t := (Ty.sl (Ty.i .i64))) hS44 1 rfl) hx47 rfl ?_
      intro u48 wd49 hS50 hz51
      replace hS50 : St wd2 wd49 [(Ty.sl (Ty.i .i64)).at u48 x46, (Ty.sl (Ty.i .i64)).at u42 ([x35] : (List Int))] := hS50
      refine WL.val u48 _ (op_assign rfl) rfl ?_
      refine WL.nil ?_
      show W _ _ _ _ _ _
      refine W.region ?_
      refine WL.val (Value.int .i64 (w64 ((k16 : Int) + (1 : Int)))) _ (op_add hf30 rfl) rfl ?_
      refine WL.val (Value.int .i64 (w64 ((k16 : Int) + (1 : Int)))) _ (op_move rfl) rfl ?_
      refine WL.nil ?_
      obtain rfl := Option.some.inj hb22
      show ∃ s, _ = Ctl.next s ∧ _
      exact ⟨_, rfl, u48, hf27, rfl, hf29, (ctr_next hl33 hr13), (ctr_rng hl33 hr13), (St.pick hS50 [0] rfl)⟩
    · intro x58 f53 wd54 hs55 hI56
      replace hI56 : ∃ (uu0 : Value), f53 1 = (Value.pointer (some ⟨b1, 0, none⟩)) ∧ f53 3 = uu0 ∧ f53 8 = (Value.int .i64 ((r_Table).length : Int)) ∧ f53 9 = Value.int .i64 (((r_Table).length : Nat) : Int) ∧ InR .i64 (((r_Table).length : Nat) : Int) ∧ St wd2 wd54 [(Ty.sl (Ty.i .i64)).at uu0 x58] := hI56
      obtain ⟨u59, hf60, hf61, hf62, hf63, hr64, hS65⟩ := hI56
      refine W.seq (W.region ?_)
      refine WL.val (Value.bool (decide ((((r_Table).length : Nat) : Int) < ((r_Table).length : Int)))) _ (op_lss hf63 hf62) rfl ?_
      have hl66 : ¬ (((r_Table).length : Nat) : Int) < ((r_Table).length : Int) := by omega
      refine WL.nil ?_
      refine W.seq ?_
      refine W.condF (decide ((((r_Table).length : Nat) : Int) < ((r_Table).length : Int))) rfl (decide_eq_false hl66) ?_
      refine W.exit ?_
      show _ = _ ∧ _
      exact ⟨rfl, _, hs55, u59, hf61, hS65⟩
  · rintro f67 wd68 ⟨x71, rfl, hq69⟩
    replace h := onRes_fin h
    replace hq69 : ∃ (uu0 : Value), f67 3 = uu0 ∧ St wd2 wd68 [(Ty.sl (Ty.i .i64)).at uu0 x71] := hq69
    obtain ⟨u72, hf73, hS74⟩ := hq69
    refine W.seq (W.region ?_)
    refine WL.val u72 _ (op_move hf73) rfl ?_
    refine WL.val u72 _ (op_assign rfl) rfl ?_
    refine WL.nil ?_
    refine W.ret ?_
    obtain rfl := Option.some.inj h
    show FinP _ _ _ _ _ _ _
    exact FinP.ret _ (res1 rfl rfl) ⟨u72, rfl, (Ext.trans hE7 hS74.ext), (St.out (St.pick hS74 [0] rfl) (hE7))⟩

end Go.VG
