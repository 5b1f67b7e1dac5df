/- The walks, part 4: each Go function returns what its plain twin returns. No condition beyond what each names. -/
import Derived.Test.YtogakilgdpinlaaGWalk3
set_option linter.all false
namespace Go.VG
open Go.Proofs
attribute [local irreducible] W WL Sep FinP

theorem c_laws_eqInt64S {w : World} {a : (List Int)} {v_a : Value} {b : (List Int)} {v_b : Value} (r_a : (Ty.sl (Ty.i .i64)).rep w v_a a) (r_b : (Ty.sl (Ty.i .i64)).rep w v_b b) {res : Bool} (h : p_laws_eqInt64S a b  = some res) :
    Ret Try.prog 14 #[v_a, v_b] w (fun v w' => v = Value.bool res ∧ Ext w w') := by
  unfold p_laws_eqInt64S at h
  have hS0 : St w w [] := St.start w
  refine Ret.start (fn := Try.f14) Try.func14 rfl 26 rfl rfl ?_
  refine W.seq (W.region ?_)
  refine WL.val (Value.bool false) _ (op_assign rfl) rfl ?_
  refine WL.nil ?_
  show W _ _ _ _ _ _
  refine W.seq (W.seq (W.region ?_))
  refine WL.val v_a _ (op_move rfl) rfl ?_
  have hr1 := inR_len (Ty.lift _ hS0.ext r_a)
  refine WL.val (Value.int .i64 ((a).length : Int)) _ (op_lenL sl_25 (Ty.lift _ hS0.ext r_a) rfl) rfl ?_
  refine WL.val v_b _ (op_move rfl) rfl ?_
  have hr2 := inR_len (Ty.lift _ hS0.ext r_b)
  refine WL.val (Value.int .i64 ((b).length : Int)) _ (op_lenL sl_25 (Ty.lift _ hS0.ext r_b) rfl) rfl ?_
  refine WL.val (Value.bool (((a).length : Int) != ((b).length : Int))) _ (op_neq rfl rfl) rfl ?_
  refine WL.nil ?_
  show W _ _ _ _ _ _
  refine W.cond (((a).length : Int) != ((b).length : Int)) rfl (fun hc3 => ?_) (fun hc3 => ?_)
  · replace h := ip h hc3
    refine W.seq (W.region ?_)
    refine WL.val (Value.bool false) _ (op_assign rfl) rfl ?_
    refine WL.nil ?_
    show W _ _ _ _ _ _
    refine W.ret ?_
    obtain rfl := Option.some.inj h
    show FinP _ _ _ _ _ _ _
    exact FinP.ret _ (res1 rfl rfl) ⟨rfl, hS0.ext⟩
  · replace h := inegb h hc3
    refine W.skip ?_
    show W _ _ _ _ _ _
    refine W.seq (W.seq (W.region ?_))
    refine WL.val (Value.int .i64 (0 : Int)) _ (op_assign rfl) rfl ?_
    refine WL.nil ?_
    show W _ _ _ _ _ _
    obtain ⟨res5, hres6, h⟩ := bs h
    refine W.blockLoop (fun fq wq => ∃ s, res5 = Res.fin s ∧ St w wq []) ?_ ?_
    · refine W.forN (fun k (s : Unit) fq wq => fq 0 = v_a ∧ fq 1 = v_b ∧ fq 5 = Value.int .i64 (k : Int) ∧ InR .i64 (k : Int) ∧ St w wq []) hres6 ⟨rfl, rfl, rfl, (inR_i64.2 (show (-9223372036854775808 : Int) ≤ 0 ∧ (0 : Int) ≤ 9223372036854775807 from by decide)), hS0⟩ ?_ ?_
      · intro k7 s134 ct8 f9 wd10 hk11 hb12 hI13 hbrk14 hret15
        obtain ⟨⟩ := s134
        replace hI13 : f9 0 = v_a ∧ f9 1 = v_b ∧ f9 5 = Value.int .i64 (k7 : Int) ∧ InR .i64 (k7 : Int) ∧ St w wd10 [] := hI13
        replace hb12 : p_laws_eqInt64S_L1 a b k7  = some ct8 := hb12
        unfold p_laws_eqInt64S_L1 at hb12
        obtain ⟨hf16, hf17, hf18, hr19, hS20⟩ := hI13
        refine W.seq (W.seq (W.region ?_))
        refine WL.val (Value.int .i64 (k7 : Int)) _ (op_move hf18) rfl ?_
        refine WL.val v_a _ (op_move hf16) rfl ?_
        have hr21 := inR_len (Ty.lift _ hS20.ext r_a)
        refine WL.val (Value.int .i64 ((a).length : Int)) _ (op_lenL sl_25 (Ty.lift _ hS20.ext r_a) rfl) rfl ?_
        refine WL.val (Value.bool (decide ((k7 : Int) < ((a).length : Int)))) _ (op_lss rfl rfl) rfl ?_
        have hl22 : (k7 : Int) < ((a).length : Int) := by omega
        refine WL.nil ?_
        show W _ _ _ _ _ _
        refine W.condT (decide ((k7 : Int) < ((a).length : Int))) rfl (decide_eq_true hl22) ?_
        refine W.skip ?_
        show W _ _ _ _ _ _
        refine W.seq ?_
        refine W.block ?_
        refine W.seq ?_
        obtain ⟨x53, hx56, hb12⟩ := bs hb12
        obtain ⟨ha54, hb55, hx56⟩ := idx_some hx56
        obtain ⟨u67, hc68, hr69⟩ := repSl.el r_a hx56
        obtain ⟨rfl, hr69⟩ := hr69
        obtain ⟨x99, hx102, hb12⟩ := bs hb12
        obtain ⟨ha100, hb101, hx102⟩ := idx_some hx102
        obtain ⟨u113, hc114, hr115⟩ := repSl.el r_b hx102
        obtain ⟨rfl, hr115⟩ := hr115
        refine W.drawR mixo 8 [] [fun _ v _ _ => v = v_a, fun _ v _ _ => v = (Value.int .i64 (k7 : Int)) ∧ InR .i64 (k7 : Int), fun _ v _ _ => v = (Value.pointer (some (elA v_a ((k7 : Int)).toNat))), fun _ v _ _ => v = (Value.int .i64 x53) ∧ InR .i64 x53, fun _ v _ _ => v = v_b, fun _ v _ _ => v = (Value.int .i64 (k7 : Int)) ∧ InR .i64 (k7 : Int), fun _ v _ _ => v = (Value.pointer (some (elA v_b ((k7 : Int)).toNat))), fun _ v _ _ => v = (Value.int .i64 x99) ∧ InR .i64 x99] (by kernel_rfl) (by kernel_rfl) ⟨⟨fun _ _ _ _ _ _ h => h, fun _ _ _ _ _ _ h => h⟩, ⟨fun _ _ _ _ _ _ h => h, fun _ _ _ _ _ _ h => h⟩, ⟨fun _ _ _ _ _ _ h => h, fun _ _ _ _ _ _ h => h⟩, ⟨fun _ _ _ _ _ _ h => h, fun _ _ _ _ _ _ h => h⟩, ⟨fun _ _ _ _ _ _ h => h, fun _ _ _ _ _ _ h => h⟩, ⟨fun _ _ _ _ _ _ h => h, fun _ _ _ _ _ _ h => h⟩, ⟨fun _ _ _ _ _ _ h => h, fun _ _ _ _ _ _ h => h⟩, ⟨fun _ _ _ _ _ _ h => h, fun _ _ _ _ _ _ h => h⟩, trivial⟩ ⟨?_, ?_, ?_, ?_, ?_, ?_, ?_, ?_, trivial⟩ ?_
        · refine ObX.op rfl ?_
          intro f24 wd25 he26 hout27 hphi28
          have hS29 : St w wd25 [] := St.extend hS20 he26
          have e30 : f24 0 = v_a := (hout27 0 rfl).trans hf16
          exact OpX.val v_a wd25 rfl (op_move e30) (Ext.refl _) rfl
        · refine ObX.op rfl ?_
          intro f31 wd32 he33 hout34 hphi35
          have hS36 : St w wd32 [] := St.extend hS20 he33
          have e37 : f31 5 = (Value.int .i64 (k7 : Int)) := (hout34 5 rfl).trans hf18
          exact OpX.val (Value.int .i64 (k7 : Int)) wd32 rfl (op_move e37) (Ext.refl _) ⟨rfl, hr19⟩
        · refine ObX.op rfl ?_
          intro f38 wd39 he40 hout41 hphi42
          have hS43 : St w wd39 [] := St.extend hS20 he40
          obtain ⟨S44, hS45, hf46⟩ := hphi42 0 17 _ rfl rfl rfl
          have e47 : f38 17 = v_a := hf46
          obtain ⟨S48, hS49, hf50⟩ := hphi42 1 18 _ rfl rfl rfl
          obtain ⟨e51, hr52⟩ : f38 18 = (Value.int .i64 (k7 : Int)) ∧ InR .i64 (k7 : Int) := hf50
          exact OpX.val (Value.pointer (some (elA v_a ((k7 : Int)).toNat))) wd39 rfl (op_idx sl_25 (Ty.lift _ hS43.ext r_a) e47 e51 ha54 hb55) (Ext.refl _) rfl
        · refine ObX.op rfl ?_
          intro f57 wd58 he59 hout60 hphi61
          have hS62 : St w wd58 [] := St.extend hS20 he59
          obtain ⟨S63, hS64, hf65⟩ := hphi61 2 19 _ rfl rfl rfl
          have e66 : f57 19 = (Value.pointer (some (elA v_a ((k7 : Int)).toNat))) := hf65
          exact OpX.val (Value.int .i64 x53) wd58 rfl (op_load one_2 e66 (Ext.cell hS62.ext hc68)) (Ext.refl _) ⟨rfl, hr69⟩
        · refine ObX.op rfl ?_
          intro f70 wd71 he72 hout73 hphi74
          have hS75 : St w wd71 [] := St.extend hS20 he72
          have e76 : f70 1 = v_b := (hout73 1 rfl).trans hf17
          exact OpX.val v_b wd71 rfl (op_move e76) (Ext.refl _) rfl
        · refine ObX.op rfl ?_
          intro f77 wd78 he79 hout80 hphi81
          have hS82 : St w wd78 [] := St.extend hS20 he79
          have e83 : f77 5 = (Value.int .i64 (k7 : Int)) := (hout80 5 rfl).trans hf18
          exact OpX.val (Value.int .i64 (k7 : Int)) wd78 rfl (op_move e83) (Ext.refl _) ⟨rfl, hr19⟩
        · refine ObX.op rfl ?_
          intro f84 wd85 he86 hout87 hphi88
          have hS89 : St w wd85 [] := St.extend hS20 he86
          obtain ⟨S90, hS91, hf92⟩ := hphi88 4 21 _ rfl rfl rfl
          have e93 : f84 21 = v_b := hf92
          obtain ⟨S94, hS95, hf96⟩ := hphi88 5 22 _ rfl rfl rfl
          obtain ⟨e97, hr98⟩ : f84 22 = (Value.int .i64 (k7 : Int)) ∧ InR .i64 (k7 : Int) := hf96
          exact OpX.val (Value.pointer (some (elA v_b ((k7 : Int)).toNat))) wd85 rfl (op_idx sl_25 (Ty.lift _ hS89.ext r_b) e93 e97 ha100 hb101) (Ext.refl _) rfl
        · refine ObX.op rfl ?_
          intro f103 wd104 he105 hout106 hphi107
          have hS108 : St w wd104 [] := St.extend hS20 he105
          obtain ⟨S109, hS110, hf111⟩ := hphi107 6 23 _ rfl rfl rfl
          have e112 : f103 23 = (Value.pointer (some (elA v_b ((k7 : Int)).toNat))) := hf111
          exact OpX.val (Value.int .i64 x99) wd104 rfl (op_load one_2 e112 (Ext.cell hS108.ext hc114)) (Ext.refl _) ⟨rfl, hr115⟩
        · intro f116 wd117 Ss118 he119 hout120 hSn121 hSd122 hphi123
          show WL _ _ _ _ _ _ _
          have hS124 : St w wd117 [] := St.extend hS20 he119
          obtain ⟨e125, hr126⟩ : f116 20 = (Value.int .i64 x53) ∧ InR .i64 x53 := hphi123 3 20 _ (by decide) rfl rfl
          obtain ⟨e127, hr128⟩ : f116 24 = (Value.int .i64 x99) ∧ InR .i64 x99 := hphi123 7 24 _ (by decide) rfl rfl
          have e129 : f116 0 = v_a := (hout120 0 rfl).trans hf16
          have e130 : f116 1 = v_b := (hout120 1 rfl).trans hf17
          have e131 : f116 5 = (Value.int .i64 (k7 : Int)) := (hout120 5 rfl).trans hf18
          refine WL.val (Value.bool (x53 != x99)) _ (op_neq e125 e127) rfl ?_
          refine WL.nil ?_
          show W _ _ _ _ _ _
          refine W.cond (x53 != x99) rfl (fun hc132 => ?_) (fun hc132 => ?_)
          · replace hb12 := ip hb12 hc132
            refine W.seq (W.region ?_)
            refine WL.val (Value.bool false) _ (op_assign rfl) rfl ?_
            refine WL.nil ?_
            show W _ _ _ _ _ _
            refine W.ret ?_
            obtain rfl := Option.some.inj hb12
            obtain rfl := hret15 _ rfl
            replace h := onRes_ret h
            obtain rfl := Option.some.inj h
            show FinP _ _ _ _ _ _ _
            exact FinP.ret _ (res1 rfl rfl) ⟨rfl, hS124.ext⟩
          · replace hb12 := inegb hb12 hc132
            refine W.skip ?_
            show W _ _ _ _ _ _
            refine W.region ?_
            refine WL.val (Value.int .i64 (k7 : Int)) _ (op_move e131) rfl ?_
            refine WL.val (Value.int .i64 (w64 ((k7 : Int) + (1 : Int)))) _ (op_add rfl rfl) rfl ?_
            refine WL.val (Value.int .i64 (w64 ((k7 : Int) + (1 : Int)))) _ (op_assign rfl) rfl ?_
            refine WL.nil ?_
            obtain rfl := Option.some.inj hb12
            show ∃ s, _ = Ctl.next s ∧ _
            exact ⟨_, rfl, e129, e130, (ctr_next hl22 hr21), (ctr_rng hl22 hr21), hS124⟩
      · intro s139 f135 wd136 hs137 hI138
        obtain ⟨⟩ := s139
        replace hI138 : f135 0 = v_a ∧ f135 1 = v_b ∧ f135 5 = Value.int .i64 (((a).length : Nat) : Int) ∧ InR .i64 (((a).length : Nat) : Int) ∧ St w wd136 [] := hI138
        obtain ⟨hf140, hf141, hf142, hr143, hS144⟩ := hI138
        refine W.seq (W.seq (W.region ?_))
        refine WL.val (Value.int .i64 (((a).length : Nat) : Int)) _ (op_move hf142) rfl ?_
        refine WL.val v_a _ (op_move hf140) rfl ?_
        have hr145 := inR_len (Ty.lift _ hS144.ext r_a)
        refine WL.val (Value.int .i64 ((a).length : Int)) _ (op_lenL sl_25 (Ty.lift _ hS144.ext r_a) rfl) rfl ?_
        refine WL.val (Value.bool (decide ((((a).length : Nat) : Int) < ((a).length : Int)))) _ (op_lss rfl rfl) rfl ?_
        have hl146 : ¬ (((a).length : Nat) : Int) < ((a).length : Int) := by omega
        refine WL.nil ?_
        show W _ _ _ _ _ _
        refine W.condF (decide ((((a).length : Nat) : Int) < ((a).length : Int))) rfl (decide_eq_false hl146) ?_
        refine W.exit ?_
        show _ = _ ∧ _
        exact ⟨rfl, _, hs137, hS144⟩
    · rintro f147 wd148 ⟨s150, rfl, hq149⟩
      replace h := onRes_fin h
      obtain ⟨⟩ := s150
      replace hq149 : St w wd148 [] := hq149
      have hS151 := hq149
      show W _ _ _ _ _ _
      refine W.seq (W.region ?_)
      refine WL.val (Value.bool true) _ (op_assign rfl) rfl ?_
      refine WL.nil ?_
      show W _ _ _ _ _ _
      refine W.ret ?_
      obtain rfl := Option.some.inj h
      show FinP _ _ _ _ _ _ _
      exact FinP.ret _ (res1 rfl rfl) ⟨rfl, hS151.ext⟩

theorem c_laws_eqInt64SS {w : World} {a : (List (List Int))} {v_a : Value} {b : (List (List Int))} {v_b : Value} (r_a : (Ty.sl (Ty.sl (Ty.i .i64))).rep w v_a a) (r_b : (Ty.sl (Ty.sl (Ty.i .i64))).rep w v_b b) {res : Bool} (h : p_laws_eqInt64SS a b  = some res) :
    Ret Try.prog 31 #[v_a, v_b] w (fun v w' => v = Value.bool res ∧ Ext w w') := by
  unfold p_laws_eqInt64SS at h
  have hS0 : St w w [] := St.start w
  refine Ret.start (fn := Try.f31) Try.func31 rfl 27 rfl rfl ?_
  refine W.seq (W.region ?_)
  refine WL.val (Value.bool false) _ (op_assign rfl) rfl ?_
  refine WL.nil ?_
  show W _ _ _ _ _ _
  refine W.seq (W.seq (W.region ?_))
  refine WL.val v_a _ (op_move rfl) rfl ?_
  have hr1 := inR_len (Ty.lift _ hS0.ext r_a)
  refine WL.val (Value.int .i64 ((a).length : Int)) _ (op_lenL sl_43 (Ty.lift _ hS0.ext r_a) rfl) rfl ?_
  refine WL.val v_b _ (op_move rfl) rfl ?_
  have hr2 := inR_len (Ty.lift _ hS0.ext r_b)
  refine WL.val (Value.int .i64 ((b).length : Int)) _ (op_lenL sl_43 (Ty.lift _ hS0.ext r_b) rfl) rfl ?_
  refine WL.val (Value.bool (((a).length : Int) != ((b).length : Int))) _ (op_neq rfl rfl) rfl ?_
  refine WL.nil ?_
  show W _ _ _ _ _ _
  refine W.cond (((a).length : Int) != ((b).length : Int)) rfl (fun hc3 => ?_) (fun hc3 => ?_)
  · replace h := ip h hc3
    refine W.seq (W.region ?_)
    refine WL.val (Value.bool false) _ (op_assign rfl) rfl ?_
    refine WL.nil ?_
    show W _ _ _ _ _ _
    refine W.ret ?_
    obtain rfl := Option.some.inj h
    show FinP _ _ _ _ _ _ _
    exact FinP.ret _ (res1 rfl rfl) ⟨rfl, hS0.ext⟩
  · replace h := inegb h hc3
    refine W.skip ?_
    show W _ _ _ _ _ _
    refine W.seq (W.seq (W.region ?_))
    refine WL.val (Value.int .i64 (0 : Int)) _ (op_assign rfl) rfl ?_
    refine WL.nil ?_
    show W _ _ _ _ _ _
    obtain ⟨res5, hres6, h⟩ := bs h
    refine W.blockLoop (fun fq wq => ∃ s, res5 = Res.fin s ∧ St w wq []) ?_ ?_
    · refine W.forN (fun k (s : Unit) fq wq => fq 0 = v_a ∧ fq 1 = v_b ∧ fq 5 = Value.int .i64 (k : Int) ∧ InR .i64 (k : Int) ∧ St w wq []) hres6 ⟨rfl, rfl, rfl, (inR_i64.2 (show (-9223372036854775808 : Int) ≤ 0 ∧ (0 : Int) ≤ 9223372036854775807 from by decide)), hS0⟩ ?_ ?_
      · intro k7 s138 ct8 f9 wd10 hk11 hb12 hI13 hbrk14 hret15
        obtain ⟨⟩ := s138
        replace hI13 : f9 0 = v_a ∧ f9 1 = v_b ∧ f9 5 = Value.int .i64 (k7 : Int) ∧ InR .i64 (k7 : Int) ∧ St w wd10 [] := hI13
        replace hb12 : p_laws_eqInt64SS_L1 a b k7  = some ct8 := hb12
        unfold p_laws_eqInt64SS_L1 at hb12
        obtain ⟨hf16, hf17, hf18, hr19, hS20⟩ := hI13
        refine W.seq (W.seq (W.region ?_))
        refine WL.val (Value.int .i64 (k7 : Int)) _ (op_move hf18) rfl ?_
        refine WL.val v_a _ (op_move hf16) rfl ?_
        have hr21 := inR_len (Ty.lift _ hS20.ext r_a)
        refine WL.val (Value.int .i64 ((a).length : Int)) _ (op_lenL sl_43 (Ty.lift _ hS20.ext r_a) rfl) rfl ?_
        refine WL.val (Value.bool (decide ((k7 : Int) < ((a).length : Int)))) _ (op_lss rfl rfl) rfl ?_
        have hl22 : (k7 : Int) < ((a).length : Int) := by omega
        refine WL.nil ?_
        show W _ _ _ _ _ _
        refine W.condT (decide ((k7 : Int) < ((a).length : Int))) rfl (decide_eq_true hl22) ?_
        refine W.skip ?_
        show W _ _ _ _ _ _
        refine W.seq ?_
        refine W.block ?_
        refine W.seq ?_
        obtain ⟨x53, hx56, hb12⟩ := bs hb12
        obtain ⟨ha54, hb55, hx56⟩ := idx_some hx56
        obtain ⟨u67, hc68, hr69⟩ := repSl.el r_a hx56
        obtain ⟨x99, hx102, hb12⟩ := bs hb12
        obtain ⟨ha100, hb101, hx102⟩ := idx_some hx102
        obtain ⟨u113, hc114, hr115⟩ := repSl.el r_b hx102
        refine W.drawR mixo 8 [] [fun _ v _ _ => v = v_a, fun _ v _ _ => v = (Value.int .i64 (k7 : Int)) ∧ InR .i64 (k7 : Int), fun _ v _ _ => v = (Value.pointer (some (elA v_a ((k7 : Int)).toNat))), fun _ v _ _ => v = u67, fun _ v _ _ => v = v_b, fun _ v _ _ => v = (Value.int .i64 (k7 : Int)) ∧ InR .i64 (k7 : Int), fun _ v _ _ => v = (Value.pointer (some (elA v_b ((k7 : Int)).toNat))), fun _ v _ _ => v = u113] (by kernel_rfl) (by kernel_rfl) ⟨⟨fun _ _ _ _ _ _ h => h, fun _ _ _ _ _ _ h => h⟩, ⟨fun _ _ _ _ _ _ h => h, fun _ _ _ _ _ _ h => h⟩, ⟨fun _ _ _ _ _ _ h => h, fun _ _ _ _ _ _ h => h⟩, ⟨fun _ _ _ _ _ _ h => h, fun _ _ _ _ _ _ h => h⟩, ⟨fun _ _ _ _ _ _ h => h, fun _ _ _ _ _ _ h => h⟩, ⟨fun _ _ _ _ _ _ h => h, fun _ _ _ _ _ _ h => h⟩, ⟨fun _ _ _ _ _ _ h => h, fun _ _ _ _ _ _ h => h⟩, ⟨fun _ _ _ _ _ _ h => h, fun _ _ _ _ _ _ h => h⟩, trivial⟩ ⟨?_, ?_, ?_, ?_, ?_, ?_, ?_, ?_, trivial⟩ ?_
        · refine ObX.op rfl ?_
          intro f24 wd25 he26 hout27 hphi28
          have hS29 : St w wd25 [] := St.extend hS20 he26
          have e30 : f24 0 = v_a := (hout27 0 rfl).trans hf16
          exact OpX.val v_a wd25 rfl (op_move e30) (Ext.refl _) rfl
        · refine ObX.op rfl ?_
          intro f31 wd32 he33 hout34 hphi35
          have hS36 : St w wd32 [] := St.extend hS20 he33
          have e37 : f31 5 = (Value.int .i64 (k7 : Int)) := (hout34 5 rfl).trans hf18
          exact OpX.val (Value.int .i64 (k7 : Int)) wd32 rfl (op_move e37) (Ext.refl _) ⟨rfl, hr19⟩
        · refine ObX.op rfl ?_
          intro f38 wd39 he40 hout41 hphi42
          have hS43 : St w wd39 [] := St.extend hS20 he40
          obtain ⟨S44, hS45, hf46⟩ := hphi42 0 17 _ rfl rfl rfl
          have e47 : f38 17 = v_a := hf46
          obtain ⟨S48, hS49, hf50⟩ := hphi42 1 18 _ rfl rfl rfl
          obtain ⟨e51, hr52⟩ : f38 18 = (Value.int .i64 (k7 : Int)) ∧ InR .i64 (k7 : Int) := hf50
          exact OpX.val (Value.pointer (some (elA v_a ((k7 : Int)).toNat))) wd39 rfl (op_idx sl_43 (Ty.lift _ hS43.ext r_a) e47 e51 ha54 hb55) (Ext.refl _) rfl
        · refine ObX.op rfl ?_
          intro f57 wd58 he59 hout60 hphi61
          have hS62 : St w wd58 [] := St.extend hS20 he59
          obtain ⟨S63, hS64, hf65⟩ := hphi61 2 19 _ rfl rfl rfl
          have e66 : f57 19 = (Value.pointer (some (elA v_a ((k7 : Int)).toNat))) := hf65
          exact OpX.val u67 wd58 rfl (op_load one_25 e66 (Ext.cell hS62.ext hc68)) (Ext.refl _) rfl
        · refine ObX.op rfl ?_
          intro f70 wd71 he72 hout73 hphi74
          have hS75 : St w wd71 [] := St.extend hS20 he72
          have e76 : f70 1 = v_b := (hout73 1 rfl).trans hf17
          exact OpX.val v_b wd71 rfl (op_move e76) (Ext.refl _) rfl
        · refine ObX.op rfl ?_
          intro f77 wd78 he79 hout80 hphi81
          have hS82 : St w wd78 [] := St.extend hS20 he79
          have e83 : f77 5 = (Value.int .i64 (k7 : Int)) := (hout80 5 rfl).trans hf18
          exact OpX.val (Value.int .i64 (k7 : Int)) wd78 rfl (op_move e83) (Ext.refl _) ⟨rfl, hr19⟩
        · refine ObX.op rfl ?_
          intro f84 wd85 he86 hout87 hphi88
          have hS89 : St w wd85 [] := St.extend hS20 he86
          obtain ⟨S90, hS91, hf92⟩ := hphi88 4 21 _ rfl rfl rfl
          have e93 : f84 21 = v_b := hf92
          obtain ⟨S94, hS95, hf96⟩ := hphi88 5 22 _ rfl rfl rfl
          obtain ⟨e97, hr98⟩ : f84 22 = (Value.int .i64 (k7 : Int)) ∧ InR .i64 (k7 : Int) := hf96
          exact OpX.val (Value.pointer (some (elA v_b ((k7 : Int)).toNat))) wd85 rfl (op_idx sl_43 (Ty.lift _ hS89.ext r_b) e93 e97 ha100 hb101) (Ext.refl _) rfl
        · refine ObX.op rfl ?_
          intro f103 wd104 he105 hout106 hphi107
          have hS108 : St w wd104 [] := St.extend hS20 he105
          obtain ⟨S109, hS110, hf111⟩ := hphi107 6 23 _ rfl rfl rfl
          have e112 : f103 23 = (Value.pointer (some (elA v_b ((k7 : Int)).toNat))) := hf111
          exact OpX.val u113 wd104 rfl (op_load one_25 e112 (Ext.cell hS108.ext hc114)) (Ext.refl _) rfl
        · intro f116 wd117 Ss118 he119 hout120 hSn121 hSd122 hphi123
          show WL _ _ _ _ _ _ _
          have hS124 : St w wd117 [] := St.extend hS20 he119
          have e125 : f116 20 = u67 := hphi123 3 20 _ (by decide) rfl rfl
          have e126 : f116 24 = u113 := hphi123 7 24 _ (by decide) rfl rfl
          have e127 : f116 0 = v_a := (hout120 0 rfl).trans hf16
          have e128 : f116 1 = v_b := (hout120 1 rfl).trans hf17
          have e129 : f116 5 = (Value.int .i64 (k7 : Int)) := (hout120 5 rfl).trans hf18
          obtain ⟨x130, hx131, hb12⟩ := bs hb12
          refine WL.call _ (op_call fn_14 (args2 e125 e126)) (c_laws_eqInt64S (Ty.lift _ hS124.ext hr69) (Ty.lift _ hS124.ext hr115) hx131) rfl ?_
          rintro _ wd132 ⟨rfl, he133⟩
          have hS135 := St.extend hS124 he133
          replace hS135 : St w wd132 [] := hS135
          refine WL.val (Value.bool (!x130)) _ (op_not rfl) rfl ?_
          refine WL.nil ?_
          show W _ _ _ _ _ _
          refine W.cond (!x130) rfl (fun hc136 => ?_) (fun hc136 => ?_)
          · replace hb12 := ip hb12 hc136
            refine W.seq (W.region ?_)
            refine WL.val (Value.bool false) _ (op_assign rfl) rfl ?_
            refine WL.nil ?_
            show W _ _ _ _ _ _
            refine W.ret ?_
            obtain rfl := Option.some.inj hb12
            obtain rfl := hret15 _ rfl
            replace h := onRes_ret h
            obtain rfl := Option.some.inj h
            show FinP _ _ _ _ _ _ _
            exact FinP.ret _ (res1 rfl rfl) ⟨rfl, hS135.ext⟩
          · replace hb12 := inegb hb12 hc136
            refine W.skip ?_
            show W _ _ _ _ _ _
            refine W.region ?_
            refine WL.val (Value.int .i64 (k7 : Int)) _ (op_move e129) rfl ?_
            refine WL.val (Value.int .i64 (w64 ((k7 : Int) + (1 : Int)))) _ (op_add rfl rfl) rfl ?_
            refine WL.val (Value.int .i64 (w64 ((k7 : Int) + (1 : Int)))) _ (op_assign rfl) rfl ?_
            refine WL.nil ?_
            obtain rfl := Option.some.inj hb12
            show ∃ s, _ = Ctl.next s ∧ _
            exact ⟨_, rfl, e127, e128, (ctr_next hl22 hr21), (ctr_rng hl22 hr21), hS135⟩
      · intro s143 f139 wd140 hs141 hI142
        obtain ⟨⟩ := s143
        replace hI142 : f139 0 = v_a ∧ f139 1 = v_b ∧ f139 5 = Value.int .i64 (((a).length : Nat) : Int) ∧ InR .i64 (((a).length : Nat) : Int) ∧ St w wd140 [] := hI142
        obtain ⟨hf144, hf145, hf146, hr147, hS148⟩ := hI142
        refine W.seq (W.seq (W.region ?_))
        refine WL.val (Value.int .i64 (((a).length : Nat) : Int)) _ (op_move hf146) rfl ?_
        refine WL.val v_a _ (op_move hf144) rfl ?_
        have hr149 := inR_len (Ty.lift _ hS148.ext r_a)
        refine WL.val (Value.int .i64 ((a).length : Int)) _ (op_lenL sl_43 (Ty.lift _ hS148.ext r_a) rfl) rfl ?_
        refine WL.val (Value.bool (decide ((((a).length : Nat) : Int) < ((a).length : Int)))) _ (op_lss rfl rfl) rfl ?_
        have hl150 : ¬ (((a).length : Nat) : Int) < ((a).length : Int) := by omega
        refine WL.nil ?_
        show W _ _ _ _ _ _
        refine W.condF (decide ((((a).length : Nat) : Int) < ((a).length : Int))) rfl (decide_eq_false hl150) ?_
        refine W.exit ?_
        show _ = _ ∧ _
        exact ⟨rfl, _, hs141, hS148⟩
    · rintro f151 wd152 ⟨s154, rfl, hq153⟩
      replace h := onRes_fin h
      obtain ⟨⟩ := s154
      replace hq153 : St w wd152 [] := hq153
      have hS155 := hq153
      show W _ _ _ _ _ _
      refine W.seq (W.region ?_)
      refine WL.val (Value.bool true) _ (op_assign rfl) rfl ?_
      refine WL.nil ?_
      show W _ _ _ _ _ _
      refine W.ret ?_
      obtain rfl := Option.some.inj h
      show FinP _ _ _ _ _ _ _
      exact FinP.ret _ (res1 rfl rfl) ⟨rfl, hS155.ext⟩

theorem c_laws_eqInt64SSS {w : World} {a : (List (List (List Int)))} {v_a : Value} {b : (List (List (List Int)))} {v_b : Value} (r_a : (Ty.sl (Ty.sl (Ty.sl (Ty.i .i64)))).rep w v_a a) (r_b : (Ty.sl (Ty.sl (Ty.sl (Ty.i .i64)))).rep w v_b b) {res : Bool} (h : p_laws_eqInt64SSS a b  = some res) :
    Ret Try.prog 43 #[v_a, v_b] w (fun v w' => v = Value.bool res ∧ Ext w w') := by
  unfold p_laws_eqInt64SSS at h
  have hS0 : St w w [] := St.start w
  refine Ret.start (fn := Try.f43) Try.func43 rfl 27 rfl rfl ?_
  refine W.seq (W.region ?_)
  refine WL.val (Value.bool false) _ (op_assign rfl) rfl ?_
  refine WL.nil ?_
  show W _ _ _ _ _ _
  refine W.seq (W.seq (W.region ?_))
  refine WL.val v_a _ (op_move rfl) rfl ?_
  have hr1 := inR_len (Ty.lift _ hS0.ext r_a)
  refine WL.val (Value.int .i64 ((a).length : Int)) _ (op_lenL sl_22 (Ty.lift _ hS0.ext r_a) rfl) rfl ?_
  refine WL.val v_b _ (op_move rfl) rfl ?_
  have hr2 := inR_len (Ty.lift _ hS0.ext r_b)
  refine WL.val (Value.int .i64 ((b).length : Int)) _ (op_lenL sl_22 (Ty.lift _ hS0.ext r_b) rfl) rfl ?_
  refine WL.val (Value.bool (((a).length : Int) != ((b).length : Int))) _ (op_neq rfl rfl) rfl ?_
  refine WL.nil ?_
  show W _ _ _ _ _ _
  refine W.cond (((a).length : Int) != ((b).length : Int)) rfl (fun hc3 => ?_) (fun hc3 => ?_)
  · replace h := ip h hc3
    refine W.seq (W.region ?_)
    refine WL.val (Value.bool false) _ (op_assign rfl) rfl ?_
    refine WL.nil ?_
    show W _ _ _ _ _ _
    refine W.ret ?_
    obtain rfl := Option.some.inj h
    show FinP _ _ _ _ _ _ _
    exact FinP.ret _ (res1 rfl rfl) ⟨rfl, hS0.ext⟩
  · replace h := inegb h hc3
    refine W.skip ?_
    show W _ _ _ _ _ _
    refine W.seq (W.seq (W.region ?_))
    refine WL.val (Value.int .i64 (0 : Int)) _ (op_assign rfl) rfl ?_
    refine WL.nil ?_
    show W _ _ _ _ _ _
    obtain ⟨res5, hres6, h⟩ := bs h
    refine W.blockLoop (fun fq wq => ∃ s, res5 = Res.fin s ∧ St w wq []) ?_ ?_
    · refine W.forN (fun k (s : Unit) fq wq => fq 0 = v_a ∧ fq 1 = v_b ∧ fq 5 = Value.int .i64 (k : Int) ∧ InR .i64 (k : Int) ∧ St w wq []) hres6 ⟨rfl, rfl, rfl, (inR_i64.2 (show (-9223372036854775808 : Int) ≤ 0 ∧ (0 : Int) ≤ 9223372036854775807 from by decide)), hS0⟩ ?_ ?_
      · intro k7 s138 ct8 f9 wd10 hk11 hb12 hI13 hbrk14 hret15
        obtain ⟨⟩ := s138
        replace hI13 : f9 0 = v_a ∧ f9 1 = v_b ∧ f9 5 = Value.int .i64 (k7 : Int) ∧ InR .i64 (k7 : Int) ∧ St w wd10 [] := hI13
        replace hb12 : p_laws_eqInt64SSS_L1 a b k7  = some ct8 := hb12
        unfold p_laws_eqInt64SSS_L1 at hb12
        obtain ⟨hf16, hf17, hf18, hr19, hS20⟩ := hI13
        refine W.seq (W.seq (W.region ?_))
        refine WL.val (Value.int .i64 (k7 : Int)) _ (op_move hf18) rfl ?_
        refine WL.val v_a _ (op_move hf16) rfl ?_
        have hr21 := inR_len (Ty.lift _ hS20.ext r_a)
        refine WL.val (Value.int .i64 ((a).length : Int)) _ (op_lenL sl_22 (Ty.lift _ hS20.ext r_a) rfl) rfl ?_
        refine WL.val (Value.bool (decide ((k7 : Int) < ((a).length : Int)))) _ (op_lss rfl rfl) rfl ?_
        have hl22 : (k7 : Int) < ((a).length : Int) := by omega
        refine WL.nil ?_
        show W _ _ _ _ _ _
        refine W.condT (decide ((k7 : Int) < ((a).length : Int))) rfl (decide_eq_true hl22) ?_
        refine W.skip ?_
        show W _ _ _ _ _ _
        refine W.seq ?_
        refine W.block ?_
        refine W.seq ?_
        obtain ⟨x53, hx56, hb12⟩ := bs hb12
        obtain ⟨ha54, hb55, hx56⟩ := idx_some hx56
        obtain ⟨u67, hc68, hr69⟩ := repSl.el r_a hx56
        obtain ⟨x99, hx102, hb12⟩ := bs hb12
        obtain ⟨ha100, hb101, hx102⟩ := idx_some hx102
        obtain ⟨u113, hc114, hr115⟩ := repSl.el r_b hx102
        refine W.drawR mixo 8 [] [fun _ v _ _ => v = v_a, fun _ v _ _ => v = (Value.int .i64 (k7 : Int)) ∧ InR .i64 (k7 : Int), fun _ v _ _ => v = (Value.pointer (some (elA v_a ((k7 : Int)).toNat))), fun _ v _ _ => v = u67, fun _ v _ _ => v = v_b, fun _ v _ _ => v = (Value.int .i64 (k7 : Int)) ∧ InR .i64 (k7 : Int), fun _ v _ _ => v = (Value.pointer (some (elA v_b ((k7 : Int)).toNat))), fun _ v _ _ => v = u113] (by kernel_rfl) (by kernel_rfl) ⟨⟨fun _ _ _ _ _ _ h => h, fun _ _ _ _ _ _ h => h⟩, ⟨fun _ _ _ _ _ _ h => h, fun _ _ _ _ _ _ h => h⟩, ⟨fun _ _ _ _ _ _ h => h, fun _ _ _ _ _ _ h => h⟩, ⟨fun _ _ _ _ _ _ h => h, fun _ _ _ _ _ _ h => h⟩, ⟨fun _ _ _ _ _ _ h => h, fun _ _ _ _ _ _ h => h⟩, ⟨fun _ _ _ _ _ _ h => h, fun _ _ _ _ _ _ h => h⟩, ⟨fun _ _ _ _ _ _ h => h, fun _ _ _ _ _ _ h => h⟩, ⟨fun _ _ _ _ _ _ h => h, fun _ _ _ _ _ _ h => h⟩, trivial⟩ ⟨?_, ?_, ?_, ?_, ?_, ?_, ?_, ?_, trivial⟩ ?_
        · refine ObX.op rfl ?_
          intro f24 wd25 he26 hout27 hphi28
          have hS29 : St w wd25 [] := St.extend hS20 he26
          have e30 : f24 0 = v_a := (hout27 0 rfl).trans hf16
          exact OpX.val v_a wd25 rfl (op_move e30) (Ext.refl _) rfl
        · refine ObX.op rfl ?_
          intro f31 wd32 he33 hout34 hphi35
          have hS36 : St w wd32 [] := St.extend hS20 he33
          have e37 : f31 5 = (Value.int .i64 (k7 : Int)) := (hout34 5 rfl).trans hf18
          exact OpX.val (Value.int .i64 (k7 : Int)) wd32 rfl (op_move e37) (Ext.refl _) ⟨rfl, hr19⟩
        · refine ObX.op rfl ?_
          intro f38 wd39 he40 hout41 hphi42
          have hS43 : St w wd39 [] := St.extend hS20 he40
          obtain ⟨S44, hS45, hf46⟩ := hphi42 0 17 _ rfl rfl rfl
          have e47 : f38 17 = v_a := hf46
          obtain ⟨S48, hS49, hf50⟩ := hphi42 1 18 _ rfl rfl rfl
          obtain ⟨e51, hr52⟩ : f38 18 = (Value.int .i64 (k7 : Int)) ∧ InR .i64 (k7 : Int) := hf50
          exact OpX.val (Value.pointer (some (elA v_a ((k7 : Int)).toNat))) wd39 rfl (op_idx sl_22 (Ty.lift _ hS43.ext r_a) e47 e51 ha54 hb55) (Ext.refl _) rfl
        · refine ObX.op rfl ?_
          intro f57 wd58 he59 hout60 hphi61
          have hS62 : St w wd58 [] := St.extend hS20 he59
          obtain ⟨S63, hS64, hf65⟩ := hphi61 2 19 _ rfl rfl rfl
          have e66 : f57 19 = (Value.pointer (some (elA v_a ((k7 : Int)).toNat))) := hf65
          exact OpX.val u67 wd58 rfl (op_load one_43 e66 (Ext.cell hS62.ext hc68)) (Ext.refl _) rfl
        · refine ObX.op rfl ?_
          intro f70 wd71 he72 hout73 hphi74
          have hS75 : St w wd71 [] := St.extend hS20 he72
          have e76 : f70 1 = v_b := (hout73 1 rfl).trans hf17
          exact OpX.val v_b wd71 rfl (op_move e76) (Ext.refl _) rfl
        · refine ObX.op rfl ?_
          intro f77 wd78 he79 hout80 hphi81
          have hS82 : St w wd78 [] := St.extend hS20 he79
          have e83 : f77 5 = (Value.int .i64 (k7 : Int)) := (hout80 5 rfl).trans hf18
          exact OpX.val (Value.int .i64 (k7 : Int)) wd78 rfl (op_move e83) (Ext.refl _) ⟨rfl, hr19⟩
        · refine ObX.op rfl ?_
          intro f84 wd85 he86 hout87 hphi88
          have hS89 : St w wd85 [] := St.extend hS20 he86
          obtain ⟨S90, hS91, hf92⟩ := hphi88 4 21 _ rfl rfl rfl
          have e93 : f84 21 = v_b := hf92
          obtain ⟨S94, hS95, hf96⟩ := hphi88 5 22 _ rfl rfl rfl
          obtain ⟨e97, hr98⟩ : f84 22 = (Value.int .i64 (k7 : Int)) ∧ InR .i64 (k7 : Int) := hf96
          exact OpX.val (Value.pointer (some (elA v_b ((k7 : Int)).toNat))) wd85 rfl (op_idx sl_22 (Ty.lift _ hS89.ext r_b) e93 e97 ha100 hb101) (Ext.refl _) rfl
        · refine ObX.op rfl ?_
          intro f103 wd104 he105 hout106 hphi107
          have hS108 : St w wd104 [] := St.extend hS20 he105
          obtain ⟨S109, hS110, hf111⟩ := hphi107 6 23 _ rfl rfl rfl
          have e112 : f103 23 = (Value.pointer (some (elA v_b ((k7 : Int)).toNat))) := hf111
          exact OpX.val u113 wd104 rfl (op_load one_43 e112 (Ext.cell hS108.ext hc114)) (Ext.refl _) rfl
        · intro f116 wd117 Ss118 he119 hout120 hSn121 hSd122 hphi123
          show WL _ _ _ _ _ _ _
          have hS124 : St w wd117 [] := St.extend hS20 he119
          have e125 : f116 20 = u67 := hphi123 3 20 _ (by decide) rfl rfl
          have e126 : f116 24 = u113 := hphi123 7 24 _ (by decide) rfl rfl
          have e127 : f116 0 = v_a := (hout120 0 rfl).trans hf16
          have e128 : f116 1 = v_b := (hout120 1 rfl).trans hf17
          have e129 : f116 5 = (Value.int .i64 (k7 : Int)) := (hout120 5 rfl).trans hf18
          obtain ⟨x130, hx131, hb12⟩ := bs hb12
          refine WL.call _ (op_call fn_31 (args2 e125 e126)) (c_laws_eqInt64SS (Ty.lift _ hS124.ext hr69) (Ty.lift _ hS124.ext hr115) hx131) rfl ?_
          rintro _ wd132 ⟨rfl, he133⟩
          have hS135 := St.extend hS124 he133
          replace hS135 : St w wd132 [] := hS135
          refine WL.val (Value.bool (!x130)) _ (op_not rfl) rfl ?_
          refine WL.nil ?_
          show W _ _ _ _ _ _
          refine W.cond (!x130) rfl (fun hc136 => ?_) (fun hc136 => ?_)
          · replace hb12 := ip hb12 hc136
            refine W.seq (W.region ?_)
            refine WL.val (Value.bool false) _ (op_assign rfl) rfl ?_
            refine WL.nil ?_
            show W _ _ _ _ _ _
            refine W.ret ?_
            obtain rfl := Option.some.inj hb12
            obtain rfl := hret15 _ rfl
            replace h := onRes_ret h
            obtain rfl := Option.some.inj h
            show FinP _ _ _ _ _ _ _
            exact FinP.ret _ (res1 rfl rfl) ⟨rfl, hS135.ext⟩
          · replace hb12 := inegb hb12 hc136
            refine W.skip ?_
            show W _ _ _ _ _ _
            refine W.region ?_
            refine WL.val (Value.int .i64 (k7 : Int)) _ (op_move e129) rfl ?_
            refine WL.val (Value.int .i64 (w64 ((k7 : Int) + (1 : Int)))) _ (op_add rfl rfl) rfl ?_
            refine WL.val (Value.int .i64 (w64 ((k7 : Int) + (1 : Int)))) _ (op_assign rfl) rfl ?_
            refine WL.nil ?_
            obtain rfl := Option.some.inj hb12
            show ∃ s, _ = Ctl.next s ∧ _
            exact ⟨_, rfl, e127, e128, (ctr_next hl22 hr21), (ctr_rng hl22 hr21), hS135⟩
      · intro s143 f139 wd140 hs141 hI142
        obtain ⟨⟩ := s143
        replace hI142 : f139 0 = v_a ∧ f139 1 = v_b ∧ f139 5 = Value.int .i64 (((a).length : Nat) : Int) ∧ InR .i64 (((a).length : Nat) : Int) ∧ St w wd140 [] := hI142
        obtain ⟨hf144, hf145, hf146, hr147, hS148⟩ := hI142
        refine W.seq (W.seq (W.region ?_))
        refine WL.val (Value.int .i64 (((a).length : Nat) : Int)) _ (op_move hf146) rfl ?_
        refine WL.val v_a _ (op_move hf144) rfl ?_
        have hr149 := inR_len (Ty.lift _ hS148.ext r_a)
        refine WL.val (Value.int .i64 ((a).length : Int)) _ (op_lenL sl_22 (Ty.lift _ hS148.ext r_a) rfl) rfl ?_
        refine WL.val (Value.bool (decide ((((a).length : Nat) : Int) < ((a).length : Int)))) _ (op_lss rfl rfl) rfl ?_
        have hl150 : ¬ (((a).length : Nat) : Int) < ((a).length : Int) := by omega
        refine WL.nil ?_
        show W _ _ _ _ _ _
        refine W.condF (decide ((((a).length : Nat) : Int) < ((a).length : Int))) rfl (decide_eq_false hl150) ?_
        refine W.exit ?_
        show _ = _ ∧ _
        exact ⟨rfl, _, hs141, hS148⟩
    · rintro f151 wd152 ⟨s154, rfl, hq153⟩
      replace h := onRes_fin h
      obtain ⟨⟩ := s154
      replace hq153 : St w wd152 [] := hq153
      have hS155 := hq153
      show W _ _ _ _ _ _
      refine W.seq (W.region ?_)
      refine WL.val (Value.bool true) _ (op_assign rfl) rfl ?_
      refine WL.nil ?_
      show W _ _ _ _ _ _
      refine W.ret ?_
      obtain rfl := Option.some.inj h
      show FinP _ _ _ _ _ _ _
      exact FinP.ret _ (res1 rfl rfl) ⟨rfl, hS155.ext⟩

theorem c_laws_eqRing {w : World} {a_Table : (List (List (List Int)))} {v_a_Table : Value} {b_Table : (List (List (List Int)))} {v_b_Table : Value} (r_a_Table : (Ty.sl (Ty.sl (Ty.sl (Ty.i .i64)))).rep w v_a_Table a_Table) (r_b_Table : (Ty.sl (Ty.sl (Ty.sl (Ty.i .i64)))).rep w v_b_Table b_Table) {res : Bool} (h : p_laws_eqRing a_Table b_Table  = some res) :
    Ret Try.prog 15 #[(Value.agg #[v_a_Table]), (Value.agg #[v_b_Table])] w (fun v w' => v = Value.bool res ∧ Ext w w') := by
  unfold p_laws_eqRing at h
  have hS0 : St w w [] := St.start w
  refine Ret.start (fn := Try.f15) Try.func15 rfl 11 rfl rfl ?_
  refine W.seq (W.region ?_)
  refine WL.box hS0 rfl (cs := [v_a_Table]) rfl rfl ?_
  intro b1 wd2 hS3 he4 hx5
  replace hS3 : St w wd2 [bx b1 [v_a_Table]] := hS3
  have hx6 := St.boxAt hS3 0 rfl
  have hE7 : Ext w wd2 := hS3.ext
  have hS8 : St wd2 wd2 [] := St.start wd2
  refine WL.box hS8 rfl (cs := [v_b_Table]) rfl rfl ?_
  intro b9 wd10 hS11 he12 hx13
  replace hS11 : St wd2 wd10 [bx b9 [v_b_Table]] := hS11
  have hx14 := St.boxAt hS11 0 rfl
  have hE15 : Ext w wd10 := (Ext.trans hE7 hS11.ext)
  have hE16 : Ext wd2 wd10 := hS11.ext
  have hS17 : St wd10 wd10 [] := St.start wd10
  refine WL.val (Value.bool false) _ (op_assign rfl) rfl ?_
  refine WL.nil ?_
  show W _ _ _ _ _ _
  refine W.seq (W.seq (W.region ?_))
  refine WL.val (Value.pointer (some ⟨b1, 0, none⟩)) _ (op_fieldAddr fd_29_0 rfl) rfl ?_
  refine WL.val v_a_Table _ (op_load one_22 rfl (BoxAt.cell (BoxAt.lift (Ext.trans hE16 hS17.ext) hx6) rfl)) rfl ?_
  refine WL.val (Value.pointer (some ⟨b9, 0, none⟩)) _ (op_fieldAddr fd_29_0 rfl) rfl ?_
  refine WL.val v_b_Table _ (op_load one_22 rfl (BoxAt.cell (BoxAt.lift hS17.ext hx14) rfl)) rfl ?_
  obtain ⟨x18, hx19, h⟩ := bs h
  refine WL.call _ (op_call fn_43 (args2 rfl rfl)) (c_laws_eqInt64SSS (Ty.lift _ (Ext.trans hE15 hS17.ext) r_a_Table) (Ty.lift _ (Ext.trans hE15 hS17.ext) r_b_Table) hx19) rfl ?_
  rintro _ wd20 ⟨rfl, he21⟩
  have hS23 := St.extend hS17 he21
  replace hS23 : St wd10 wd20 [] := hS23
  refine WL.val (Value.bool (!x18)) _ (op_not rfl) rfl ?_
  refine WL.nil ?_
  show W _ _ _ _ _ _
  refine W.cond (!x18) rfl (fun hc24 => ?_) (fun hc24 => ?_)
  · replace h := ip h hc24
    refine W.seq (W.region ?_)
    refine WL.val (Value.bool false) _ (op_assign rfl) rfl ?_
    refine WL.nil ?_
    show W _ _ _ _ _ _
    refine W.ret ?_
    obtain rfl := Option.some.inj h
    show FinP _ _ _ _ _ _ _
    exact FinP.ret _ (res1 rfl rfl) ⟨rfl, (Ext.trans hE15 hS23.ext)⟩
  · replace h := inegb h hc24
    refine W.skip ?_
    show W _ _ _ _ _ _
    refine W.seq (W.region ?_)
    refine WL.val (Value.bool true) _ (op_assign rfl) rfl ?_
    refine WL.nil ?_
    show W _ _ _ _ _ _
    refine W.ret ?_
    obtain rfl := Option.some.inj h
    show FinP _ _ _ _ _ _ _
    exact FinP.ret _ (res1 rfl rfl) ⟨rfl, (Ext.trans hE15 hS23.ext)⟩

theorem c_laws_markInt64S {w : World} {a : (List Int)} {v_a : Value} {k1 : Int} {w0 : World} {R : Ent} (hS0 : St w0 w [(Ty.sl (Ty.i .i64)).at v_a a, R]) (r_k1 : InR .i64 k1) {res : Int × (List Int)} (h : p_laws_markInt64S a k1  = some res) :
    Ret Try.prog 17 #[v_a, (Value.int .i64 k1)] w (fun v w' => v = Value.int .i64 res.1 ∧ InR .i64 res.1 ∧ St w0 w' [(Ty.sl (Ty.i .i64)).at v_a res.2, R]) := by
  unfold p_laws_markInt64S at h
  refine Ret.start (fn := Try.f17) Try.func17 rfl 19 rfl rfl ?_
  refine W.seq (W.region ?_)
  refine WL.val (Value.int .i64 (0 : Int)) _ (op_assign rfl) rfl ?_
  refine WL.nil ?_
  show W _ _ _ _ _ _
  refine W.seq (W.seq (W.region ?_))
  refine WL.val (Value.int .i64 (0 : Int)) _ (op_assign rfl) rfl ?_
  refine WL.nil ?_
  show W _ _ _ _ _ _
  obtain ⟨res1, hres2, h⟩ := bs h
  refine W.blockLoop (fun fq wq => ∃ s, res1 = Res.fin s ∧ fq 1 = Value.int .i64 s.2 ∧ InR .i64 s.2 ∧ (s.1).length = (a).length ∧ St w0 wq [(Ty.sl (Ty.i .i64)).at v_a s.1, R]) ?_ ?_
  · refine W.forN (fun k (s : (List Int) × Int) fq wq => fq 0 = v_a ∧ fq 1 = Value.int .i64 s.2 ∧ InR .i64 s.2 ∧ fq 5 = Value.int .i64 (k : Int) ∧ InR .i64 (k : Int) ∧ (s.1).length = (a).length ∧ St w0 wq [(Ty.sl (Ty.i .i64)).at v_a s.1, R]) hres2 ⟨rfl, rfl, r_k1, rfl, (inR_i64.2 (show (-9223372036854775808 : Int) ≤ 0 ∧ (0 : Int) ≤ 9223372036854775807 from by decide)), rfl, hS0⟩ ?_ ?_
    · intro k3 s30 ct6 f7 wd8 hk9 hb10 hI11 hbrk12 hret13
      obtain ⟨x4, x5⟩ := s30
      replace hI11 : f7 0 = v_a ∧ f7 1 = Value.int .i64 x5 ∧ InR .i64 x5 ∧ f7 5 = Value.int .i64 (k3 : Int) ∧ InR .i64 (k3 : Int) ∧ (x4).length = (a).length ∧ St w0 wd8 [(Ty.sl (Ty.i .i64)).at v_a x4, R] := hI11
      replace hb10 : p_laws_markInt64S_L1  k3 x4 x5 = some ct6 := hb10
      unfold p_laws_markInt64S_L1 at hb10
      obtain ⟨hf14, hf15, hr16, hf17, hr18, hL19, hS20⟩ := hI11
      refine W.seq (W.seq (W.region ?_))
      refine WL.val (Value.int .i64 (k3 : Int)) _ (op_move hf17) rfl ?_
      refine WL.val v_a _ (op_move hf14) rfl ?_
      have hr21 := inR_len (St.rep (t := (Ty.sl (Ty.i .i64))) hS20 0 rfl)
      refine WL.val (Value.int .i64 ((x4).length : Int)) _ (op_lenL sl_25 (St.rep (t := (Ty.sl (Ty.i .i64))) hS20 0 rfl) rfl) rfl ?_
      refine WL.val (Value.bool (decide ((k3 : Int) < ((x4).length : Int)))) _ (op_lss rfl rfl) rfl ?_
      have hl22 : (k3 : Int) < ((x4).length : Int) := by omega
      refine WL.nil ?_
      show W _ _ _ _ _ _
      refine W.condT (decide ((k3 : Int) < ((x4).length : Int))) rfl (decide_eq_true hl22) ?_
      refine W.skip ?_
      show W _ _ _ _ _ _
      refine W.seq ?_
      refine W.block ?_
      refine W.seq (W.region ?_)
      refine WL.val v_a _ (op_move hf14) rfl ?_
      refine WL.val (Value.int .i64 (k3 : Int)) _ (op_move hf17) rfl ?_
      refine WL.val (Value.int .i64 x5) _ (op_move hf15) rfl ?_
      obtain ⟨x24, hx27, hb10⟩ := bs hb10
      obtain ⟨ha25, hb26, hx27⟩ := idx_some hx27
      refine WL.val (Value.pointer (some (elA v_a ((k3 : Int)).toNat))) _ (op_idx sl_25 (St.rep (t := (Ty.sl (Ty.i .i64))) hS20 0 rfl) rfl rfl ha25 hb26) rfl ?_
      refine WL.storeEl (flat_i .i64) hS20 (k := 0) rfl sz_2 rfl rfl (lt_of_idx ha25 hb26) ⟨rfl, hr16⟩ ?_
      intro wd28 hS29
      replace hS29 : St w0 wd28 [(Ty.sl (Ty.i .i64)).at v_a ((x4).set ((k3 : Int)).toNat x5), R] := hS29
      refine WL.nil ?_
      show W _ _ _ _ _ _
      refine W.region ?_
      refine WL.val (Value.int .i64 x5) _ (op_move hf15) rfl ?_
      refine WL.val (Value.int .i64 (w64 (x5 + (1 : Int)))) _ (op_add rfl rfl) rfl ?_
      refine WL.val (Value.int .i64 (w64 (x5 + (1 : Int)))) _ (op_assign rfl) rfl ?_
      refine WL.nil ?_
      show W _ _ _ _ _ _
      refine W.region ?_
      refine WL.val (Value.int .i64 (k3 : Int)) _ (op_move hf17) rfl ?_
      refine WL.val (Value.int .i64 (w64 ((k3 : Int) + (1 : Int)))) _ (op_add rfl rfl) rfl ?_
      refine WL.val (Value.int .i64 (w64 ((k3 : Int) + (1 : Int)))) _ (op_assign rfl) rfl ?_
      refine WL.nil ?_
      obtain rfl := Option.some.inj hb10
      show ∃ s, _ = Ctl.next s ∧ _
      exact ⟨_, rfl, hf14, rfl, (inR_wrap _ _), (ctr_next hl22 hr21), (ctr_rng hl22 hr21), (by first | exact hL19 | (simp only [List.length_set]; exact hL19)), hS29⟩
    · intro s35 f31 wd32 hs33 hI34
      obtain ⟨x36, x37⟩ := s35
      replace hI34 : f31 0 = v_a ∧ f31 1 = Value.int .i64 x37 ∧ InR .i64 x37 ∧ f31 5 = Value.int .i64 (((a).length : Nat) : Int) ∧ InR .i64 (((a).length : Nat) : Int) ∧ (x36).length = (a).length ∧ St w0 wd32 [(Ty.sl (Ty.i .i64)).at v_a x36, R] := hI34
      obtain ⟨hf38, hf39, hr40, hf41, hr42, hL43, hS44⟩ := hI34
      refine W.seq (W.seq (W.region ?_))
      refine WL.val (Value.int .i64 (((a).length : Nat) : Int)) _ (op_move hf41) rfl ?_
      refine WL.val v_a _ (op_move hf38) rfl ?_
      have hr45 := inR_len (St.rep (t := (Ty.sl (Ty.i .i64))) hS44 0 rfl)
      refine WL.val (Value.int .i64 ((x36).length : Int)) _ (op_lenL sl_25 (St.rep (t := (Ty.sl (Ty.i .i64))) hS44 0 rfl) rfl) rfl ?_
      refine WL.val (Value.bool (decide ((((a).length : Nat) : Int) < ((x36).length : Int)))) _ (op_lss rfl rfl) rfl ?_
      have hl46 : ¬ (((a).length : Nat) : Int) < ((x36).length : Int) := by omega
      refine WL.nil ?_
      show W _ _ _ _ _ _
      refine W.condF (decide ((((a).length : Nat) : Int) < ((x36).length : Int))) rfl (decide_eq_false hl46) ?_
      refine W.exit ?_
      show _ = _ ∧ _
      exact ⟨rfl, _, hs33, hf39, hr40, (by first | exact hL43 | (simp only [List.length_set]; exact hL43)), hS44⟩
  · rintro f47 wd48 ⟨s50, rfl, hq49⟩
    replace h := onRes_fin h
    obtain ⟨x51, x52⟩ := s50
    replace hq49 : f47 1 = Value.int .i64 x52 ∧ InR .i64 x52 ∧ (x51).length = (a).length ∧ St w0 wd48 [(Ty.sl (Ty.i .i64)).at v_a x51, R] := hq49
    replace h : (_ : Option _) = _ := h
    dsimp only at h
    obtain ⟨hf53, hr54, hL55, hS56⟩ := hq49
    show W _ _ _ _ _ _
    refine W.seq (W.region ?_)
    refine WL.val (Value.int .i64 x52) _ (op_move hf53) rfl ?_
    refine WL.val (Value.int .i64 x52) _ (op_assign rfl) rfl ?_
    refine WL.nil ?_
    show W _ _ _ _ _ _
    refine W.ret ?_
    obtain rfl := Option.some.inj h
    show FinP _ _ _ _ _ _ _
    exact FinP.ret _ (res1 rfl rfl) ⟨rfl, hr54, (St.pick hS56 [0, 1] rfl)⟩

theorem c_laws_markInt64SS {w : World} {a : (List (List Int))} {v_a : Value} {k1 : Int} {w0 : World} {R : Ent} (hS0 : St w0 w [(Ty.sl (Ty.sl (Ty.i .i64))).at v_a a, R]) (r_k1 : InR .i64 k1) {res : Int × (List (List Int))} (h : p_laws_markInt64SS a k1  = some res) :
    Ret Try.prog 32 #[v_a, (Value.int .i64 k1)] w (fun v w' => v = Value.int .i64 res.1 ∧ InR .i64 res.1 ∧ St w0 w' [(Ty.sl (Ty.sl (Ty.i .i64))).at v_a res.2, R]) := by
  unfold p_laws_markInt64SS at h
  refine Ret.start (fn := Try.f32) Try.func32 rfl 19 rfl rfl ?_
  refine W.seq (W.region ?_)
  refine WL.val (Value.int .i64 (0 : Int)) _ (op_assign rfl) rfl ?_
  refine WL.nil ?_
  show W _ _ _ _ _ _
  refine W.seq (W.seq (W.region ?_))
  refine WL.val (Value.int .i64 (0 : Int)) _ (op_assign rfl) rfl ?_
  refine WL.nil ?_
  show W _ _ _ _ _ _
  obtain ⟨res1, hres2, h⟩ := bs h
  refine W.blockLoop (fun fq wq => ∃ s, res1 = Res.fin s ∧ fq 1 = Value.int .i64 s.2 ∧ InR .i64 s.2 ∧ (s.1).length = (a).length ∧ St w0 wq [(Ty.sl (Ty.sl (Ty.i .i64))).at v_a s.1, R]) ?_ ?_
  · refine W.forN (fun k (s : (List (List Int)) × Int) fq wq => fq 0 = v_a ∧ fq 1 = Value.int .i64 s.2 ∧ InR .i64 s.2 ∧ fq 5 = Value.int .i64 (k : Int) ∧ InR .i64 (k : Int) ∧ (s.1).length = (a).length ∧ St w0 wq [(Ty.sl (Ty.sl (Ty.i .i64))).at v_a s.1, R]) hres2 ⟨rfl, rfl, r_k1, rfl, (inR_i64.2 (show (-9223372036854775808 : Int) ≤ 0 ∧ (0 : Int) ≤ 9223372036854775807 from by decide)), rfl, hS0⟩ ?_ ?_
    · intro k3 s40 ct6 f7 wd8 hk9 hb10 hI11 hbrk12 hret13
      obtain ⟨x4, x5⟩ := s40
      replace hI11 : f7 0 = v_a ∧ f7 1 = Value.int .i64 x5 ∧ InR .i64 x5 ∧ f7 5 = Value.int .i64 (k3 : Int) ∧ InR .i64 (k3 : Int) ∧ (x4).length = (a).length ∧ St w0 wd8 [(Ty.sl (Ty.sl (Ty.i .i64))).at v_a x4, R] := hI11
      replace hb10 : p_laws_markInt64SS_L1  k3 x4 x5 = some ct6 := hb10
      unfold p_laws_markInt64SS_L1 at hb10
      obtain ⟨hf14, hf15, hr16, hf17, hr18, hL19, hS20⟩ := hI11
      refine W.seq (W.seq (W.region ?_))
      refine WL.val (Value.int .i64 (k3 : Int)) _ (op_move hf17) rfl ?_
      refine WL.val v_a _ (op_move hf14) rfl ?_
      have hr21 := inR_len (St.rep (t := (Ty.sl (Ty.sl (Ty.i .i64)))) hS20 0 rfl)
      refine WL.val (Value.int .i64 ((x4).length : Int)) _ (op_lenL sl_43 (St.rep (t := (Ty.sl (Ty.sl (Ty.i .i64)))) hS20 0 rfl) rfl) rfl ?_
      refine WL.val (Value.bool (decide ((k3 : Int) < ((x4).length : Int)))) _ (op_lss rfl rfl) rfl ?_
      have hl22 : (k3 : Int) < ((x4).length : Int) := by omega
      refine WL.nil ?_
      show W _ _ _ _ _ _
      refine W.condT (decide ((k3 : Int) < ((x4).length : Int))) rfl (decide_eq_true hl22) ?_
      refine W.skip ?_
      show W _ _ _ _ _ _
      refine W.seq ?_
      refine W.block ?_
      refine W.region ?_
      refine WL.val v_a _ (op_move hf14) rfl ?_
      refine WL.val (Value.int .i64 (k3 : Int)) _ (op_move hf17) rfl ?_
      obtain ⟨x24, hx27, hb10⟩ := bs hb10
      obtain ⟨ha25, hb26, hx27⟩ := idx_some hx27
      refine WL.val (Value.pointer (some (elA v_a ((k3 : Int)).toNat))) _ (op_idx sl_43 (St.rep (t := (Ty.sl (Ty.sl (Ty.i .i64)))) hS20 0 rfl) rfl rfl ha25 hb26) rfl ?_
      obtain ⟨u28, hc29, hr30⟩ := repSl.el (St.rep (t := (Ty.sl (Ty.sl (Ty.i .i64)))) hS20 0 rfl) hx27
      refine WL.val u28 _ (op_load one_25 rfl hc29) rfl ?_
      refine WL.val (Value.int .i64 x5) _ (op_move hf15) rfl ?_
      have hS31 := St.unrow (k := 0) hS20 rfl hx27 hc29
      replace hS31 : St w0 wd8 [holeAt (Ty.sl (Ty.i .i64)) v_a x4 ((k3 : Int)).toNat u28, R, (Ty.sl (Ty.i .i64)).at u28 x24] := hS31
      obtain ⟨x32, hx33, hb10⟩ := bs hb10
      have hS34 := St.fold [(Ty.sl (Ty.i .i64)).at u28 x24] [holeAt (Ty.sl (Ty.i .i64)) v_a x4 ((k3 : Int)).toNat u28, R] (St.pick hS31 [2, 0, 1] rfl)
      refine WL.call _ (op_call fn_17 (args2 rfl rfl)) (c_laws_markInt64S hS34 hr16 hx33) rfl ?_
      rintro _ wd37 ⟨rfl, hr38, hS35⟩
      have hS36 := St.pick (St.unfold [(Ty.sl (Ty.i .i64)).at u28 x32.2] [holeAt (Ty.sl (Ty.i .i64)) v_a x4 ((k3 : Int)).toNat u28, R] hS35) [1, 2, 0] rfl
      replace hS36 : St w0 wd37 [holeAt (Ty.sl (Ty.i .i64)) v_a x4 ((k3 : Int)).toNat u28, R, (Ty.sl (Ty.i .i64)).at u28 x32.2] := hS36
      have hS39 := St.rerow (k := 0) (k2 := 2) hS36 rfl rfl rfl
      replace hS39 : St w0 wd37 [(Ty.sl (Ty.sl (Ty.i .i64))).at v_a ((x4).set ((k3 : Int)).toNat x32.2), R, emp] := hS39
      refine WL.val (Value.int .i64 x32.1) _ (op_assign rfl) rfl ?_
      refine WL.nil ?_
      show W _ _ _ _ _ _
      refine W.region ?_
      refine WL.val (Value.int .i64 (k3 : Int)) _ (op_move hf17) rfl ?_
      refine WL.val (Value.int .i64 (w64 ((k3 : Int) + (1 : Int)))) _ (op_add rfl rfl) rfl ?_
      refine WL.val (Value.int .i64 (w64 ((k3 : Int) + (1 : Int)))) _ (op_assign rfl) rfl ?_
      refine WL.nil ?_
      obtain rfl := Option.some.inj hb10
      show ∃ s, _ = Ctl.next s ∧ _
      exact ⟨_, rfl, hf14, rfl, hr38, (ctr_next hl22 hr21), (ctr_rng hl22 hr21), (by first | exact hL19 | (simp only [List.length_set]; exact hL19)), (St.pick hS39 [0, 1] rfl)⟩
    · intro s45 f41 wd42 hs43 hI44
      obtain ⟨x46, x47⟩ := s45
      replace hI44 : f41 0 = v_a ∧ f41 1 = Value.int .i64 x47 ∧ InR .i64 x47 ∧ f41 5 = Value.int .i64 (((a).length : Nat) : Int) ∧ InR .i64 (((a).length : Nat) : Int) ∧ (x46).length = (a).length ∧ St w0 wd42 [(Ty.sl (Ty.sl (Ty.i .i64))).at v_a x46, R] := hI44
      obtain ⟨hf48, hf49, hr50, hf51, hr52, hL53, hS54⟩ := hI44
      refine W.seq (W.seq (W.region ?_))
      refine WL.val (Value.int .i64 (((a).length : Nat) : Int)) _ (op_move hf51) rfl ?_
      refine WL.val v_a _ (op_move hf48) rfl ?_
      have hr55 := inR_len (St.rep (t := (Ty.sl (Ty.sl (Ty.i .i64)))) hS54 0 rfl)
      refine WL.val (Value.int .i64 ((x46).length : Int)) _ (op_lenL sl_43 (St.rep (t := (Ty.sl (Ty.sl (Ty.i .i64)))) hS54 0 rfl) rfl) rfl ?_
      refine WL.val (Value.bool (decide ((((a).length : Nat) : Int) < ((x46).length : Int)))) _ (op_lss rfl rfl) rfl ?_
      have hl56 : ¬ (((a).length : Nat) : Int) < ((x46).length : Int) := by omega
      refine WL.nil ?_
      show W _ _ _ _ _ _
      refine W.condF (decide ((((a).length : Nat) : Int) < ((x46).length : Int))) rfl (decide_eq_false hl56) ?_
      refine W.exit ?_
      show _ = _ ∧ _
      exact ⟨rfl, _, hs43, hf49, hr50, (by first | exact hL53 | (simp only [List.length_set]; exact hL53)), hS54⟩
  · rintro f57 wd58 ⟨s60, rfl, hq59⟩
    replace h := onRes_fin h
    obtain ⟨x61, x62⟩ := s60
    replace hq59 : f57 1 = Value.int .i64 x62 ∧ InR .i64 x62 ∧ (x61).length = (a).length ∧ St w0 wd58 [(Ty.sl (Ty.sl (Ty.i .i64))).at v_a x61, R] := hq59
    replace h : (_ : Option _) = _ := h
    dsimp only at h
    obtain ⟨hf63, hr64, hL65, hS66⟩ := hq59
    show W _ _ _ _ _ _
    refine W.seq (W.region ?_)
    refine WL.val (Value.int .i64 x62) _ (op_move hf63) rfl ?_
    refine WL.val (Value.int .i64 x62) _ (op_assign rfl) rfl ?_
    refine WL.nil ?_
    show W _ _ _ _ _ _
    refine W.ret ?_
    obtain rfl := Option.some.inj h
    show FinP _ _ _ _ _ _ _
    exact FinP.ret _ (res1 rfl rfl) ⟨rfl, hr64, (St.pick hS66 [0, 1] rfl)⟩

theorem c_laws_markInt64SSS {w : World} {a : (List (List (List Int)))} {v_a : Value} {k1 : Int} {w0 : World} {R : Ent} (hS0 : St w0 w [(Ty.sl (Ty.sl (Ty.sl (Ty.i .i64)))).at v_a a, R]) (r_k1 : InR .i64 k1) {res : Int × (List (List (List Int)))} (h : p_laws_markInt64SSS a k1  = some res) :
    Ret Try.prog 44 #[v_a, (Value.int .i64 k1)] w (fun v w' => v = Value.int .i64 res.1 ∧ InR .i64 res.1 ∧ St w0 w' [(Ty.sl (Ty.sl (Ty.sl (Ty.i .i64)))).at v_a res.2, R]) := by
  unfold p_laws_markInt64SSS at h
  refine Ret.start (fn := Try.f44) Try.func44 rfl 19 rfl rfl ?_
  refine W.seq (W.region ?_)
  refine WL.val (Value.int .i64 (0 : Int)) _ (op_assign rfl) rfl ?_
  refine WL.nil ?_
  show W _ _ _ _ _ _
  refine W.seq (W.seq (W.region ?_))
  refine WL.val (Value.int .i64 (0 : Int)) _ (op_assign rfl) rfl ?_
  refine WL.nil ?_
  show W _ _ _ _ _ _
  obtain ⟨res1, hres2, h⟩ := bs h
  refine W.blockLoop (fun fq wq => ∃ s, res1 = Res.fin s ∧ fq 1 = Value.int .i64 s.2 ∧ InR .i64 s.2 ∧ (s.1).length = (a).length ∧ St w0 wq [(Ty.sl (Ty.sl (Ty.sl (Ty.i .i64)))).at v_a s.1, R]) ?_ ?_
  · refine W.forN (fun k (s : (List (List (List Int))) × Int) fq wq => fq 0 = v_a ∧ fq 1 = Value.int .i64 s.2 ∧ InR .i64 s.2 ∧ fq 5 = Value.int .i64 (k : Int) ∧ InR .i64 (k : Int) ∧ (s.1).length = (a).length ∧ St w0 wq [(Ty.sl (Ty.sl (Ty.sl (Ty.i .i64)))).at v_a s.1, R]) hres2 ⟨rfl, rfl, r_k1, rfl, (inR_i64.2 (show (-9223372036854775808 : Int) ≤ 0 ∧ (0 : Int) ≤ 9223372036854775807 from by decide)), rfl, hS0⟩ ?_ ?_
    · intro k3 s40 ct6 f7 wd8 hk9 hb10 hI11 hbrk12 hret13
      obtain ⟨x4, x5⟩ := s40
      replace hI11 : f7 0 = v_a ∧ f7 1 = Value.int .i64 x5 ∧ InR .i64 x5 ∧ f7 5 = Value.int .i64 (k3 : Int) ∧ InR .i64 (k3 : Int) ∧ (x4).length = (a).length ∧ St w0 wd8 [(Ty.sl (Ty.sl (Ty.sl (Ty.i .i64)))).at v_a x4, R] := hI11
      replace hb10 : p_laws_markInt64SSS_L1  k3 x4 x5 = some ct6 := hb10
      unfold p_laws_markInt64SSS_L1 at hb10
      obtain ⟨hf14, hf15, hr16, hf17, hr18, hL19, hS20⟩ := hI11
      refine W.seq (W.seq (W.region ?_))
      refine WL.val (Value.int .i64 (k3 : Int)) _ (op_move hf17) rfl ?_
      refine WL.val v_a _ (op_move hf14) rfl ?_
      have hr21 := inR_len (St.rep (t := (Ty.sl (Ty.sl (Ty.sl (Ty.i .i64))))) hS20 0 rfl)
      refine WL.val (Value.int .i64 ((x4).length : Int)) _ (op_lenL sl_22 (St.rep (t := (Ty.sl (Ty.sl (Ty.sl (Ty.i .i64))))) hS20 0 rfl) rfl) rfl ?_
      refine WL.val (Value.bool (decide ((k3 : Int) < ((x4).length : Int)))) _ (op_lss rfl rfl) rfl ?_
      have hl22 : (k3 : Int) < ((x4).length : Int) := by omega
      refine WL.nil ?_
      show W _ _ _ _ _ _
      refine W.condT (decide ((k3 : Int) < ((x4).length : Int))) rfl (decide_eq_true hl22) ?_
      refine W.skip ?_
      show W _ _ _ _ _ _
      refine W.seq ?_
      refine W.block ?_
      refine W.region ?_
      refine WL.val v_a _ (op_move hf14) rfl ?_
      refine WL.val (Value.int .i64 (k3 : Int)) _ (op_move hf17) rfl ?_
      obtain ⟨x24, hx27, hb10⟩ := bs hb10
      obtain ⟨ha25, hb26, hx27⟩ := idx_some hx27
      refine WL.val (Value.pointer (some (elA v_a ((k3 : Int)).toNat))) _ (op_idx sl_22 (St.rep (t := (Ty.sl (Ty.sl (Ty.sl (Ty.i .i64))))) hS20 0 rfl) rfl rfl ha25 hb26) rfl ?_
      obtain ⟨u28, hc29, hr30⟩ := repSl.el (St.rep (t := (Ty.sl (Ty.sl (Ty.sl (Ty.i .i64))))) hS20 0 rfl) hx27
      refine WL.val u28 _ (op_load one_43 rfl hc29) rfl ?_
      refine WL.val (Value.int .i64 x5) _ (op_move hf15) rfl ?_
      have hS31 := St.unrow (k := 0) hS20 rfl hx27 hc29
      replace hS31 : St w0 wd8 [holeAt (Ty.sl (Ty.sl (Ty.i .i64))) v_a x4 ((k3 : Int)).toNat u28, R, (Ty.sl (Ty.sl (Ty.i .i64))).at u28 x24] := hS31
      obtain ⟨x32, hx33, hb10⟩ := bs hb10
      have hS34 := St.fold [(Ty.sl (Ty.sl (Ty.i .i64))).at u28 x24] [holeAt (Ty.sl (Ty.sl (Ty.i .i64))) v_a x4 ((k3 : Int)).toNat u28, R] (St.pick hS31 [2, 0, 1] rfl)
      refine WL.call _ (op_call fn_32 (args2 rfl rfl)) (c_laws_markInt64SS hS34 hr16 hx33) rfl ?_
      rintro _ wd37 ⟨rfl, hr38, hS35⟩
      have hS36 := St.pick (St.unfold [(Ty.sl (Ty.sl (Ty.i .i64))).at u28 x32.2] [holeAt (Ty.sl (Ty.sl (Ty.i .i64))) v_a x4 ((k3 : Int)).toNat u28, R] hS35) [1, 2, 0] rfl
      replace hS36 : St w0 wd37 [holeAt (Ty.sl (Ty.sl (Ty.i .i64))) v_a x4 ((k3 : Int)).toNat u28, R, (Ty.sl (Ty.sl (Ty.i .i64))).at u28 x32.2] := hS36
      have hS39 := St.rerow (k := 0) (k2 := 2) hS36 rfl rfl rfl
      replace hS39 : St w0 wd37 [(Ty.sl (Ty.sl (Ty.sl (Ty.i .i64)))).at v_a ((x4).set ((k3 : Int)).toNat x32.2), R, emp] := hS39
      refine WL.val (Value.int .i64 x32.1) _ (op_assign rfl) rfl ?_
      refine WL.nil ?_
      show W _ _ _ _ _ _
      refine W.region ?_
      refine WL.val (Value.int .i64 (k3 : Int)) _ (op_move hf17) rfl ?_
      refine WL.val (Value.int .i64 (w64 ((k3 : Int) + (1 : Int)))) _ (op_add rfl rfl) rfl ?_
      refine WL.val (Value.int .i64 (w64 ((k3 : Int) + (1 : Int)))) _ (op_assign rfl) rfl ?_
      refine WL.nil ?_
      obtain rfl := Option.some.inj hb10
      show ∃ s, _ = Ctl.next s ∧ _
      exact ⟨_, rfl, hf14, rfl, hr38, (ctr_next hl22 hr21), (ctr_rng hl22 hr21), (by first | exact hL19 | (simp only [List.length_set]; exact hL19)), (St.pick hS39 [0, 1] rfl)⟩
    · intro s45 f41 wd42 hs43 hI44
      obtain ⟨x46, x47⟩ := s45
      replace hI44 : f41 0 = v_a ∧ f41 1 = Value.int .i64 x47 ∧ InR .i64 x47 ∧ f41 5 = Value.int .i64 (((a).length : Nat) : Int) ∧ InR .i64 (((a).length : Nat) : Int) ∧ (x46).length = (a).length ∧ St w0 wd42 [(Ty.sl (Ty.sl (Ty.sl (Ty.i .i64)))).at v_a x46, R] := hI44
      obtain ⟨hf48, hf49, hr50, hf51, hr52, hL53, hS54⟩ := hI44
      refine W.seq (W.seq (W.region ?_))
      refine WL.val (Value.int .i64 (((a).length : Nat) : Int)) _ (op_move hf51) rfl ?_
      refine WL.val v_a _ (op_move hf48) rfl ?_
      have hr55 := inR_len (St.rep (t := (Ty.sl (Ty.sl (Ty.sl (Ty.i .i64))))) hS54 0 rfl)
      refine WL.val (Value.int .i64 ((x46).length : Int)) _ (op_lenL sl_22 (St.rep (t := (Ty.sl (Ty.sl (Ty.sl (Ty.i .i64))))) hS54 0 rfl) rfl) rfl ?_
      refine WL.val (Value.bool (decide ((((a).length : Nat) : Int) < ((x46).length : Int)))) _ (op_lss rfl rfl) rfl ?_
      have hl56 : ¬ (((a).length : Nat) : Int) < ((x46).length : Int) := by omega
      refine WL.nil ?_
      show W _ _ _ _ _ _
      refine W.condF (decide ((((a).length : Nat) : Int) < ((x46).length : Int))) rfl (decide_eq_false hl56) ?_
      refine W.exit ?_
      show _ = _ ∧ _
      exact ⟨rfl, _, hs43, hf49, hr50, (by first | exact hL53 | (simp only [List.length_set]; exact hL53)), hS54⟩
  · rintro f57 wd58 ⟨s60, rfl, hq59⟩
    replace h := onRes_fin h
    obtain ⟨x61, x62⟩ := s60
    replace hq59 : f57 1 = Value.int .i64 x62 ∧ InR .i64 x62 ∧ (x61).length = (a).length ∧ St w0 wd58 [(Ty.sl (Ty.sl (Ty.sl (Ty.i .i64)))).at v_a x61, R] := hq59
    replace h : (_ : Option _) = _ := h
    dsimp only at h
    obtain ⟨hf63, hr64, hL65, hS66⟩ := hq59
    show W _ _ _ _ _ _
    refine W.seq (W.region ?_)
    refine WL.val (Value.int .i64 x62) _ (op_move hf63) rfl ?_
    refine WL.val (Value.int .i64 x62) _ (op_assign rfl) rfl ?_
    refine WL.nil ?_
    show W _ _ _ _ _ _
    refine W.ret ?_
    obtain rfl := Option.some.inj h
    show FinP _ _ _ _ _ _ _
    exact FinP.ret _ (res1 rfl rfl) ⟨rfl, hr64, (St.pick hS66 [0, 1] rfl)⟩

theorem c_laws_markRing {w : World} {a_Table : (List (List (List Int)))} {v_a_Table : Value} {k1 : Int} {w0 : World} {R : Ent} (hS0 : St w0 w [(Ty.sl (Ty.sl (Ty.sl (Ty.i .i64)))).at v_a_Table a_Table, R]) (r_k1 : InR .i64 k1) {res : Int × (List (List (List Int)))} (h : p_laws_markRing a_Table k1  = some res) :
    Ret Try.prog 16 #[(Value.agg #[v_a_Table]), (Value.int .i64 k1)] w (fun v w' => v = Value.int .i64 res.1 ∧ InR .i64 res.1 ∧ St w0 w' [(Ty.sl (Ty.sl (Ty.sl (Ty.i .i64)))).at v_a_Table res.2, R]) := by
  unfold p_laws_markRing at h
  refine Ret.start (fn := Try.f16) Try.func16 rfl 10 rfl rfl ?_
  refine W.seq (W.region ?_)
  refine WL.box hS0 rfl (cs := [v_a_Table]) rfl rfl ?_
  intro b1 wd2 hS3 he4 hx5
  replace hS3 : St w0 wd2 [(Ty.sl (Ty.sl (Ty.sl (Ty.i .i64)))).at v_a_Table a_Table, R, bx b1 [v_a_Table]] := hS3
  refine WL.val (Value.int .i64 (0 : Int)) _ (op_assign rfl) rfl ?_
  refine WL.nil ?_
  show W _ _ _ _ _ _
  refine W.seq (W.region ?_)
  refine WL.val (Value.pointer (some ⟨b1, 0, none⟩)) _ (op_fieldAddr fd_29_0 rfl) rfl ?_
  refine WL.val v_a_Table _ (op_load one_22 rfl (BoxAt.cell (St.boxAt hS3 2 rfl) rfl)) rfl ?_
  refine WL.val (Value.int .i64 k1) _ (op_move rfl) rfl ?_
  obtain ⟨x6, hx7, h⟩ := bs h
  have hS8 := St.fold [(Ty.sl (Ty.sl (Ty.sl (Ty.i .i64)))).at v_a_Table a_Table] [R, bx b1 [v_a_Table]] (St.pick hS3 [0, 1, 2] rfl)
  refine WL.call _ (op_call fn_44 (args2 rfl rfl)) (c_laws_markInt64SSS hS8 r_k1 hx7) rfl ?_
  rintro _ wd11 ⟨rfl, hr12, hS9⟩
  have hS10 := St.pick (St.unfold [(Ty.sl (Ty.sl (Ty.sl (Ty.i .i64)))).at v_a_Table x6.2] [R, bx b1 [v_a_Table]] hS9) [0, 1, 2] rfl
  replace hS10 : St w0 wd11 [(Ty.sl (Ty.sl (Ty.sl (Ty.i .i64)))).at v_a_Table x6.2, R, bx b1 [v_a_Table]] := hS10
  refine WL.val (Value.int .i64 x6.1) _ (op_assign rfl) rfl ?_
  refine WL.nil ?_
  show W _ _ _ _ _ _
  refine W.seq (W.region ?_)
  refine WL.val (Value.int .i64 x6.1) _ (op_move rfl) rfl ?_
  refine WL.val (Value.int .i64 x6.1) _ (op_assign rfl) rfl ?_
  refine WL.nil ?_
  show W _ _ _ _ _ _
  refine W.ret ?_
  obtain rfl := Option.some.inj h
  show FinP _ _ _ _ _ _ _
  exact FinP.ret _ (res1 rfl rfl) ⟨rfl, hr12, (St.pick hS10 [0, 1] rfl)⟩

theorem c_laws_heldInt64S {w : World} {a : (List Int)} {v_a : Value} {k1 : Int} (r_a : (Ty.sl (Ty.i .i64)).rep w v_a a) (r_k1 : InR .i64 k1) {res : Int} (h : p_laws_heldInt64S a k1  = some res) :
    Ret Try.prog 18 #[v_a, (Value.int .i64 k1)] w (fun v w' => v = Value.int .i64 res ∧ InR .i64 res ∧ Ext w w') := by
  unfold p_laws_heldInt64S at h
  have hS0 : St w w [] := St.start w
  refine Ret.start (fn := Try.f18) Try.func18 rfl 21 rfl rfl ?_
  refine W.seq (W.region ?_)
  refine WL.val (Value.int .i64 (0 : Int)) _ (op_assign rfl) rfl ?_
  refine WL.nil ?_
  show W _ _ _ _ _ _
  refine W.seq (W.seq (W.region ?_))
  refine WL.val (Value.int .i64 (0 : Int)) _ (op_assign rfl) rfl ?_
  refine WL.nil ?_
  show W _ _ _ _ _ _
  obtain ⟨res1, hres2, h⟩ := bs h
  refine W.blockLoop (fun fq wq => ∃ s, res1 = Res.fin s ∧ fq 1 = Value.int .i64 s ∧ InR .i64 s ∧ St w wq []) ?_ ?_
  · refine W.forN (fun k (s : Int) fq wq => fq 0 = v_a ∧ fq 1 = Value.int .i64 s ∧ InR .i64 s ∧ fq 5 = Value.int .i64 (k : Int) ∧ InR .i64 (k : Int) ∧ St w wq []) hres2 ⟨rfl, rfl, r_k1, rfl, (inR_i64.2 (show (-9223372036854775808 : Int) ≤ 0 ∧ (0 : Int) ≤ 9223372036854775807 from by decide)), hS0⟩ ?_ ?_
    · intro k3 x4 ct5 f6 wd7 hk8 hb9 hI10 hbrk11 hret12
      replace hI10 : f6 0 = v_a ∧ f6 1 = Value.int .i64 x4 ∧ InR .i64 x4 ∧ f6 5 = Value.int .i64 (k3 : Int) ∧ InR .i64 (k3 : Int) ∧ St w wd7 [] := hI10
      replace hb9 : p_laws_heldInt64S_L1 a k3 x4 = some ct5 := hb9
      unfold p_laws_heldInt64S_L1 at hb9
      obtain ⟨hf13, hf14, hr15, hf16, hr17, hS18⟩ := hI10
      refine W.seq (W.seq (W.region ?_))
      refine WL.val (Value.int .i64 (k3 : Int)) _ (op_move hf16) rfl ?_
      refine WL.val v_a _ (op_move hf13) rfl ?_
      have hr19 := inR_len (Ty.lift _ hS18.ext r_a)
      refine WL.val (Value.int .i64 ((a).length : Int)) _ (op_lenL sl_25 (Ty.lift _ hS18.ext r_a) rfl) rfl ?_
      refine WL.val (Value.bool (decide ((k3 : Int) < ((a).length : Int)))) _ (op_lss rfl rfl) rfl ?_
      have hl20 : (k3 : Int) < ((a).length : Int) := by omega
      refine WL.nil ?_
      show W _ _ _ _ _ _
      refine W.condT (decide ((k3 : Int) < ((a).length : Int))) rfl (decide_eq_true hl20) ?_
      refine W.skip ?_
      show W _ _ _ _ _ _
      refine W.seq ?_
      refine W.block ?_
      refine W.seq (W.seq (W.region ?_))
      refine WL.val v_a _ (op_move hf13) rfl ?_
      refine WL.val (Value.int .i64 (k3 : Int)) _ (op_move hf16) rfl ?_
      obtain ⟨x22, hx25, hb9⟩ := bs hb9
      obtain ⟨ha23, hb24, hx25⟩ := idx_some hx25
      refine WL.val (Value.pointer (some (elA v_a ((k3 : Int)).toNat))) _ (op_idx sl_25 (Ty.lift _ hS18.ext r_a) rfl rfl ha23 hb24) rfl ?_
      obtain ⟨u26, hc27, hr28⟩ := repSl.el r_a hx25
      obtain ⟨rfl, hr28⟩ := hr28
      refine WL.val (Value.int .i64 x22) _ (op_load one_2 rfl (Ext.cell hS18.ext hc27)) rfl ?_
      refine WL.val (Value.int .i64 x4) _ (op_move hf14) rfl ?_
      refine WL.val (Value.bool (x22 != x4)) _ (op_neq rfl rfl) rfl ?_
      refine WL.nil ?_
      show W _ _ _ _ _ _
      refine W.cond (x22 != x4) rfl (fun hc29 => ?_) (fun hc29 => ?_)
      · replace hb9 := ip hb9 hc29
        refine W.seq (W.region ?_)
        refine WL.val (Value.int .i64 (-1 : Int)) _ (op_assign rfl) rfl ?_
        refine WL.nil ?_
        show W _ _ _ _ _ _
        refine W.ret ?_
        obtain rfl := Option.some.inj hb9
        obtain rfl := hret12 _ rfl
        replace h := onRes_ret h
        obtain rfl := Option.some.inj h
        show FinP _ _ _ _ _ _ _
        exact FinP.ret _ (res1 rfl rfl) ⟨rfl, (inR_i64.2 (show (-9223372036854775808 : Int) ≤ -1 ∧ (-1 : Int) ≤ 9223372036854775807 from by decide)), hS18.ext⟩
      · replace hb9 := inegb hb9 hc29
        refine W.skip ?_
        show W _ _ _ _ _ _
        refine W.region ?_
        refine WL.val (Value.int .i64 x4) _ (op_move hf14) rfl ?_
        refine WL.val (Value.int .i64 (w64 (x4 + (1 : Int)))) _ (op_add rfl rfl) rfl ?_
        refine WL.val (Value.int .i64 (w64 (x4 + (1 : Int)))) _ (op_assign rfl) rfl ?_
        refine WL.nil ?_
        show W _ _ _ _ _ _
        refine W.region ?_
        refine WL.val (Value.int .i64 (k3 : Int)) _ (op_move hf16) rfl ?_
        refine WL.val (Value.int .i64 (w64 ((k3 : Int) + (1 : Int)))) _ (op_add rfl rfl) rfl ?_
        refine WL.val (Value.int .i64 (w64 ((k3 : Int) + (1 : Int)))) _ (op_assign rfl) rfl ?_
        refine WL.nil ?_
        obtain rfl := Option.some.inj hb9
        show ∃ s, _ = Ctl.next s ∧ _
        exact ⟨_, rfl, hf13, rfl, (inR_wrap _ _), (ctr_next hl20 hr19), (ctr_rng hl20 hr19), hS18⟩
    · intro x37 f32 wd33 hs34 hI35
      replace hI35 : f32 0 = v_a ∧ f32 1 = Value.int .i64 x37 ∧ InR .i64 x37 ∧ f32 5 = Value.int .i64 (((a).length : Nat) : Int) ∧ InR .i64 (((a).length : Nat) : Int) ∧ St w wd33 [] := hI35
      obtain ⟨hf38, hf39, hr40, hf41, hr42, hS43⟩ := hI35
      refine W.seq (W.seq (W.region ?_))
      refine WL.val (Value.int .i64 (((a).length : Nat) : Int)) _ (op_move hf41) rfl ?_
      refine WL.val v_a _ (op_move hf38) rfl ?_
      have hr44 := inR_len (Ty.lift _ hS43.ext r_a)
      refine WL.val (Value.int .i64 ((a).length : Int)) _ (op_lenL sl_25 (Ty.lift _ hS43.ext r_a) rfl) rfl ?_
      refine WL.val (Value.bool (decide ((((a).length : Nat) : Int) < ((a).length : Int)))) _ (op_lss rfl rfl) rfl ?_
      have hl45 : ¬ (((a).length : Nat) : Int) < ((a).length : Int) := by omega
      refine WL.nil ?_
      show W _ _ _ _ _ _
      refine W.condF (decide ((((a).length : Nat) : Int) < ((a).length : Int))) rfl (decide_eq_false hl45) ?_
      refine W.exit ?_
      show _ = _ ∧ _
      exact ⟨rfl, _, hs34, hf39, hr40, hS43⟩
  · rintro f46 wd47 ⟨x50, rfl, hq48⟩
    replace h := onRes_fin h
    replace hq48 : f46 1 = Value.int .i64 x50 ∧ InR .i64 x50 ∧ St w wd47 [] := hq48
    obtain ⟨hf51, hr52, hS53⟩ := hq48
    show W _ _ _ _ _ _
    refine W.seq (W.region ?_)
    refine WL.val (Value.int .i64 x50) _ (op_move hf51) rfl ?_
    refine WL.val (Value.int .i64 x50) _ (op_assign rfl) rfl ?_
    refine WL.nil ?_
    show W _ _ _ _ _ _
    refine W.ret ?_
    obtain rfl := Option.some.inj h
    show FinP _ _ _ _ _ _ _
    exact FinP.ret _ (res1 rfl rfl) ⟨rfl, hr52, hS53.ext⟩

theorem c_laws_FnExactProductCharacter {w : World} {aR_Table : (List (List (List Int)))} {v_aR_Table : Value} {aS_Table : (List (List (List Int)))} {v_aS_Table : Value} {aX : (List Int)} {v_aX : Value} {aY : (List Int)} {v_aY : Value} (r_aR_Table : (Ty.sl (Ty.sl (Ty.sl (Ty.i .i64)))).rep w v_aR_Table aR_Table) (r_aS_Table : (Ty.sl (Ty.sl (Ty.sl (Ty.i .i64)))).rep w v_aS_Table aS_Table) (r_aX : (Ty.sl (Ty.i .i64)).rep w v_aX aX) (r_aY : (Ty.sl (Ty.i .i64)).rep w v_aY aY) {res : Bool} (h : p_laws_FnExactProductCharacter aR_Table aS_Table aX aY  = some res) :
    Ret Try.prog 3 #[(Value.agg #[v_aR_Table]), (Value.agg #[v_aS_Table]), v_aX, v_aY] w (fun v w' => v = Value.bool res ∧ Ext w w') := by
  unfold p_laws_FnExactProductCharacter at h
  have hS0 : St w w [] := St.start w
  refine Ret.start (fn := Try.f3) Try.func3 rfl 161 rfl rfl ?_
  refine W.seq (W.region ?_)
  refine WL.box hS0 rfl (cs := [v_aR_Table]) rfl rfl ?_
  intro b1 wd2 hS3 he4 hx5
  replace hS3 : St w wd2 [bx b1 [v_aR_Table]] := hS3
  have hx6 := St.boxAt hS3 0 rfl
  have hE7 : Ext w wd2 := hS3.ext
  have hS8 : St wd2 wd2 [] := St.start wd2
  refine WL.box hS8 rfl (cs := [v_aS_Table]) rfl rfl ?_
  intro b9 wd10 hS11 he12 hx13
  replace hS11 : St wd2 wd10 [bx b9 [v_aS_Table]] := hS11
  have hx14 := St.boxAt hS11 0 rfl
  have hE15 : Ext w wd10 := (Ext.trans hE7 hS11.ext)
  have hE16 : Ext wd2 wd10 := hS11.ext
  have hS17 : St wd10 wd10 [] := St.start wd10
  refine WL.val (Value.bool false) _ (op_assign rfl) rfl ?_
  refine WL.nil ?_
  show W _ _ _ _ _ _
  refine W.seq (W.seq (W.region ?_))
  refine WL.val v_aX _ (op_move rfl) rfl ?_
  have hr18 := inR_len (Ty.lift _ (Ext.trans hE15 hS17.ext) r_aX)
  refine WL.val (Value.int .i64 ((aX).length : Int)) _ (op_lenL sl_25 (Ty.lift _ (Ext.trans hE15 hS17.ext) r_aX) rfl) rfl ?_
  refine WL.val (Value.bool (decide (((aX).length : Int) > (1048576 : Int)))) _ (op_gtr rfl rfl) rfl ?_
  refine WL.nil ?_
  show W _ _ _ _ _ _
  refine W.cond (decide (((aX).length : Int) > (1048576 : Int))) rfl (fun hc19 => ?_) (fun hc19 => ?_)
  · replace h := ip h hc19
    refine W.seq (W.region ?_)
    refine WL.val (Value.bool true) _ (op_assign rfl) rfl ?_
    refine WL.nil ?_
    show W _ _ _ _ _ _
    refine W.ret ?_
    obtain rfl := Option.some.inj h
    show FinP _ _ _ _ _ _ _
    exact FinP.ret _ (res1 rfl rfl) ⟨rfl, (Ext.trans hE15 hS17.ext)⟩
  · replace h := inegb h hc19
    refine W.skip ?_
    show W _ _ _ _ _ _
    refine W.seq (W.seq (W.region ?_))
    refine WL.val v_aY _ (op_move rfl) rfl ?_
    have hr21 := inR_len (Ty.lift _ (Ext.trans hE15 hS17.ext) r_aY)
    refine WL.val (Value.int .i64 ((aY).length : Int)) _ (op_lenL sl_25 (Ty.lift _ (Ext.trans hE15 hS17.ext) r_aY) rfl) rfl ?_
    refine WL.val (Value.bool (decide (((aY).length : Int) > (1048576 : Int)))) _ (op_gtr rfl rfl) rfl ?_
    refine WL.nil ?_
    show W _ _ _ _ _ _
    refine W.cond (decide (((aY).length : Int) > (1048576 : Int))) rfl (fun hc22 => ?_) (fun hc22 => ?_)
    · replace h := ip h hc22
      refine W.seq (W.region ?_)
      refine WL.val (Value.bool true) _ (op_assign rfl) rfl ?_
      refine WL.nil ?_
      show W _ _ _ _ _ _
      refine W.ret ?_
      obtain rfl := Option.some.inj h
      show FinP _ _ _ _ _ _ _
      exact FinP.ret _ (res1 rfl rfl) ⟨rfl, (Ext.trans hE15 hS17.ext)⟩
    · replace h := inegb h hc22
      refine W.skip ?_
      show W _ _ _ _ _ _
      refine W.seq (W.region ?_)
      refine WL.val (Value.int .i64 (1048576 : Int)) _ (op_assign rfl) rfl ?_
      refine WL.nil ?_
      show W _ _ _ _ _ _
      refine W.seq (W.region ?_)
      refine WL.val (Value.agg #[v_aR_Table]) _ (op_loadBox st_24 rfl (BoxAt.lift (Ext.trans hE16 hS17.ext) hx6) rfl rfl) rfl ?_
      refine WL.val (Value.int .i64 (1048576 : Int)) _ (op_move rfl) rfl ?_
      obtain ⟨x24, hx25, h⟩ := bs h
      refine WL.call _ (op_call fn_9 (args2 rfl rfl)) (c_laws_szRing (Ty.lift _ (Ext.trans hE15 hS17.ext) r_aR_Table) (inR_i64.2 (show (-9223372036854775808 : Int) ≤ 1048576 ∧ (1048576 : Int) ≤ 9223372036854775807 from by decide)) hx25) rfl ?_
      rintro _ wd27 ⟨rfl, hr26, he28⟩
      have hS30 := St.extend hS17 he28
      replace hS30 : St wd10 wd27 [] := hS30
      refine WL.val (Value.int .i64 x24) _ (op_assign rfl) rfl ?_
      refine WL.nil ?_
      show W _ _ _ _ _ _
      refine W.seq (W.seq (W.region ?_))
      refine WL.val (Value.int .i64 x24) _ (op_move rfl) rfl ?_
      refine WL.val (Value.bool (decide (x24 < (0 : Int)))) _ (op_lss rfl rfl) rfl ?_
      refine WL.nil ?_
      show W _ _ _ _ _ _
      refine W.cond (decide (x24 < (0 : Int))) rfl (fun hc31 => ?_) (fun hc31 => ?_)
      · replace h := ip h hc31
        refine W.seq (W.region ?_)
        refine WL.val (Value.bool true) _ (op_assign rfl) rfl ?_
        refine WL.nil ?_
        show W _ _ _ _ _ _
        refine W.ret ?_
        obtain rfl := Option.some.inj h
        show FinP _ _ _ _ _ _ _
        exact FinP.ret _ (res1 rfl rfl) ⟨rfl, (Ext.trans hE15 hS30.ext)⟩
      · replace h := inegb h hc31
        refine W.skip ?_
        show W _ _ _ _ _ _
        refine W.seq (W.region ?_)
        refine WL.val (Value.agg #[v_aS_Table]) _ (op_loadBox st_24 rfl (BoxAt.lift hS30.ext hx14) rfl rfl) rfl ?_
        refine WL.val (Value.int .i64 x24) _ (op_move rfl) rfl ?_
        obtain ⟨x33, hx34, h⟩ := bs h
        refine WL.call _ (op_call fn_9 (args2 rfl rfl)) (c_laws_szRing (Ty.lift _ (Ext.trans hE15 hS30.ext) r_aS_Table) hr26 hx34) rfl ?_
        rintro _ wd36 ⟨rfl, hr35, he37⟩
        have hS39 := St.extend hS30 he37
        replace hS39 : St wd10 wd36 [] := hS39
        refine WL.val (Value.int .i64 x33) _ (op_assign rfl) rfl ?_
        refine WL.nil ?_
        show W _ _ _ _ _ _
        refine W.seq (W.seq (W.region ?_))
        refine WL.val (Value.int .i64 x33) _ (op_move rfl) rfl ?_
        refine WL.val (Value.bool (decide (x33 < (0 : Int)))) _ (op_lss rfl rfl) rfl ?_
        refine WL.nil ?_
        show W _ _ _ _ _ _
        refine W.cond (decide (x33 < (0 : Int))) rfl (fun hc40 => ?_) (fun hc40 => ?_)
        · replace h := ip h hc40
          refine W.seq (W.region ?_)
          refine WL.val (Value.bool true) _ (op_assign rfl) rfl ?_
          refine WL.nil ?_
          show W _ _ _ _ _ _
          refine W.ret ?_
          obtain rfl := Option.some.inj h
          show FinP _ _ _ _ _ _ _
          exact FinP.ret _ (res1 rfl rfl) ⟨rfl, (Ext.trans hE15 hS39.ext)⟩
        · replace h := inegb h hc40
          refine W.skip ?_
          show W _ _ _ _ _ _
          refine W.seq ?_
          obtain ⟨x59, hx60, h⟩ := bs h
          obtain ⟨x82, hx83, h⟩ := bs h
          obtain ⟨x105, hx106, h⟩ := bs h
          obtain ⟨x128, hx129, h⟩ := bs h
          obtain ⟨x158, hx159, h⟩ := bs h
          refine W.drawR mixo 13 [] [fun _ v S w' => v = (Value.agg #[v_aR_Table]), fun _ v S w' => ∃ (uu0 : Value), v = (Value.agg #[uu0]) ∧ SepS S w' [(Ty.sl (Ty.sl (Ty.sl (Ty.i .i64)))).at uu0 x59], fun _ v S w' => v = (Value.agg #[v_aS_Table]), fun _ v S w' => ∃ (uu0 : Value), v = (Value.agg #[uu0]) ∧ SepS S w' [(Ty.sl (Ty.sl (Ty.sl (Ty.i .i64)))).at uu0 x82], fun _ v _ _ => v = v_aX, fun _ v S w' => SepS S w' [(Ty.sl (Ty.i .i64)).at v x105], fun _ v _ _ => v = v_aY, fun _ v S w' => SepS S w' [(Ty.sl (Ty.i .i64)).at v x128], fun _ v S w' => ∃ (uu0 : Value), v = (Value.tuple #[uu0, (Value.int .i64 x158.2)]) ∧ InR .i64 x158.2 ∧ SepS S w' [(Ty.sl (Ty.i .i64)).at uu0 x158.1], fun f v _ _ => v = f 48, fun f v _ _ => tupGet (f 39) 0 = some v, fun _ v _ _ => v = (Value.int .i64 x158.2) ∧ InR .i64 x158.2, fun f v _ _ => v = f 49] (by kernel_rfl) (by kernel_rfl) ⟨⟨fun _ _ _ _ _ _ h => h, fun _ _ _ _ _ _ h => h⟩, ⟨fun _ _ _ _ _ he ⟨uu0, h0, r0⟩ => ⟨uu0, h0, SepS.extend he r0⟩, fun _ _ _ _ _ _ h => h⟩, ⟨fun _ _ _ _ _ _ h => h, fun _ _ _ _ _ _ h => h⟩, ⟨fun _ _ _ _ _ he ⟨uu0, h0, r0⟩ => ⟨uu0, h0, SepS.extend he r0⟩, fun _ _ _ _ _ _ h => h⟩, ⟨fun _ _ _ _ _ _ h => h, fun _ _ _ _ _ _ h => h⟩, ⟨fun _ _ _ _ _ he h => SepS.extend he h, fun _ _ _ _ _ _ h => h⟩, ⟨fun _ _ _ _ _ _ h => h, fun _ _ _ _ _ _ h => h⟩, ⟨fun _ _ _ _ _ he h => SepS.extend he h, fun _ _ _ _ _ _ h => h⟩, ⟨fun _ _ _ _ _ he ⟨uu0, h0, h1, r0⟩ => ⟨uu0, h0, h1, SepS.extend he r0⟩, fun _ _ _ _ _ _ h => h⟩, ⟨fun _ _ _ _ _ _ h => h, fun _ _ _ _ _ hf h => h.trans (hf 8 48 rfl rfl)⟩, ⟨fun _ _ _ _ _ _ h => h, fun _ _ _ _ _ hf h => (congrArg (fun x => tupGet x 0) (hf 9 39 rfl rfl)).symm.trans h⟩, ⟨fun _ _ _ _ _ _ h => h, fun _ _ _ _ _ _ h => h⟩, ⟨fun _ _ _ _ _ _ h => h, fun _ _ _ _ _ hf h => h.trans (hf 10 49 rfl rfl)⟩, trivial⟩ ⟨?_, ?_, ?_, ?_, ?_, ?_, ?_, ?_, ?_, ?_, ?_, ?_, ?_, trivial⟩ ?_
          · refine ObX.op rfl ?_
            intro f42 wd43 he44 hout45 hphi46
            have hS47 : St wd10 wd43 [] := St.extend hS39 he44
            have e48 : f42 4 = (Value.pointer (some ⟨b1, 0, none⟩)) := (hout45 4 rfl).trans rfl
            exact OpX.val (Value.agg #[v_aR_Table]) wd43 rfl (op_loadBox st_24 e48 (BoxAt.lift (Ext.trans hE16 hS47.ext) hx6) rfl rfl) (Ext.refl _) rfl
          · refine ObX.op rfl ?_
            intro f49 wd50 he51 hout52 hphi53
            have hS54 : St wd10 wd50 [] := St.extend hS39 he51
            obtain ⟨S55, hS56, hf57⟩ := hphi53 0 40 _ rfl rfl rfl
            have e58 : f49 40 = (Value.agg #[v_aR_Table]) := hf57
            refine OpX.call rfl (op_call fn_11 (args1 e58)) (Ret.mono (c_laws_toRing (Ty.lift _ (Ext.trans hE15 hS54.ext) r_aR_Table) hx60) ?_)
            rintro _ wd62 ⟨u61, rfl, he63, hs64⟩
            exact ⟨he63, _, newS _ _, ⟨u61, rfl, (Sep.new hs64)⟩⟩
          · refine ObX.op rfl ?_
            intro f65 wd66 he67 hout68 hphi69
            have hS70 : St wd10 wd66 [] := St.extend hS39 he67
            have e71 : f65 5 = (Value.pointer (some ⟨b9, 0, none⟩)) := (hout68 5 rfl).trans rfl
            exact OpX.val (Value.agg #[v_aS_Table]) wd66 rfl (op_loadBox st_24 e71 (BoxAt.lift hS70.ext hx14) rfl rfl) (Ext.refl _) rfl
          · refine ObX.op rfl ?_
            intro f72 wd73 he74 hout75 hphi76
            have hS77 : St wd10 wd73 [] := St.extend hS39 he74
            obtain ⟨S78, hS79, hf80⟩ := hphi76 2 42 _ rfl rfl rfl
            have e81 : f72 42 = (Value.agg #[v_aS_Table]) := hf80
            refine OpX.call rfl (op_call fn_11 (args1 e81)) (Ret.mono (c_laws_toRing (Ty.lift _ (Ext.trans hE15 hS77.ext) r_aS_Table) hx83) ?_)
            rintro _ wd85 ⟨u84, rfl, he86, hs87⟩
            exact ⟨he86, _, newS _ _, ⟨u84, rfl, (Sep.new hs87)⟩⟩
          · refine ObX.op rfl ?_
            intro f88 wd89 he90 hout91 hphi92
            have hS93 : St wd10 wd89 [] := St.extend hS39 he90
            have e94 : f88 2 = v_aX := (hout91 2 rfl).trans rfl
            exact OpX.val v_aX wd89 rfl (op_move e94) (Ext.refl _) rfl
          · refine ObX.op rfl ?_
            intro f95 wd96 he97 hout98 hphi99
            have hS100 : St wd10 wd96 [] := St.extend hS39 he97
            obtain ⟨S101, hS102, hf103⟩ := hphi99 4 44 _ rfl rfl rfl
            have e104 : f95 44 = v_aX := hf103
            refine OpX.call rfl (op_call fn_12 (args1 e104)) (Ret.mono (c_laws_toInt64S (Ty.lift _ (Ext.trans hE15 hS100.ext) r_aX) hx106) ?_)
            rintro u107 wd108 ⟨_, rfl, he109, hs110⟩
            exact ⟨he109, _, newS _ _, (Sep.new hs110)⟩
          · refine ObX.op rfl ?_
            intro f111 wd112 he113 hout114 hphi115
            have hS116 : St wd10 wd112 [] := St.extend hS39 he113
            have e117 : f111 3 = v_aY := (hout114 3 rfl).trans rfl
            exact OpX.val v_aY wd112 rfl (op_move e117) (Ext.refl _) rfl
          · refine ObX.op rfl ?_
            intro f118 wd119 he120 hout121 hphi122
            have hS123 : St wd10 wd119 [] := St.extend hS39 he120
            obtain ⟨S124, hS125, hf126⟩ := hphi122 6 46 _ rfl rfl rfl
            have e127 : f118 46 = v_aY := hf126
            refine OpX.call rfl (op_call fn_12 (args1 e127)) (Ret.mono (c_laws_toInt64S (Ty.lift _ (Ext.trans hE15 hS123.ext) r_aY) hx129) ?_)
            rintro u130 wd131 ⟨_, rfl, he132, hs133⟩
            exact ⟨he132, _, newS _ _, (Sep.new hs133)⟩
          · refine ObX.op rfl ?_
            intro f134 wd135 he136 hout137 hphi138
            have hS139 : St wd10 wd135 [] := St.extend hS39 he136
            obtain ⟨S140, hS141, hf142⟩ := hphi138 1 41 _ rfl rfl rfl
            obtain ⟨u144, e143, e143s⟩ := hf142
            obtain ⟨S145, hS146, hf147⟩ := hphi138 3 43 _ rfl rfl rfl
            obtain ⟨u149, e148, e148s⟩ := hf147
            obtain ⟨S150, hS151, hf152⟩ := hphi138 5 45 _ rfl rfl rfl
            have e153 : SepS S150 wd135 [(Ty.sl (Ty.i .i64)).at (f134 45) x105] := hf152
            obtain ⟨S154, hS155, hf156⟩ := hphi138 7 47 _ rfl rfl rfl
            have e157 : SepS S154 wd135 [(Ty.sl (Ty.i .i64)).at (f134 47) x128] := hf156
            refine OpX.call rfl (op_call fn_10 (args4 e143 e148 rfl rfl)) (Ret.mono (c_spec_ProductCharacter (SepS.rep (t := (Ty.sl (Ty.sl (Ty.sl (Ty.i .i64))))) e143s 0 rfl) (SepS.rep (t := (Ty.sl (Ty.sl (Ty.sl (Ty.i .i64))))) e148s 0 rfl) (SepS.rep (t := (Ty.sl (Ty.i .i64))) e153 0 rfl) (SepS.rep (t := (Ty.sl (Ty.i .i64))) e157 0 rfl) hx159) ?_)
            rintro _ wd162 ⟨u160, rfl, hr161, he163, hs164⟩
            exact ⟨he163, _, newS _ _, ⟨u160, rfl, hr161, (Sep.new hs164)⟩⟩
          · refine ObX.op rfl ?_
            intro f165 wd166 he167 hout168 hphi169
            have hS170 : St wd10 wd166 [] := St.extend hS39 he167
            obtain ⟨S171, hS172, hf173⟩ := hphi169 8 48 _ rfl rfl rfl
            obtain ⟨u175, e174, hr176, e174s⟩ := hf173
            exact OpX.val (f165 48) wd166 rfl (op_move rfl) (Ext.refl _) rfl
          · refine ObX.op rfl ?_
            intro f177 wd178 he179 hout180 hphi181
            have hS182 : St wd10 wd178 [] := St.extend hS39 he179
            obtain ⟨S186, hS187, hf188⟩ := hphi181 8 48 _ rfl rfl rfl
            obtain ⟨u190, e189, hr191, e189s⟩ := hf188
            obtain ⟨S183, hS184, hf185⟩ := hphi181 9 39 _ rfl rfl rfl
            have e192 : f177 39 = (Value.tuple #[u190, (Value.int .i64 x158.2)]) := Eq.trans hf185 e189
            exact OpX.val u190 wd178 rfl (op_extract e192 rfl) (Ext.refl _) (congrArg (fun x => tupGet x 0) e192)
          · refine ObX.op rfl ?_
            intro f193 wd194 he195 hout196 hphi197
            have hS198 : St wd10 wd194 [] := St.extend hS39 he195
            obtain ⟨S202, hS203, hf204⟩ := hphi197 8 48 _ rfl rfl rfl
            obtain ⟨u206, e205, hr207, e205s⟩ := hf204
            obtain ⟨S199, hS200, hf201⟩ := hphi197 9 39 _ rfl rfl rfl
            have e208 : f193 39 = (Value.tuple #[u206, (Value.int .i64 x158.2)]) := Eq.trans hf201 e205
            exact OpX.val (Value.int .i64 x158.2) wd194 rfl (op_extract e208 rfl) (Ext.refl _) ⟨rfl, hr207⟩
          · refine ObX.op rfl ?_
            intro f209 wd210 he211 hout212 hphi213
            have hS214 : St wd10 wd210 [] := St.extend hS39 he211
            obtain ⟨S221, hS222, hf223⟩ := hphi213 8 48 _ rfl rfl rfl
            obtain ⟨u225, e224, hr226, e224s⟩ := hf223
            obtain ⟨S218, hS219, hf220⟩ := hphi213 9 39 _ rfl rfl rfl
            have e227 : f209 39 = (Value.tuple #[u225, (Value.int .i64 x158.2)]) := Eq.trans hf220 e224
            obtain ⟨S215, hS216, hf217⟩ := hphi213 10 49 _ rfl rfl rfl
            have e228 : f209 49 = u225 := Option.some.inj (Eq.trans (Eq.symm hf217) (congrArg (fun x => tupGet x 0) e227))
            exact OpX.val (f209 49) wd210 rfl (op_assign rfl) (Ext.refl _) rfl
          · intro f229 wd230 Ss231 he232 hout233 hSn234 hSd235 hphi236
            show WL _ _ _ _ _ _ _
            have hS237 : St wd10 wd230 [] := St.extend hS39 he232
            obtain ⟨u239, e238, hr240, e238s⟩ := hphi236 8 48 _ (by decide) rfl rfl
            have e241 : f229 39 = (Value.tuple #[u239, (Value.int .i64 x158.2)]) := Eq.trans (hphi236 9 39 _ (by decide) rfl rfl) e238
            have e242 : f229 49 = u239 := Option.some.inj (Eq.trans (Eq.symm (hphi236 10 49 _ (by decide) rfl rfl)) (congrArg (fun x => tupGet x 0) e241))
            obtain ⟨e243, hr244⟩ : f229 50 = (Value.int .i64 x158.2) ∧ InR .i64 x158.2 := hphi236 11 50 _ (by decide) rfl rfl
            have e245 : f229 10 = u239 := Eq.trans (hphi236 12 10 _ (by decide) rfl rfl) e242
            have e246 : f229 2 = v_aX := (hout233 2 rfl).trans rfl
            have e247 : f229 3 = v_aY := (hout233 3 rfl).trans rfl
            have e248 : f229 4 = (Value.pointer (some ⟨b1, 0, none⟩)) := (hout233 4 rfl).trans rfl
            have e249 : f229 5 = (Value.pointer (some ⟨b9, 0, none⟩)) := (hout233 5 rfl).trans rfl
            have hS250 := St.joinS hS39 he232 hSn234 (SepS.consS hSd235 rfl e238s SepS.nilS)
            replace hS250 : St wd10 wd230 [(Ty.sl (Ty.i .i64)).at u239 x158.1] := hS250
            have hb251 := St.rep (t := (Ty.sl (Ty.i .i64))) hS250 0 rfl
            have hE252 : Ext w wd230 := (Ext.trans hE15 hS250.ext)
            have hE253 : Ext wd2 wd230 := (Ext.trans hE16 hS250.ext)
            have hE254 : Ext wd10 wd230 := hS250.ext
            have hS255 : St wd230 wd230 [] := St.start wd230
            refine WL.val (Value.int .i64 x158.2) _ (op_assign e243) rfl ?_
            refine WL.nil ?_
            show W _ _ _ _ _ _
            refine W.seq (W.region ?_)
            refine WL.val (Value.agg #[v_aR_Table]) _ (op_loadBox st_24 e248 (BoxAt.lift (Ext.trans hE253 hS255.ext) hx6) rfl rfl) rfl ?_
            obtain ⟨x256, hx257, h⟩ := bs h
            refine WL.call _ (op_call fn_11 (args1 rfl)) (c_laws_toRing (Ty.lift _ (Ext.trans hE252 hS255.ext) r_aR_Table) hx257) rfl ?_
            rintro _ wd259 ⟨u258, rfl, he260, hs261⟩
            have hS262 := St.join hS255 he260 hs261
            replace hS262 : St wd230 wd259 [(Ty.sl (Ty.sl (Ty.sl (Ty.i .i64)))).at u258 x256] := hS262
            refine WL.alloc hS262 ze_29 (cs := [(Value.slice none 0 0)]) rfl rfl ?_
            intro b263 wd264 hS265 he266
            replace hS265 : St wd230 wd264 [(Ty.sl (Ty.sl (Ty.sl (Ty.i .i64)))).at u258 x256, bx b263 [(Value.slice none 0 0)]] := hS265
            refine WL.storeBox [u258] hS265 (k := 1) rfl rfl rfl (us := [u258]) rfl sz_29 rfl rfl (all_rep (St.rep (t := (Ty.sl (Ty.sl (Ty.sl (Ty.i .i64))))) hS265 0 rfl) all_nil) rfl ?_
            intro wd267 hS268
            replace hS268 : St wd230 wd267 [(Ty.sl (Ty.sl (Ty.sl (Ty.i .i64)))).at u258 x256, bx b263 [u258]] := hS268
            refine WL.nil ?_
            show W _ _ _ _ _ _
            refine W.seq (W.region ?_)
            refine WL.val (Value.agg #[v_aS_Table]) _ (op_loadBox st_24 e249 (BoxAt.lift (Ext.trans hE254 hS268.ext) hx14) rfl rfl) rfl ?_
            obtain ⟨x269, hx270, h⟩ := bs h
            refine WL.call _ (op_call fn_11 (args1 rfl)) (c_laws_toRing (Ty.lift _ (Ext.trans hE252 hS268.ext) r_aS_Table) hx270) rfl ?_
            rintro _ wd272 ⟨u271, rfl, he273, hs274⟩
            have hS275 := St.join hS268 he273 hs274
            replace hS275 : St wd230 wd272 [(Ty.sl (Ty.sl (Ty.sl (Ty.i .i64)))).at u258 x256, bx b263 [u258], (Ty.sl (Ty.sl (Ty.sl (Ty.i .i64)))).at u271 x269] := hS275
            refine WL.alloc hS275 ze_29 (cs := [(Value.slice none 0 0)]) rfl rfl ?_
            intro b276 wd277 hS278 he279
            replace hS278 : St wd230 wd277 [(Ty.sl (Ty.sl (Ty.sl (Ty.i .i64)))).at u258 x256, bx b263 [u258], (Ty.sl (Ty.sl (Ty.sl (Ty.i .i64)))).at u271 x269, bx b276 [(Value.slice none 0 0)]] := hS278
            refine WL.storeBox [u271] hS278 (k := 3) rfl rfl rfl (us := [u271]) rfl sz_29 rfl rfl (all_rep (St.rep (t := (Ty.sl (Ty.sl (Ty.sl (Ty.i .i64))))) hS278 2 rfl) all_nil) rfl ?_
            intro wd280 hS281
            replace hS281 : St wd230 wd280 [(Ty.sl (Ty.sl (Ty.sl (Ty.i .i64)))).at u258 x256, bx b263 [u258], (Ty.sl (Ty.sl (Ty.sl (Ty.i .i64)))).at u271 x269, bx b276 [u271]] := hS281
            refine WL.nil ?_
            show W _ _ _ _ _ _
            refine W.seq (W.region ?_)
            refine WL.val v_aX _ (op_move e246) rfl ?_
            obtain ⟨x282, hx283, h⟩ := bs h
            refine WL.call _ (op_call fn_12 (args1 rfl)) (c_laws_toInt64S (Ty.lift _ (Ext.trans hE252 hS281.ext) r_aX) hx283) rfl ?_
            rintro u284 wd285 ⟨_, rfl, he286, hs287⟩
            have hS288 := St.join hS281 he286 hs287
            replace hS288 : St wd230 wd285 [(Ty.sl (Ty.sl (Ty.sl (Ty.i .i64)))).at u258 x256, bx b263 [u258], (Ty.sl (Ty.sl (Ty.sl (Ty.i .i64)))).at u271 x269, bx b276 [u271], (Ty.sl (Ty.i .i64)).at u284 x282] := hS288
            refine WL.val u284 _ (op_assign rfl) rfl ?_
            refine WL.nil ?_
            show W _ _ _ _ _ _
            refine W.seq (W.region ?_)
            refine WL.val v_aY _ (op_move e247) rfl ?_
            obtain ⟨x289, hx290, h⟩ := bs h
            refine WL.call _ (op_call fn_12 (args1 rfl)) (c_laws_toInt64S (Ty.lift _ (Ext.trans hE252 hS288.ext) r_aY) hx290) rfl ?_
            rintro u291 wd292 ⟨_, rfl, he293, hs294⟩
            have hS295 := St.join hS288 he293 hs294
            replace hS295 : St wd230 wd292 [(Ty.sl (Ty.sl (Ty.sl (Ty.i .i64)))).at u258 x256, bx b263 [u258], (Ty.sl (Ty.sl (Ty.sl (Ty.i .i64)))).at u271 x269, bx b276 [u271], (Ty.sl (Ty.i .i64)).at u284 x282, (Ty.sl (Ty.i .i64)).at u291 x289] := hS295
            refine WL.val u291 _ (op_assign rfl) rfl ?_
            refine WL.nil ?_
            show W _ _ _ _ _ _
            refine W.seq (W.region ?_)
            refine WL.val (Value.agg #[u258]) _ (op_loadBox st_29 rfl (St.boxAt hS295 1 rfl) rfl rfl) rfl ?_
            refine WL.val (Value.agg #[u271]) _ (op_loadBox st_29 rfl (St.boxAt hS295 3 rfl) rfl rfl) rfl ?_
            refine WL.val u284 _ (op_move rfl) rfl ?_
            refine WL.val u291 _ (op_move rfl) rfl ?_
            obtain ⟨x296, hx297, h⟩ := bs h
            refine WL.call _ (op_call fn_13 (args4 rfl rfl rfl rfl)) (c_impl_ProductCharacter (St.rep (t := (Ty.sl (Ty.sl (Ty.sl (Ty.i .i64))))) hS295 0 rfl) (St.rep (t := (Ty.sl (Ty.sl (Ty.sl (Ty.i .i64))))) hS295 2 rfl) (St.rep (t := (Ty.sl (Ty.i .i64))) hS295 4 rfl) (St.rep (t := (Ty.sl (Ty.i .i64))) hS295 5 rfl) hx297) rfl ?_
            rintro _ wd300 ⟨u298, rfl, hr299, he301, hs302⟩
            have hS303 := St.join hS295 he301 hs302
            replace hS303 : St wd230 wd300 [(Ty.sl (Ty.sl (Ty.sl (Ty.i .i64)))).at u258 x256, bx b263 [u258], (Ty.sl (Ty.sl (Ty.sl (Ty.i .i64)))).at u271 x269, bx b276 [u271], (Ty.sl (Ty.i .i64)).at u284 x282, (Ty.sl (Ty.i .i64)).at u291 x289, (Ty.sl (Ty.i .i64)).at u298 x296.1] := hS303
            refine WL.val (Value.tuple #[u298, (Value.int .i64 x296.2)]) _ (op_move rfl) rfl ?_
            refine WL.val u298 _ (op_extract rfl rfl) rfl ?_
            refine WL.val (Value.int .i64 x296.2) _ (op_extract rfl rfl) rfl ?_
            refine WL.val u298 _ (op_assign rfl) rfl ?_
            refine WL.val (Value.int .i64 x296.2) _ (op_assign rfl) rfl ?_
            refine WL.nil ?_
            show W _ _ _ _ _ _
            refine W.seq (W.seq (W.region ?_))
            refine WL.val u298 _ (op_move rfl) rfl ?_
            refine WL.val u239 _ (op_move e245) rfl ?_
            obtain ⟨x304, hx305, h⟩ := bs h
            refine WL.call _ (op_call fn_14 (args2 rfl rfl)) (c_laws_eqInt64S (St.rep (t := (Ty.sl (Ty.i .i64))) hS303 6 rfl) (Ty.lift _ hS303.ext hb251) hx305) rfl ?_
            rintro _ wd306 ⟨rfl, he307⟩
            have hS309 := St.extend hS303 he307
            replace hS309 : St wd230 wd306 [(Ty.sl (Ty.sl (Ty.sl (Ty.i .i64)))).at u258 x256, bx b263 [u258], (Ty.sl (Ty.sl (Ty.sl (Ty.i .i64)))).at u271 x269, bx b276 [u271], (Ty.sl (Ty.i .i64)).at u284 x282, (Ty.sl (Ty.i .i64)).at u291 x289, (Ty.sl (Ty.i .i64)).at u298 x296.1] := hS309
            refine WL.val (Value.bool (!x304)) _ (op_not rfl) rfl ?_
            refine WL.val (Value.bool (!x304)) _ (op_move rfl) rfl ?_
            refine WL.cut 4 (fun fq wq => fq 2 = v_aX ∧ fq 3 = v_aY ∧ fq 4 = (Value.pointer (some ⟨b1, 0, none⟩)) ∧ fq 5 = (Value.pointer (some ⟨b9, 0, none⟩)) ∧ fq 10 = u239 ∧ fq 11 = (Value.int .i64 x158.2) ∧ fq 12 = (Value.pointer (some ⟨b263, 0, none⟩)) ∧ fq 13 = (Value.pointer (some ⟨b276, 0, none⟩)) ∧ fq 14 = u284 ∧ fq 15 = u291 ∧ fq 16 = u298 ∧ fq 17 = (Value.int .i64 x296.2) ∧ fq 75 = (Value.bool ((!x304) || (x296.2 != x158.2))) ∧ St wd230 wq [(Ty.sl (Ty.sl (Ty.sl (Ty.i .i64)))).at u258 x256, bx b263 [u258], (Ty.sl (Ty.sl (Ty.sl (Ty.i .i64)))).at u271 x269, bx b276 [u271], (Ty.sl (Ty.i .i64)).at u284 x282, (Ty.sl (Ty.i .i64)).at u291 x289, (Ty.sl (Ty.i .i64)).at u298 x296.1]) ?_ ?_
            · rcases Bool.eq_false_or_eq_true (!x304) with hc310 | hc310
              · refine WL.gskip rfl (bool_of rfl hc310) rfl ?_
                refine WL.gskip rfl (bool_of rfl hc310) rfl ?_
                refine WL.gskip rfl (bool_of rfl hc310) rfl ?_
                refine WL.val (Value.bool true) _ (op_pick_t (evb_of rfl hc310) rfl) rfl ?_
                refine WL.nil ?_
                exact ⟨rfl, e246, e247, e248, e249, e245, rfl, rfl, rfl, rfl, rfl, rfl, rfl, (orT hc310), hS309⟩
              · refine WL.grun rfl (bool_of rfl hc310) ?_
                refine WL.val (Value.int .i64 x296.2) _ (op_move rfl) rfl ?_
                refine WL.grun rfl (bool_of rfl hc310) ?_
                refine WL.val (Value.int .i64 x158.2) _ (op_move rfl) rfl ?_
                refine WL.grun rfl (bool_of rfl hc310) ?_
                refine WL.val (Value.bool (x296.2 != x158.2)) _ (op_neq rfl rfl) rfl ?_
                refine WL.val (Value.bool (x296.2 != x158.2)) _ (op_pick_f (evb_of rfl hc310) rfl) rfl ?_
                refine WL.nil ?_
                exact ⟨rfl, e246, e247, e248, e249, e245, rfl, rfl, rfl, rfl, rfl, rfl, rfl, (orF hc310), hS309⟩
            · intro f311 wd312 hq313
              obtain ⟨hf314, hf315, hf316, hf317, hf318, hf319, hf320, hf321, hf322, hf323, hf324, hf325, hf326, hS327⟩ := hq313
              refine WL.nil ?_
              show W _ _ _ _ _ _
              refine W.cond ((!x304) || (x296.2 != x158.2)) hf326 (fun hc328 => ?_) (fun hc328 => ?_)
              · replace h := ip h hc328
                refine W.seq (W.region ?_)
                refine WL.val (Value.bool false) _ (op_assign rfl) rfl ?_
                refine WL.nil ?_
                show W _ _ _ _ _ _
                refine W.ret ?_
                obtain rfl := Option.some.inj h
                show FinP _ _ _ _ _ _ _
                exact FinP.ret _ (res1 rfl rfl) ⟨rfl, (Ext.trans hE252 hS327.ext)⟩
              · replace h := inegb h hc328
                refine W.skip ?_
                show W _ _ _ _ _ _
                refine W.seq (W.seq ?_)
                obtain ⟨x354, hx355, h⟩ := bs h
                refine W.drawR mixo 3 [] [fun _ v S w' => v = (Value.agg #[u258]), fun _ v S w' => v = (Value.agg #[v_aR_Table]), fun _ v S w' => ∃ (uu0 : Value), v = (Value.agg #[uu0]) ∧ SepS S w' [(Ty.sl (Ty.sl (Ty.sl (Ty.i .i64)))).at uu0 x354]] (by kernel_rfl) (by kernel_rfl) ⟨⟨fun _ _ _ _ _ _ h => h, fun _ _ _ _ _ _ h => h⟩, ⟨fun _ _ _ _ _ _ h => h, fun _ _ _ _ _ _ h => h⟩, ⟨fun _ _ _ _ _ he ⟨uu0, h0, r0⟩ => ⟨uu0, h0, SepS.extend he r0⟩, fun _ _ _ _ _ _ h => h⟩, trivial⟩ ⟨?_, ?_, ?_, trivial⟩ ?_
                · refine ObX.op rfl ?_
                  intro f330 wd331 he332 hout333 hphi334
                  have hS335 : St wd230 wd331 [(Ty.sl (Ty.sl (Ty.sl (Ty.i .i64)))).at u258 x256, bx b263 [u258], (Ty.sl (Ty.sl (Ty.sl (Ty.i .i64)))).at u271 x269, bx b276 [u271], (Ty.sl (Ty.i .i64)).at u284 x282, (Ty.sl (Ty.i .i64)).at u291 x289, (Ty.sl (Ty.i .i64)).at u298 x296.1] := St.extend hS327 he332
                  have e336 : f330 12 = (Value.pointer (some ⟨b263, 0, none⟩)) := (hout333 12 rfl).trans hf320
                  exact OpX.val (Value.agg #[u258]) wd331 rfl (op_loadBox st_29 e336 (St.boxAt hS335 1 rfl) rfl rfl) (Ext.refl _) rfl
                · refine ObX.op rfl ?_
                  intro f337 wd338 he339 hout340 hphi341
                  have hS342 : St wd230 wd338 [(Ty.sl (Ty.sl (Ty.sl (Ty.i .i64)))).at u258 x256, bx b263 [u258], (Ty.sl (Ty.sl (Ty.sl (Ty.i .i64)))).at u271 x269, bx b276 [u271], (Ty.sl (Ty.i .i64)).at u284 x282, (Ty.sl (Ty.i .i64)).at u291 x289, (Ty.sl (Ty.i .i64)).at u298 x296.1] := St.extend hS327 he339
                  have e343 : f337 4 = (Value.pointer (some ⟨b1, 0, none⟩)) := (hout340 4 rfl).trans hf316
                  exact OpX.val (Value.agg #[v_aR_Table]) wd338 rfl (op_loadBox st_24 e343 (BoxAt.lift (Ext.trans hE253 hS342.ext) hx6) rfl rfl) (Ext.refl _) rfl
                · refine ObX.op rfl ?_
                  intro f344 wd345 he346 hout347 hphi348
                  have hS349 : St wd230 wd345 [(Ty.sl (Ty.sl (Ty.sl (Ty.i .i64)))).at u258 x256, bx b263 [u258], (Ty.sl (Ty.sl (Ty.sl (Ty.i .i64)))).at u271 x269, bx b276 [u271], (Ty.sl (Ty.i .i64)).at u284 x282, (Ty.sl (Ty.i .i64)).at u291 x289, (Ty.sl (Ty.i .i64)).at u298 x296.1] := St.extend hS327 he346
                  obtain ⟨S350, hS351, hf352⟩ := hphi348 1 77 _ rfl rfl rfl
                  have e353 : f344 77 = (Value.agg #[v_aR_Table]) := hf352
                  refine OpX.call rfl (op_call fn_11 (args1 e353)) (Ret.mono (c_laws_toRing (Ty.lift _ (Ext.trans hE252 hS349.ext) r_aR_Table) hx355) ?_)
                  rintro _ wd357 ⟨u356, rfl, he358, hs359⟩
                  exact ⟨he358, _, newS _ _, ⟨u356, rfl, (Sep.new hs359)⟩⟩
                · intro f360 wd361 Ss362 he363 hout364 hSn365 hSd366 hphi367
                  show WL _ _ _ _ _ _ _
                  have hS368 : St wd230 wd361 [(Ty.sl (Ty.sl (Ty.sl (Ty.i .i64)))).at u258 x256, bx b263 [u258], (Ty.sl (Ty.sl (Ty.sl (Ty.i .i64)))).at u271 x269, bx b276 [u271], (Ty.sl (Ty.i .i64)).at u284 x282, (Ty.sl (Ty.i .i64)).at u291 x289, (Ty.sl (Ty.i .i64)).at u298 x296.1] := St.extend hS327 he363
                  have e369 : f360 76 = (Value.agg #[u258]) := hphi367 0 76 _ (by decide) rfl rfl
                  obtain ⟨u371, e370, e370s⟩ := hphi367 2 78 _ (by decide) rfl rfl
                  have e372 : f360 2 = v_aX := (hout364 2 rfl).trans hf314
                  have e373 : f360 3 = v_aY := (hout364 3 rfl).trans hf315
                  have e374 : f360 4 = (Value.pointer (some ⟨b1, 0, none⟩)) := (hout364 4 rfl).trans hf316
                  have e375 : f360 5 = (Value.pointer (some ⟨b9, 0, none⟩)) := (hout364 5 rfl).trans hf317
                  have e376 : f360 10 = u239 := (hout364 10 rfl).trans hf318
                  have e377 : f360 11 = (Value.int .i64 x158.2) := (hout364 11 rfl).trans hf319
                  have e378 : f360 12 = (Value.pointer (some ⟨b263, 0, none⟩)) := (hout364 12 rfl).trans hf320
                  have e379 : f360 13 = (Value.pointer (some ⟨b276, 0, none⟩)) := (hout364 13 rfl).trans hf321
                  have e380 : f360 14 = u284 := (hout364 14 rfl).trans hf322
                  have e381 : f360 15 = u291 := (hout364 15 rfl).trans hf323
                  have e382 : f360 16 = u298 := (hout364 16 rfl).trans hf324
                  have e383 : f360 17 = (Value.int .i64 x296.2) := (hout364 17 rfl).trans hf325
                  have hS384 := St.joinS hS327 he363 hSn365 (SepS.consS hSd366 rfl e370s SepS.nilS)
                  replace hS384 : St wd230 wd361 [(Ty.sl (Ty.sl (Ty.sl (Ty.i .i64)))).at u258 x256, bx b263 [u258], (Ty.sl (Ty.sl (Ty.sl (Ty.i .i64)))).at u271 x269, bx b276 [u271], (Ty.sl (Ty.i .i64)).at u284 x282, (Ty.sl (Ty.i .i64)).at u291 x289, (Ty.sl (Ty.i .i64)).at u298 x296.1, (Ty.sl (Ty.sl (Ty.sl (Ty.i .i64)))).at u371 x354] := hS384
                  obtain ⟨x385, hx386, h⟩ := bs h
                  refine WL.call _ (op_call fn_15 (args2 e369 e370)) (c_laws_eqRing (St.rep (t := (Ty.sl (Ty.sl (Ty.sl (Ty.i .i64))))) hS384 0 rfl) (St.rep (t := (Ty.sl (Ty.sl (Ty.sl (Ty.i .i64))))) hS384 7 rfl) hx386) rfl ?_
                  rintro _ wd387 ⟨rfl, he388⟩
                  have hS390 := St.extend hS384 he388
                  replace hS390 : St wd230 wd387 [(Ty.sl (Ty.sl (Ty.sl (Ty.i .i64)))).at u258 x256, bx b263 [u258], (Ty.sl (Ty.sl (Ty.sl (Ty.i .i64)))).at u271 x269, bx b276 [u271], (Ty.sl (Ty.i .i64)).at u284 x282, (Ty.sl (Ty.i .i64)).at u291 x289, (Ty.sl (Ty.i .i64)).at u298 x296.1, (Ty.sl (Ty.sl (Ty.sl (Ty.i .i64)))).at u371 x354] := hS390
                  refine WL.val (Value.bool (!x385)) _ (op_not rfl) rfl ?_
                  refine WL.nil ?_
                  show W _ _ _ _ _ _
                  refine W.cond (!x385) rfl (fun hc391 => ?_) (fun hc391 => ?_)
                  · replace h := ip h hc391
                    refine W.seq (W.region ?_)
                    refine WL.val (Value.bool false) _ (op_assign rfl) rfl ?_
                    refine WL.nil ?_
                    show W _ _ _ _ _ _
                    refine W.ret ?_
                    obtain rfl := Option.some.inj h
                    show FinP _ _ _ _ _ _ _
                    exact FinP.ret _ (res1 rfl rfl) ⟨rfl, (Ext.trans hE252 hS390.ext)⟩
                  · replace h := inegb h hc391
                    refine W.skip ?_
                    show W _ _ _ _ _ _
                    refine W.seq (W.seq ?_)
                    obtain ⟨x417, hx418, h⟩ := bs h
                    refine W.drawR mixo 3 [] [fun _ v S w' => v = (Value.agg #[u271]), fun _ v S w' => v = (Value.agg #[v_aS_Table]), fun _ v S w' => ∃ (uu0 : Value), v = (Value.agg #[uu0]) ∧ SepS S w' [(Ty.sl (Ty.sl (Ty.sl (Ty.i .i64)))).at uu0 x417]] (by kernel_rfl) (by kernel_rfl) ⟨⟨fun _ _ _ _ _ _ h => h, fun _ _ _ _ _ _ h => h⟩, ⟨fun _ _ _ _ _ _ h => h, fun _ _ _ _ _ _ h => h⟩, ⟨fun _ _ _ _ _ he ⟨uu0, h0, r0⟩ => ⟨uu0, h0, SepS.extend he r0⟩, fun _ _ _ _ _ _ h => h⟩, trivial⟩ ⟨?_, ?_, ?_, trivial⟩ ?_
                    · refine ObX.op rfl ?_
                      intro f393 wd394 he395 hout396 hphi397
                      have hS398 : St wd230 wd394 [(Ty.sl (Ty.sl (Ty.sl (Ty.i .i64)))).at u258 x256, bx b263 [u258], (Ty.sl (Ty.sl (Ty.sl (Ty.i .i64)))).at u271 x269, bx b276 [u271], (Ty.sl (Ty.i .i64)).at u284 x282, (Ty.sl (Ty.i .i64)).at u291 x289, (Ty.sl (Ty.i .i64)).at u298 x296.1, (Ty.sl (Ty.sl (Ty.sl (Ty.i .i64)))).at u371 x354] := St.extend hS390 he395
                      have e399 : f393 13 = (Value.pointer (some ⟨b276, 0, none⟩)) := (hout396 13 rfl).trans e379
                      exact OpX.val (Value.agg #[u271]) wd394 rfl (op_loadBox st_29 e399 (St.boxAt hS398 3 rfl) rfl rfl) (Ext.refl _) rfl
                    · refine ObX.op rfl ?_
                      intro f400 wd401 he402 hout403 hphi404
                      have hS405 : St wd230 wd401 [(Ty.sl (Ty.sl (Ty.sl (Ty.i .i64)))).at u258 x256, bx b263 [u258], (Ty.sl (Ty.sl (Ty.sl (Ty.i .i64)))).at u271 x269, bx b276 [u271], (Ty.sl (Ty.i .i64)).at u284 x282, (Ty.sl (Ty.i .i64)).at u291 x289, (Ty.sl (Ty.i .i64)).at u298 x296.1, (Ty.sl (Ty.sl (Ty.sl (Ty.i .i64)))).at u371 x354] := St.extend hS390 he402
                      have e406 : f400 5 = (Value.pointer (some ⟨b9, 0, none⟩)) := (hout403 5 rfl).trans e375
                      exact OpX.val (Value.agg #[v_aS_Table]) wd401 rfl (op_loadBox st_24 e406 (BoxAt.lift (Ext.trans hE254 hS405.ext) hx14) rfl rfl) (Ext.refl _) rfl
                    · refine ObX.op rfl ?_
                      intro f407 wd408 he409 hout410 hphi411
                      have hS412 : St wd230 wd408 [(Ty.sl (Ty.sl (Ty.sl (Ty.i .i64)))).at u258 x256, bx b263 [u258], (Ty.sl (Ty.sl (Ty.sl (Ty.i .i64)))).at u271 x269, bx b276 [u271], (Ty.sl (Ty.i .i64)).at u284 x282, (Ty.sl (Ty.i .i64)).at u291 x289, (Ty.sl (Ty.i .i64)).at u298 x296.1, (Ty.sl (Ty.sl (Ty.sl (Ty.i .i64)))).at u371 x354] := St.extend hS390 he409
                      obtain ⟨S413, hS414, hf415⟩ := hphi411 1 82 _ rfl rfl rfl
                      have e416 : f407 82 = (Value.agg #[v_aS_Table]) := hf415
                      refine OpX.call rfl (op_call fn_11 (args1 e416)) (Ret.mono (c_laws_toRing (Ty.lift _ (Ext.trans hE252 hS412.ext) r_aS_Table) hx418) ?_)
                      rintro _ wd420 ⟨u419, rfl, he421, hs422⟩
                      exact ⟨he421, _, newS _ _, ⟨u419, rfl, (Sep.new hs422)⟩⟩
                    · intro f423 wd424 Ss425 he426 hout427 hSn428 hSd429 hphi430
                      show WL _ _ _ _ _ _ _
                      have hS431 : St wd230 wd424 [(Ty.sl (Ty.sl (Ty.sl (Ty.i .i64)))).at u258 x256, bx b263 [u258], (Ty.sl (Ty.sl (Ty.sl (Ty.i .i64)))).at u271 x269, bx b276 [u271], (Ty.sl (Ty.i .i64)).at u284 x282, (Ty.sl (Ty.i .i64)).at u291 x289, (Ty.sl (Ty.i .i64)).at u298 x296.1, (Ty.sl (Ty.sl (Ty.sl (Ty.i .i64)))).at u371 x354] := St.extend hS390 he426
                      have e432 : f423 81 = (Value.agg #[u271]) := hphi430 0 81 _ (by decide) rfl rfl
                      obtain ⟨u434, e433, e433s⟩ := hphi430 2 83 _ (by decide) rfl rfl
                      have e435 : f423 2 = v_aX := (hout427 2 rfl).trans e372
                      have e436 : f423 3 = v_aY := (hout427 3 rfl).trans e373
                      have e437 : f423 4 = (Value.pointer (some ⟨b1, 0, none⟩)) := (hout427 4 rfl).trans e374
                      have e438 : f423 5 = (Value.pointer (some ⟨b9, 0, none⟩)) := (hout427 5 rfl).trans e375
                      have e439 : f423 10 = u239 := (hout427 10 rfl).trans e376
                      have e440 : f423 11 = (Value.int .i64 x158.2) := (hout427 11 rfl).trans e377
                      have e441 : f423 12 = (Value.pointer (some ⟨b263, 0, none⟩)) := (hout427 12 rfl).trans e378
                      have e442 : f423 13 = (Value.pointer (some ⟨b276, 0, none⟩)) := (hout427 13 rfl).trans e379
                      have e443 : f423 14 = u284 := (hout427 14 rfl).trans e380
                      have e444 : f423 15 = u291 := (hout427 15 rfl).trans e381
                      have e445 : f423 16 = u298 := (hout427 16 rfl).trans e382
                      have e446 : f423 17 = (Value.int .i64 x296.2) := (hout427 17 rfl).trans e383
                      have hS447 := St.joinS hS390 he426 hSn428 (SepS.consS hSd429 rfl e433s SepS.nilS)
                      replace hS447 : St wd230 wd424 [(Ty.sl (Ty.sl (Ty.sl (Ty.i .i64)))).at u258 x256, bx b263 [u258], (Ty.sl (Ty.sl (Ty.sl (Ty.i .i64)))).at u271 x269, bx b276 [u271], (Ty.sl (Ty.i .i64)).at u284 x282, (Ty.sl (Ty.i .i64)).at u291 x289, (Ty.sl (Ty.i .i64)).at u298 x296.1, (Ty.sl (Ty.sl (Ty.sl (Ty.i .i64)))).at u371 x354, (Ty.sl (Ty.sl (Ty.sl (Ty.i .i64)))).at u434 x417] := hS447
                      obtain ⟨x448, hx449, h⟩ := bs h
                      refine WL.call _ (op_call fn_15 (args2 e432 e433)) (c_laws_eqRing (St.rep (t := (Ty.sl (Ty.sl (Ty.sl (Ty.i .i64))))) hS447 2 rfl) (St.rep (t := (Ty.sl (Ty.sl (Ty.sl (Ty.i .i64))))) hS447 8 rfl) hx449) rfl ?_
                      rintro _ wd450 ⟨rfl, he451⟩
                      have hS453 := St.extend hS447 he451
                      replace hS453 : St wd230 wd450 [(Ty.sl (Ty.sl (Ty.sl (Ty.i .i64)))).at u258 x256, bx b263 [u258], (Ty.sl (Ty.sl (Ty.sl (Ty.i .i64)))).at u271 x269, bx b276 [u271], (Ty.sl (Ty.i .i64)).at u284 x282, (Ty.sl (Ty.i .i64)).at u291 x289, (Ty.sl (Ty.i .i64)).at u298 x296.1, (Ty.sl (Ty.sl (Ty.sl (Ty.i .i64)))).at u371 x354, (Ty.sl (Ty.sl (Ty.sl (Ty.i .i64)))).at u434 x417] := hS453
                      refine WL.val (Value.bool (!x448)) _ (op_not rfl) rfl ?_
                      refine WL.nil ?_
                      show W _ _ _ _ _ _
                      refine W.cond (!x448) rfl (fun hc454 => ?_) (fun hc454 => ?_)
                      · replace h := ip h hc454
                        refine W.seq (W.region ?_)
                        refine WL.val (Value.bool false) _ (op_assign rfl) rfl ?_
                        refine WL.nil ?_
                        show W _ _ _ _ _ _
                        refine W.ret ?_
                        obtain rfl := Option.some.inj h
                        show FinP _ _ _ _ _ _ _
                        exact FinP.ret _ (res1 rfl rfl) ⟨rfl, (Ext.trans hE252 hS453.ext)⟩
                      · replace h := inegb h hc454
                        refine W.skip ?_
                        show W _ _ _ _ _ _
                        refine W.seq (W.seq (W.region ?_))
                        refine WL.val u284 _ (op_move e443) rfl ?_
                        refine WL.val v_aX _ (op_move e435) rfl ?_
                        obtain ⟨x456, hx457, h⟩ := bs h
                        refine WL.call _ (op_call fn_12 (args1 rfl)) (c_laws_toInt64S (Ty.lift _ (Ext.trans hE252 hS453.ext) r_aX) hx457) rfl ?_
                        rintro u458 wd459 ⟨_, rfl, he460, hs461⟩
                        have hS462 := St.join hS453 he460 hs461
                        replace hS462 : St wd230 wd459 [(Ty.sl (Ty.sl (Ty.sl (Ty.i .i64)))).at u258 x256, bx b263 [u258], (Ty.sl (Ty.sl (Ty.sl (Ty.i .i64)))).at u271 x269, bx b276 [u271], (Ty.sl (Ty.i .i64)).at u284 x282, (Ty.sl (Ty.i .i64)).at u291 x289, (Ty.sl (Ty.i .i64)).at u298 x296.1, (Ty.sl (Ty.sl (Ty.sl (Ty.i .i64)))).at u371 x354, (Ty.sl (Ty.sl (Ty.sl (Ty.i .i64)))).at u434 x417, (Ty.sl (Ty.i .i64)).at u458 x456] := hS462
                        obtain ⟨x463, hx464, h⟩ := bs h
                        refine WL.call _ (op_call fn_14 (args2 rfl rfl)) (c_laws_eqInt64S (St.rep (t := (Ty.sl (Ty.i .i64))) hS462 4 rfl) (St.rep (t := (Ty.sl (Ty.i .i64))) hS462 9 rfl) hx464) rfl ?_
                        rintro _ wd465 ⟨rfl, he466⟩
                        have hS468 := St.extend hS462 he466
                        replace hS468 : St wd230 wd465 [(Ty.sl (Ty.sl (Ty.sl (Ty.i .i64)))).at u258 x256, bx b263 [u258], (Ty.sl (Ty.sl (Ty.sl (Ty.i .i64)))).at u271 x269, bx b276 [u271], (Ty.sl (Ty.i .i64)).at u284 x282, (Ty.sl (Ty.i .i64)).at u291 x289, (Ty.sl (Ty.i .i64)).at u298 x296.1, (Ty.sl (Ty.sl (Ty.sl (Ty.i .i64)))).at u371 x354, (Ty.sl (Ty.sl (Ty.sl (Ty.i .i64)))).at u434 x417, (Ty.sl (Ty.i .i64)).at u458 x456] := hS468
                        refine WL.val (Value.bool (!x463)) _ (op_not rfl) rfl ?_
                        refine WL.nil ?_
                        show W _ _ _ _ _ _
                        refine W.cond (!x463) rfl (fun hc469 => ?_) (fun hc469 => ?_)
                        · replace h := ip h hc469
                          refine W.seq (W.region ?_)
                          refine WL.val (Value.bool false) _ (op_assign rfl) rfl ?_
                          refine WL.nil ?_
                          show W _ _ _ _ _ _
                          refine W.ret ?_
                          obtain rfl := Option.some.inj h
                          show FinP _ _ _ _ _ _ _
                          exact FinP.ret _ (res1 rfl rfl) ⟨rfl, (Ext.trans hE252 hS468.ext)⟩
                        · replace h := inegb h hc469
                          refine W.skip ?_
                          show W _ _ _ _ _ _
                          refine W.seq (W.seq (W.region ?_))
                          refine WL.val u291 _ (op_move e444) rfl ?_
                          refine WL.val v_aY _ (op_move e436) rfl ?_
                          obtain ⟨x471, hx472, h⟩ := bs h
                          refine WL.call _ (op_call fn_12 (args1 rfl)) (c_laws_toInt64S (Ty.lift _ (Ext.trans hE252 hS468.ext) r_aY) hx472) rfl ?_
                          rintro u473 wd474 ⟨_, rfl, he475, hs476⟩
                          have hS477 := St.join hS468 he475 hs476
                          replace hS477 : St wd230 wd474 [(Ty.sl (Ty.sl (Ty.sl (Ty.i .i64)))).at u258 x256, bx b263 [u258], (Ty.sl (Ty.sl (Ty.sl (Ty.i .i64)))).at u271 x269, bx b276 [u271], (Ty.sl (Ty.i .i64)).at u284 x282, (Ty.sl (Ty.i .i64)).at u291 x289, (Ty.sl (Ty.i .i64)).at u298 x296.1, (Ty.sl (Ty.sl (Ty.sl (Ty.i .i64)))).at u371 x354, (Ty.sl (Ty.sl (Ty.sl (Ty.i .i64)))).at u434 x417, (Ty.sl (Ty.i .i64)).at u458 x456, (Ty.sl (Ty.i .i64)).at u473 x471] := hS477
                          obtain ⟨x478, hx479, h⟩ := bs h
                          refine WL.call _ (op_call fn_14 (args2 rfl rfl)) (c_laws_eqInt64S (St.rep (t := (Ty.sl (Ty.i .i64))) hS477 5 rfl) (St.rep (t := (Ty.sl (Ty.i .i64))) hS477 10 rfl) hx479) rfl ?_
                          rintro _ wd480 ⟨rfl, he481⟩
                          have hS483 := St.extend hS477 he481
                          replace hS483 : St wd230 wd480 [(Ty.sl (Ty.sl (Ty.sl (Ty.i .i64)))).at u258 x256, bx b263 [u258], (Ty.sl (Ty.sl (Ty.sl (Ty.i .i64)))).at u271 x269, bx b276 [u271], (Ty.sl (Ty.i .i64)).at u284 x282, (Ty.sl (Ty.i .i64)).at u291 x289, (Ty.sl (Ty.i .i64)).at u298 x296.1, (Ty.sl (Ty.sl (Ty.sl (Ty.i .i64)))).at u371 x354, (Ty.sl (Ty.sl (Ty.sl (Ty.i .i64)))).at u434 x417, (Ty.sl (Ty.i .i64)).at u458 x456, (Ty.sl (Ty.i .i64)).at u473 x471] := hS483
                          refine WL.val (Value.bool (!x478)) _ (op_not rfl) rfl ?_
                          refine WL.nil ?_
                          show W _ _ _ _ _ _
                          refine W.cond (!x478) rfl (fun hc484 => ?_) (fun hc484 => ?_)
                          · replace h := ip h hc484
                            refine W.seq (W.region ?_)
                            refine WL.val (Value.bool false) _ (op_assign rfl) rfl ?_
                            refine WL.nil ?_
                            show W _ _ _ _ _ _
                            refine W.ret ?_
                            obtain rfl := Option.some.inj h
                            show FinP _ _ _ _ _ _ _
                            exact FinP.ret _ (res1 rfl rfl) ⟨rfl, (Ext.trans hE252 hS483.ext)⟩
                          · replace h := inegb h hc484
                            refine W.skip ?_
                            show W _ _ _ _ _ _
                            refine W.seq (W.region ?_)
                            refine WL.val (Value.int .i64 (1 : Int)) _ (op_assign rfl) rfl ?_
                            refine WL.nil ?_
                            show W _ _ _ _ _ _
                            refine W.seq (W.region ?_)
                            refine WL.val (Value.agg #[u258]) _ (op_loadBox st_29 e441 (St.boxAt hS483 1 rfl) rfl rfl) rfl ?_
                            refine WL.val (Value.int .i64 (1 : Int)) _ (op_move rfl) rfl ?_
                            obtain ⟨x486, hx487, h⟩ := bs h
                            have hS488 := St.fold [(Ty.sl (Ty.sl (Ty.sl (Ty.i .i64)))).at u258 x256] [bx b263 [u258], (Ty.sl (Ty.sl (Ty.sl (Ty.i .i64)))).at u271 x269, bx b276 [u271], (Ty.sl (Ty.i .i64)).at u284 x282, (Ty.sl (Ty.i .i64)).at u291 x289, (Ty.sl (Ty.i .i64)).at u298 x296.1, (Ty.sl (Ty.sl (Ty.sl (Ty.i .i64)))).at u371 x354, (Ty.sl (Ty.sl (Ty.sl (Ty.i .i64)))).at u434 x417, (Ty.sl (Ty.i .i64)).at u458 x456, (Ty.sl (Ty.i .i64)).at u473 x471] (St.pick hS483 [0, 1, 2, 3, 4, 5, 6, 7, 8, 9, 10] rfl)
                            refine WL.call _ (op_call fn_16 (args2 rfl rfl)) (c_laws_markRing hS488 (inR_i64.2 (show (-9223372036854775808 : Int) ≤ 1 ∧ (1 : Int) ≤ 9223372036854775807 from by decide)) hx487) rfl ?_
                            rintro _ wd491 ⟨rfl, hr492, hS489⟩
                            have hS490 := St.pick (St.unfold [(Ty.sl (Ty.sl (Ty.sl (Ty.i .i64)))).at u258 x486.2] [bx b263 [u258], (Ty.sl (Ty.sl (Ty.sl (Ty.i .i64)))).at u271 x269, bx b276 [u271], (Ty.sl (Ty.i .i64)).at u284 x282, (Ty.sl (Ty.i .i64)).at u291 x289, (Ty.sl (Ty.i .i64)).at u298 x296.1, (Ty.sl (Ty.sl (Ty.sl (Ty.i .i64)))).at u371 x354, (Ty.sl (Ty.sl (Ty.sl (Ty.i .i64)))).at u434 x417, (Ty.sl (Ty.i .i64)).at u458 x456, (Ty.sl (Ty.i .i64)).at u473 x471] hS489) [0, 1, 2, 3, 4, 5, 6, 7, 8, 9, 10] rfl
                            replace hS490 : St wd230 wd491 [(Ty.sl (Ty.sl (Ty.sl (Ty.i .i64)))).at u258 x486.2, bx b263 [u258], (Ty.sl (Ty.sl (Ty.sl (Ty.i .i64)))).at u271 x269, bx b276 [u271], (Ty.sl (Ty.i .i64)).at u284 x282, (Ty.sl (Ty.i .i64)).at u291 x289, (Ty.sl (Ty.i .i64)).at u298 x296.1, (Ty.sl (Ty.sl (Ty.sl (Ty.i .i64)))).at u371 x354, (Ty.sl (Ty.sl (Ty.sl (Ty.i .i64)))).at u434 x417, (Ty.sl (Ty.i .i64)).at u458 x456, (Ty.sl (Ty.i .i64)).at u473 x471] := hS490
                            refine WL.val (Value.int .i64 x486.1) _ (op_assign rfl) rfl ?_
                            refine WL.nil ?_
                            show W _ _ _ _ _ _
                            refine W.seq (W.region ?_)
                            refine WL.val (Value.agg #[u271]) _ (op_loadBox st_29 e442 (St.boxAt hS490 3 rfl) rfl rfl) rfl ?_
                            refine WL.val (Value.int .i64 x486.1) _ (op_move rfl) rfl ?_
                            obtain ⟨x493, hx494, h⟩ := bs h
                            have hS495 := St.fold [(Ty.sl (Ty.sl (Ty.sl (Ty.i .i64)))).at u271 x269] [(Ty.sl (Ty.sl (Ty.sl (Ty.i .i64)))).at u258 x486.2, bx b263 [u258], bx b276 [u271], (Ty.sl (Ty.i .i64)).at u284 x282, (Ty.sl (Ty.i .i64)).at u291 x289, (Ty.sl (Ty.i .i64)).at u298 x296.1, (Ty.sl (Ty.sl (Ty.sl (Ty.i .i64)))).at u371 x354, (Ty.sl (Ty.sl (Ty.sl (Ty.i .i64)))).at u434 x417, (Ty.sl (Ty.i .i64)).at u458 x456, (Ty.sl (Ty.i .i64)).at u473 x471] (St.pick hS490 [2, 0, 1, 3, 4, 5, 6, 7, 8, 9, 10] rfl)
                            refine WL.call _ (op_call fn_16 (args2 rfl rfl)) (c_laws_markRing hS495 hr492 hx494) rfl ?_
                            rintro _ wd498 ⟨rfl, hr499, hS496⟩
                            have hS497 := St.pick (St.unfold [(Ty.sl (Ty.sl (Ty.sl (Ty.i .i64)))).at u271 x493.2] [(Ty.sl (Ty.sl (Ty.sl (Ty.i .i64)))).at u258 x486.2, bx b263 [u258], bx b276 [u271], (Ty.sl (Ty.i .i64)).at u284 x282, (Ty.sl (Ty.i .i64)).at u291 x289, (Ty.sl (Ty.i .i64)).at u298 x296.1, (Ty.sl (Ty.sl (Ty.sl (Ty.i .i64)))).at u371 x354, (Ty.sl (Ty.sl (Ty.sl (Ty.i .i64)))).at u434 x417, (Ty.sl (Ty.i .i64)).at u458 x456, (Ty.sl (Ty.i .i64)).at u473 x471] hS496) [1, 2, 0, 3, 4, 5, 6, 7, 8, 9, 10] rfl
                            replace hS497 : St wd230 wd498 [(Ty.sl (Ty.sl (Ty.sl (Ty.i .i64)))).at u258 x486.2, bx b263 [u258], (Ty.sl (Ty.sl (Ty.sl (Ty.i .i64)))).at u271 x493.2, bx b276 [u271], (Ty.sl (Ty.i .i64)).at u284 x282, (Ty.sl (Ty.i .i64)).at u291 x289, (Ty.sl (Ty.i .i64)).at u298 x296.1, (Ty.sl (Ty.sl (Ty.sl (Ty.i .i64)))).at u371 x354, (Ty.sl (Ty.sl (Ty.sl (Ty.i .i64)))).at u434 x417, (Ty.sl (Ty.i .i64)).at u458 x456, (Ty.sl (Ty.i .i64)).at u473 x471] := hS497
                            refine WL.val (Value.int .i64 x493.1) _ (op_assign rfl) rfl ?_
                            refine WL.nil ?_
                            show W _ _ _ _ _ _
                            refine W.seq (W.region ?_)
                            refine WL.val u284 _ (op_move e443) rfl ?_
                            refine WL.val (Value.int .i64 x493.1) _ (op_move rfl) rfl ?_
                            obtain ⟨x500, hx501, h⟩ := bs h
                            have hS502 := St.fold [(Ty.sl (Ty.i .i64)).at u284 x282] [(Ty.sl (Ty.sl (Ty.sl (Ty.i .i64)))).at u258 x486.2, bx b263 [u258], (Ty.sl (Ty.sl (Ty.sl (Ty.i .i64)))).at u271 x493.2, bx b276 [u271], (Ty.sl (Ty.i .i64)).at u291 x289, (Ty.sl (Ty.i .i64)).at u298 x296.1, (Ty.sl (Ty.sl (Ty.sl (Ty.i .i64)))).at u371 x354, (Ty.sl (Ty.sl (Ty.sl (Ty.i .i64)))).at u434 x417, (Ty.sl (Ty.i .i64)).at u458 x456, (Ty.sl (Ty.i .i64)).at u473 x471] (St.pick hS497 [4, 0, 1, 2, 3, 5, 6, 7, 8, 9, 10] rfl)
                            refine WL.call _ (op_call fn_17 (args2 rfl rfl)) (c_laws_markInt64S hS502 hr499 hx501) rfl ?_
                            rintro _ wd505 ⟨rfl, hr506, hS503⟩
                            have hS504 := St.pick (St.unfold [(Ty.sl (Ty.i .i64)).at u284 x500.2] [(Ty.sl (Ty.sl (Ty.sl (Ty.i .i64)))).at u258 x486.2, bx b263 [u258], (Ty.sl (Ty.sl (Ty.sl (Ty.i .i64)))).at u271 x493.2, bx b276 [u271], (Ty.sl (Ty.i .i64)).at u291 x289, (Ty.sl (Ty.i .i64)).at u298 x296.1, (Ty.sl (Ty.sl (Ty.sl (Ty.i .i64)))).at u371 x354, (Ty.sl (Ty.sl (Ty.sl (Ty.i .i64)))).at u434 x417, (Ty.sl (Ty.i .i64)).at u458 x456, (Ty.sl (Ty.i .i64)).at u473 x471] hS503) [1, 2, 3, 4, 0, 5, 6, 7, 8, 9, 10] rfl
                            replace hS504 : St wd230 wd505 [(Ty.sl (Ty.sl (Ty.sl (Ty.i .i64)))).at u258 x486.2, bx b263 [u258], (Ty.sl (Ty.sl (Ty.sl (Ty.i .i64)))).at u271 x493.2, bx b276 [u271], (Ty.sl (Ty.i .i64)).at u284 x500.2, (Ty.sl (Ty.i .i64)).at u291 x289, (Ty.sl (Ty.i .i64)).at u298 x296.1, (Ty.sl (Ty.sl (Ty.sl (Ty.i .i64)))).at u371 x354, (Ty.sl (Ty.sl (Ty.sl (Ty.i .i64)))).at u434 x417, (Ty.sl (Ty.i .i64)).at u458 x456, (Ty.sl (Ty.i .i64)).at u473 x471] := hS504
                            refine WL.val (Value.int .i64 x500.1) _ (op_assign rfl) rfl ?_
                            refine WL.nil ?_
                            show W _ _ _ _ _ _
                            refine W.seq (W.region ?_)
                            refine WL.val u291 _ (op_move e444) rfl ?_
                            refine WL.val (Value.int .i64 x500.1) _ (op_move rfl) rfl ?_
                            obtain ⟨x507, hx508, h⟩ := bs h
                            have hS509 := St.fold [(Ty.sl (Ty.i .i64)).at u291 x289] [(Ty.sl (Ty.sl (Ty.sl (Ty.i .i64)))).at u258 x486.2, bx b263 [u258], (Ty.sl (Ty.sl (Ty.sl (Ty.i .i64)))).at u271 x493.2, bx b276 [u271], (Ty.sl (Ty.i .i64)).at u284 x500.2, (Ty.sl (Ty.i .i64)).at u298 x296.1, (Ty.sl (Ty.sl (Ty.sl (Ty.i .i64)))).at u371 x354, (Ty.sl (Ty.sl (Ty.sl (Ty.i .i64)))).at u434 x417, (Ty.sl (Ty.i .i64)).at u458 x456, (Ty.sl (Ty.i .i64)).at u473 x471] (St.pick hS504 [5, 0, 1, 2, 3, 4, 6, 7, 8, 9, 10] rfl)
                            refine WL.call _ (op_call fn_17 (args2 rfl rfl)) (c_laws_markInt64S hS509 hr506 hx508) rfl ?_
                            rintro _ wd512 ⟨rfl, hr513, hS510⟩
                            have hS511 := St.pick (St.unfold [(Ty.sl (Ty.i .i64)).at u291 x507.2] [(Ty.sl (Ty.sl (Ty.sl (Ty.i .i64)))).at u258 x486.2, bx b263 [u258], (Ty.sl (Ty.sl (Ty.sl (Ty.i .i64)))).at u271 x493.2, bx b276 [u271], (Ty.sl (Ty.i .i64)).at u284 x500.2, (Ty.sl (Ty.i .i64)).at u298 x296.1, (Ty.sl (Ty.sl (Ty.sl (Ty.i .i64)))).at u371 x354, (Ty.sl (Ty.sl (Ty.sl (Ty.i .i64)))).at u434 x417, (Ty.sl (Ty.i .i64)).at u458 x456, (Ty.sl (Ty.i .i64)).at u473 x471] hS510) [1, 2, 3, 4, 5, 0, 6, 7, 8, 9, 10] rfl
                            replace hS511 : St wd230 wd512 [(Ty.sl (Ty.sl (Ty.sl (Ty.i .i64)))).at u258 x486.2, bx b263 [u258], (Ty.sl (Ty.sl (Ty.sl (Ty.i .i64)))).at u271 x493.2, bx b276 [u271], (Ty.sl (Ty.i .i64)).at u284 x500.2, (Ty.sl (Ty.i .i64)).at u291 x507.2, (Ty.sl (Ty.i .i64)).at u298 x296.1, (Ty.sl (Ty.sl (Ty.sl (Ty.i .i64)))).at u371 x354, (Ty.sl (Ty.sl (Ty.sl (Ty.i .i64)))).at u434 x417, (Ty.sl (Ty.i .i64)).at u458 x456, (Ty.sl (Ty.i .i64)).at u473 x471] := hS511
                            refine WL.val (Value.int .i64 x507.1) _ (op_assign rfl) rfl ?_
                            refine WL.nil ?_
                            show W _ _ _ _ _ _
                            refine W.seq (W.seq (W.region ?_))
                            refine WL.val (Value.int .i64 x507.1) _ (op_move rfl) rfl ?_
                            refine WL.val (Value.bool (decide (x507.1 < (0 : Int)))) _ (op_lss rfl rfl) rfl ?_
                            refine WL.val (Value.bool (decide (x507.1 < (0 : Int)))) _ (op_move rfl) rfl ?_
                            obtain ⟨x515, hj516, h⟩ := bs h
                            refine WL.cut 5 (fun fq wq => fq 2 = v_aX ∧ fq 3 = v_aY ∧ fq 4 = (Value.pointer (some ⟨b1, 0, none⟩)) ∧ fq 5 = (Value.pointer (some ⟨b9, 0, none⟩)) ∧ fq 10 = u239 ∧ fq 11 = (Value.int .i64 x158.2) ∧ fq 16 = u298 ∧ fq 17 = (Value.int .i64 x296.2) ∧ fq 115 = Value.bool x515 ∧ St wd230 wq [(Ty.sl (Ty.i .i64)).at u298 x296.1]) ?_ ?_
                            · rcases Bool.eq_false_or_eq_true (decide (x507.1 < (0 : Int))) with hc514 | hc514
                              · replace hj516 := ip hj516 hc514
                                refine WL.gskip rfl (bool_of rfl hc514) rfl ?_
                                refine WL.gskip rfl (bool_of rfl hc514) rfl ?_
                                refine WL.gskip rfl (bool_of rfl hc514) rfl ?_
                                refine WL.gskip rfl (bool_of rfl hc514) rfl ?_
                                refine WL.val (Value.bool true) _ (op_pick_t (evb_of rfl hc514) rfl) rfl ?_
                                refine WL.nil ?_
                                obtain rfl := Option.some.inj hj516
                                exact ⟨rfl, e435, e436, e437, e438, e439, e440, e445, e446, rfl, (St.pick hS511 [6] rfl)⟩
                              · replace hj516 := inegb hj516 hc514
                                refine WL.grun rfl (bool_of rfl hc514) ?_
                                refine WL.val u298 _ (op_move e445) rfl ?_
                                refine WL.grun rfl (bool_of rfl hc514) ?_
                                refine WL.val u239 _ (op_move e439) rfl ?_
                                refine WL.grun rfl (bool_of rfl hc514) ?_
                                obtain ⟨x520, hx521, hj516⟩ := bs hj516
                                refine WL.call _ (op_call fn_14 (args2 rfl rfl)) (c_laws_eqInt64S (St.rep (t := (Ty.sl (Ty.i .i64))) hS511 6 rfl) (Ty.lift _ hS511.ext hb251) hx521) rfl ?_
                                rintro _ wd522 ⟨rfl, he523⟩
                                have hS525 := St.extend hS511 he523
                                replace hS525 : St wd230 wd522 [(Ty.sl (Ty.sl (Ty.sl (Ty.i .i64)))).at u258 x486.2, bx b263 [u258], (Ty.sl (Ty.sl (Ty.sl (Ty.i .i64)))).at u271 x493.2, bx b276 [u271], (Ty.sl (Ty.i .i64)).at u284 x500.2, (Ty.sl (Ty.i .i64)).at u291 x507.2, (Ty.sl (Ty.i .i64)).at u298 x296.1, (Ty.sl (Ty.sl (Ty.sl (Ty.i .i64)))).at u371 x354, (Ty.sl (Ty.sl (Ty.sl (Ty.i .i64)))).at u434 x417, (Ty.sl (Ty.i .i64)).at u458 x456, (Ty.sl (Ty.i .i64)).at u473 x471] := hS525
                                refine WL.grun rfl (bool_of rfl hc514) ?_
                                refine WL.val (Value.bool (!x520)) _ (op_not rfl) rfl ?_
                                refine WL.val (Value.bool (!x520)) _ (op_pick_f (evb_of rfl hc514) rfl) rfl ?_
                                refine WL.nil ?_
                                obtain rfl := Option.some.inj hj516
                                exact ⟨rfl, e435, e436, e437, e438, e439, e440, e445, e446, rfl, (St.pick hS525 [6] rfl)⟩
                            · intro f517 wd518 hq519
                              obtain ⟨hf526, hf527, hf528, hf529, hf530, hf531, hf532, hf533, hf534, hS535⟩ := hq519
                              refine WL.val (Value.bool x515) _ (op_move hf534) rfl ?_
                              refine WL.cut 4 (fun fq wq => fq 2 = v_aX ∧ fq 3 = v_aY ∧ fq 4 = (Value.pointer (some ⟨b1, 0, none⟩)) ∧ fq 5 = (Value.pointer (some ⟨b9, 0, none⟩)) ∧ fq 10 = u239 ∧ fq 11 = (Value.int .i64 x158.2) ∧ fq 16 = u298 ∧ fq 120 = (Value.bool (x515 || (x296.2 != x158.2))) ∧ St wd230 wq [(Ty.sl (Ty.i .i64)).at u298 x296.1]) ?_ ?_
                              · rcases Bool.eq_false_or_eq_true x515 with hc536 | hc536
                                · refine WL.gskip rfl (bool_of rfl hc536) rfl ?_
                                  refine WL.gskip rfl (bool_of rfl hc536) rfl ?_
                                  refine WL.gskip rfl (bool_of rfl hc536) rfl ?_
                                  refine WL.val (Value.bool true) _ (op_pick_t (evb_of rfl hc536) rfl) rfl ?_
                                  refine WL.nil ?_
                                  exact ⟨rfl, hf526, hf527, hf528, hf529, hf530, hf531, hf532, (orT hc536), hS535⟩
                                · refine WL.grun rfl (bool_of rfl hc536) ?_
                                  refine WL.val (Value.int .i64 x296.2) _ (op_move hf533) rfl ?_
                                  refine WL.grun rfl (bool_of rfl hc536) ?_
                                  refine WL.val (Value.int .i64 x158.2) _ (op_move hf531) rfl ?_
                                  refine WL.grun rfl (bool_of rfl hc536) ?_
                                  refine WL.val (Value.bool (x296.2 != x158.2)) _ (op_neq rfl rfl) rfl ?_
                                  refine WL.val (Value.bool (x296.2 != x158.2)) _ (op_pick_f (evb_of rfl hc536) rfl) rfl ?_
                                  refine WL.nil ?_
                                  exact ⟨rfl, hf526, hf527, hf528, hf529, hf530, hf531, hf532, (orF hc536), hS535⟩
                              · intro f537 wd538 hq539
                                obtain ⟨hf540, hf541, hf542, hf543, hf544, hf545, hf546, hf547, hS548⟩ := hq539
                                refine WL.nil ?_
                                show W _ _ _ _ _ _
                                refine W.cond (x515 || (x296.2 != x158.2)) hf547 (fun hc549 => ?_) (fun hc549 => ?_)
                                · replace h := ip h hc549
                                  refine W.seq (W.region ?_)
                                  refine WL.val (Value.bool false) _ (op_assign rfl) rfl ?_
                                  refine WL.nil ?_
                                  show W _ _ _ _ _ _
                                  refine W.ret ?_
                                  obtain rfl := Option.some.inj h
                                  show FinP _ _ _ _ _ _ _
                                  exact FinP.ret _ (res1 rfl rfl) ⟨rfl, (Ext.trans hE252 hS548.ext)⟩
                                · replace h := inegb h hc549
                                  refine W.skip ?_
                                  show W _ _ _ _ _ _
                                  refine W.seq (W.region ?_)
                                  refine WL.val (Value.int .i64 (1 : Int)) _ (op_assign rfl) rfl ?_
                                  refine WL.nil ?_
                                  show W _ _ _ _ _ _
                                  refine W.seq (W.region ?_)
                                  refine WL.val u298 _ (op_move hf546) rfl ?_
                                  refine WL.val (Value.int .i64 (1 : Int)) _ (op_move rfl) rfl ?_
                                  obtain ⟨x551, hx552, h⟩ := bs h
                                  have hS553 := St.fold [(Ty.sl (Ty.i .i64)).at u298 x296.1] [] (St.pick hS548 [0] rfl)
                                  refine WL.call _ (op_call fn_17 (args2 rfl rfl)) (c_laws_markInt64S hS553 (inR_i64.2 (show (-9223372036854775808 : Int) ≤ 1 ∧ (1 : Int) ≤ 9223372036854775807 from by decide)) hx552) rfl ?_
                                  rintro _ wd556 ⟨rfl, hr557, hS554⟩
                                  have hS555 := St.pick (St.unfold [(Ty.sl (Ty.i .i64)).at u298 x551.2] [] hS554) [0] rfl
                                  replace hS555 : St wd230 wd556 [(Ty.sl (Ty.i .i64)).at u298 x551.2] := hS555
                                  refine WL.val (Value.int .i64 x551.1) _ (op_assign rfl) rfl ?_
                                  refine WL.nil ?_
                                  show W _ _ _ _ _ _
                                  refine W.seq (W.region ?_)
                                  refine WL.val (Value.int .i64 (1 : Int)) _ (op_assign rfl) rfl ?_
                                  refine WL.nil ?_
                                  show W _ _ _ _ _ _
                                  refine W.seq (W.region ?_)
                                  refine WL.val u298 _ (op_move hf546) rfl ?_
                                  refine WL.val (Value.int .i64 (1 : Int)) _ (op_move rfl) rfl ?_
                                  obtain ⟨x558, hx559, h⟩ := bs h
                                  refine WL.call _ (op_call fn_18 (args2 rfl rfl)) (c_laws_heldInt64S (St.rep (t := (Ty.sl (Ty.i .i64))) hS555 0 rfl) (inR_i64.2 (show (-9223372036854775808 : Int) ≤ 1 ∧ (1 : Int) ≤ 9223372036854775807 from by decide)) hx559) rfl ?_
                                  rintro _ wd561 ⟨rfl, hr560, he562⟩
                                  have hS564 := St.extend hS555 he562
                                  replace hS564 : St wd230 wd561 [(Ty.sl (Ty.i .i64)).at u298 x551.2] := hS564
                                  refine WL.val (Value.int .i64 x558) _ (op_assign rfl) rfl ?_
                                  refine WL.nil ?_
                                  show W _ _ _ _ _ _
                                  refine W.seq (W.seq (W.region ?_))
                                  refine WL.val (Value.int .i64 x558) _ (op_move rfl) rfl ?_
                                  refine WL.val (Value.bool (decide (x558 < (0 : Int)))) _ (op_lss rfl rfl) rfl ?_
                                  refine WL.nil ?_
                                  show W _ _ _ _ _ _
                                  refine W.cond (decide (x558 < (0 : Int))) rfl (fun hc565 => ?_) (fun hc565 => ?_)
                                  · replace h := ip h hc565
                                    refine W.seq (W.region ?_)
                                    refine WL.val (Value.bool false) _ (op_assign rfl) rfl ?_
                                    refine WL.nil ?_
                                    show W _ _ _ _ _ _
                                    refine W.ret ?_
                                    obtain rfl := Option.some.inj h
                                    show FinP _ _ _ _ _ _ _
                                    exact FinP.ret _ (res1 rfl rfl) ⟨rfl, (Ext.trans hE252 hS564.ext)⟩
                                  · replace h := inegb h hc565
                                    refine W.skip ?_
                                    show W _ _ _ _ _ _
                                    refine W.seq (W.seq (W.region ?_))
                                    refine WL.val (Value.int .i64 x558) _ (op_move rfl) rfl ?_
                                    refine WL.val (Value.int .i64 x551.1) _ (op_move rfl) rfl ?_
                                    refine WL.val (Value.bool (x558 != x551.1)) _ (op_neq rfl rfl) rfl ?_
                                    refine WL.nil ?_
                                    show W _ _ _ _ _ _
                                    refine W.cond (x558 != x551.1) rfl (fun hc567 => ?_) (fun hc567 => ?_)
                                    · replace h := ip h hc567
                                      refine W.seq (W.region ?_)
                                      refine WL.val (Value.bool false) _ (op_assign rfl) rfl ?_
                                      refine WL.nil ?_
                                      show W _ _ _ _ _ _
                                      refine W.ret ?_
                                      obtain rfl := Option.some.inj h
                                      show FinP _ _ _ _ _ _ _
                                      exact FinP.ret _ (res1 rfl rfl) ⟨rfl, (Ext.trans hE252 hS564.ext)⟩
                                    · replace h := inegb h hc567
                                      refine W.skip ?_
                                      show W _ _ _ _ _ _
                                      refine W.seq ?_
                                      obtain ⟨x586, hx587, h⟩ := bs h
                                      obtain ⟨x609, hx610, h⟩ := bs h
                                      obtain ⟨x632, hx633, h⟩ := bs h
                                      obtain ⟨x655, hx656, h⟩ := bs h
                                      obtain ⟨x685, hx686, h⟩ := bs h
                                      refine W.drawR mixo 13 [] [fun _ v S w' => v = (Value.agg #[v_aR_Table]), fun _ v S w' => ∃ (uu0 : Value), v = (Value.agg #[uu0]) ∧ SepS S w' [(Ty.sl (Ty.sl (Ty.sl (Ty.i .i64)))).at uu0 x586], fun _ v S w' => v = (Value.agg #[v_aS_Table]), fun _ v S w' => ∃ (uu0 : Value), v = (Value.agg #[uu0]) ∧ SepS S w' [(Ty.sl (Ty.sl (Ty.sl (Ty.i .i64)))).at uu0 x609], fun _ v _ _ => v = v_aX, fun _ v S w' => SepS S w' [(Ty.sl (Ty.i .i64)).at v x632], fun _ v _ _ => v = v_aY, fun _ v S w' => SepS S w' [(Ty.sl (Ty.i .i64)).at v x655], fun _ v S w' => ∃ (uu0 : Value), v = (Value.tuple #[uu0, (Value.int .i64 x685.2)]) ∧ InR .i64 x685.2 ∧ SepS S w' [(Ty.sl (Ty.i .i64)).at uu0 x685.1], fun f v _ _ => v = f 141, fun f v _ _ => tupGet (f 132) 0 = some v, fun _ v _ _ => v = (Value.int .i64 x685.2) ∧ InR .i64 x685.2, fun f v _ _ => v = f 142] (by kernel_rfl) (by kernel_rfl) ⟨⟨fun _ _ _ _ _ _ h => h, fun _ _ _ _ _ _ h => h⟩, ⟨fun _ _ _ _ _ he ⟨uu0, h0, r0⟩ => ⟨uu0, h0, SepS.extend he r0⟩, fun _ _ _ _ _ _ h => h⟩, ⟨fun _ _ _ _ _ _ h => h, fun _ _ _ _ _ _ h => h⟩, ⟨fun _ _ _ _ _ he ⟨uu0, h0, r0⟩ => ⟨uu0, h0, SepS.extend he r0⟩, fun _ _ _ _ _ _ h => h⟩, ⟨fun _ _ _ _ _ _ h => h, fun _ _ _ _ _ _ h => h⟩, ⟨fun _ _ _ _ _ he h => SepS.extend he h, fun _ _ _ _ _ _ h => h⟩, ⟨fun _ _ _ _ _ _ h => h, fun _ _ _ _ _ _ h => h⟩, ⟨fun _ _ _ _ _ he h => SepS.extend he h, fun _ _ _ _ _ _ h => h⟩, ⟨fun _ _ _ _ _ he ⟨uu0, h0, h1, r0⟩ => ⟨uu0, h0, h1, SepS.extend he r0⟩, fun _ _ _ _ _ _ h => h⟩, ⟨fun _ _ _ _ _ _ h => h, fun _ _ _ _ _ hf h => h.trans (hf 8 141 rfl rfl)⟩, ⟨fun _ _ _ _ _ _ h => h, fun _ _ _ _ _ hf h => (congrArg (fun x => tupGet x 0) (hf 9 132 rfl rfl)).symm.trans h⟩, ⟨fun _ _ _ _ _ _ h => h, fun _ _ _ _ _ _ h => h⟩, ⟨fun _ _ _ _ _ _ h => h, fun _ _ _ _ _ hf h => h.trans (hf 10 142 rfl rfl)⟩, trivial⟩ ⟨?_, ?_, ?_, ?_, ?_, ?_, ?_, ?_, ?_, ?_, ?_, ?_, ?_, trivial⟩ ?_
                                      · refine ObX.op rfl ?_
                                        intro f569 wd570 he571 hout572 hphi573
                                        have hS574 : St wd230 wd570 [(Ty.sl (Ty.i .i64)).at u298 x551.2] := St.extend hS564 he571
                                        have e575 : f569 4 = (Value.pointer (some ⟨b1, 0, none⟩)) := (hout572 4 rfl).trans hf542
                                        exact OpX.val (Value.agg #[v_aR_Table]) wd570 rfl (op_loadBox st_24 e575 (BoxAt.lift (Ext.trans hE253 hS574.ext) hx6) rfl rfl) (Ext.refl _) rfl
                                      · refine ObX.op rfl ?_
                                        intro f576 wd577 he578 hout579 hphi580
                                        have hS581 : St wd230 wd577 [(Ty.sl (Ty.i .i64)).at u298 x551.2] := St.extend hS564 he578
                                        obtain ⟨S582, hS583, hf584⟩ := hphi580 0 133 _ rfl rfl rfl
                                        have e585 : f576 133 = (Value.agg #[v_aR_Table]) := hf584
                                        refine OpX.call rfl (op_call fn_11 (args1 e585)) (Ret.mono (c_laws_toRing (Ty.lift _ (Ext.trans hE252 hS581.ext) r_aR_Table) hx587) ?_)
                                        rintro _ wd589 ⟨u588, rfl, he590, hs591⟩
                                        exact ⟨he590, _, newS _ _, ⟨u588, rfl, (Sep.new hs591)⟩⟩
                                      · refine ObX.op rfl ?_
                                        intro f592 wd593 he594 hout595 hphi596
                                        have hS597 : St wd230 wd593 [(Ty.sl (Ty.i .i64)).at u298 x551.2] := St.extend hS564 he594
                                        have e598 : f592 5 = (Value.pointer (some ⟨b9, 0, none⟩)) := (hout595 5 rfl).trans hf543
                                        exact OpX.val (Value.agg #[v_aS_Table]) wd593 rfl (op_loadBox st_24 e598 (BoxAt.lift (Ext.trans hE254 hS597.ext) hx14) rfl rfl) (Ext.refl _) rfl
                                      · refine ObX.op rfl ?_
                                        intro f599 wd600 he601 hout602 hphi603
                                        have hS604 : St wd230 wd600 [(Ty.sl (Ty.i .i64)).at u298 x551.2] := St.extend hS564 he601
                                        obtain ⟨S605, hS606, hf607⟩ := hphi603 2 135 _ rfl rfl rfl
                                        have e608 : f599 135 = (Value.agg #[v_aS_Table]) := hf607
                                        refine OpX.call rfl (op_call fn_11 (args1 e608)) (Ret.mono (c_laws_toRing (Ty.lift _ (Ext.trans hE252 hS604.ext) r_aS_Table) hx610) ?_)
                                        rintro _ wd612 ⟨u611, rfl, he613, hs614⟩
                                        exact ⟨he613, _, newS _ _, ⟨u611, rfl, (Sep.new hs614)⟩⟩
                                      · refine ObX.op rfl ?_
                                        intro f615 wd616 he617 hout618 hphi619
                                        have hS620 : St wd230 wd616 [(Ty.sl (Ty.i .i64)).at u298 x551.2] := St.extend hS564 he617
                                        have e621 : f615 2 = v_aX := (hout618 2 rfl).trans hf540
                                        exact OpX.val v_aX wd616 rfl (op_move e621) (Ext.refl _) rfl
                                      · refine ObX.op rfl ?_
                                        intro f622 wd623 he624 hout625 hphi626
                                        have hS627 : St wd230 wd623 [(Ty.sl (Ty.i .i64)).at u298 x551.2] := St.extend hS564 he624
                                        obtain ⟨S628, hS629, hf630⟩ := hphi626 4 137 _ rfl rfl rfl
                                        have e631 : f622 137 = v_aX := hf630
                                        refine OpX.call rfl (op_call fn_12 (args1 e631)) (Ret.mono (c_laws_toInt64S (Ty.lift _ (Ext.trans hE252 hS627.ext) r_aX) hx633) ?_)
                                        rintro u634 wd635 ⟨_, rfl, he636, hs637⟩
                                        exact ⟨he636, _, newS _ _, (Sep.new hs637)⟩
                                      · refine ObX.op rfl ?_
                                        intro f638 wd639 he640 hout641 hphi642
                                        have hS643 : St wd230 wd639 [(Ty.sl (Ty.i .i64)).at u298 x551.2] := St.extend hS564 he640
                                        have e644 : f638 3 = v_aY := (hout641 3 rfl).trans hf541
                                        exact OpX.val v_aY wd639 rfl (op_move e644) (Ext.refl _) rfl
                                      · refine ObX.op rfl ?_
                                        intro f645 wd646 he647 hout648 hphi649
                                        have hS650 : St wd230 wd646 [(Ty.sl (Ty.i .i64)).at u298 x551.2] := St.extend hS564 he647
                                        obtain ⟨S651, hS652, hf653⟩ := hphi649 6 139 _ rfl rfl rfl
                                        have e654 : f645 139 = v_aY := hf653
                                        refine OpX.call rfl (op_call fn_12 (args1 e654)) (Ret.mono (c_laws_toInt64S (Ty.lift _ (Ext.trans hE252 hS650.ext) r_aY) hx656) ?_)
                                        rintro u657 wd658 ⟨_, rfl, he659, hs660⟩
                                        exact ⟨he659, _, newS _ _, (Sep.new hs660)⟩
                                      · refine ObX.op rfl ?_
                                        intro f661 wd662 he663 hout664 hphi665
                                        have hS666 : St wd230 wd662 [(Ty.sl (Ty.i .i64)).at u298 x551.2] := St.extend hS564 he663
                                        obtain ⟨S667, hS668, hf669⟩ := hphi665 1 134 _ rfl rfl rfl
                                        obtain ⟨u671, e670, e670s⟩ := hf669
                                        obtain ⟨S672, hS673, hf674⟩ := hphi665 3 136 _ rfl rfl rfl
                                        obtain ⟨u676, e675, e675s⟩ := hf674
                                        obtain ⟨S677, hS678, hf679⟩ := hphi665 5 138 _ rfl rfl rfl
                                        have e680 : SepS S677 wd662 [(Ty.sl (Ty.i .i64)).at (f661 138) x632] := hf679
                                        obtain ⟨S681, hS682, hf683⟩ := hphi665 7 140 _ rfl rfl rfl
                                        have e684 : SepS S681 wd662 [(Ty.sl (Ty.i .i64)).at (f661 140) x655] := hf683
                                        refine OpX.call rfl (op_call fn_13 (args4 e670 e675 rfl rfl)) (Ret.mono (c_impl_ProductCharacter (SepS.rep (t := (Ty.sl (Ty.sl (Ty.sl (Ty.i .i64))))) e670s 0 rfl) (SepS.rep (t := (Ty.sl (Ty.sl (Ty.sl (Ty.i .i64))))) e675s 0 rfl) (SepS.rep (t := (Ty.sl (Ty.i .i64))) e680 0 rfl) (SepS.rep (t := (Ty.sl (Ty.i .i64))) e684 0 rfl) hx686) ?_)
                                        rintro _ wd689 ⟨u687, rfl, hr688, he690, hs691⟩
                                        exact ⟨he690, _, newS _ _, ⟨u687, rfl, hr688, (Sep.new hs691)⟩⟩
                                      · refine ObX.op rfl ?_
                                        intro f692 wd693 he694 hout695 hphi696
                                        have hS697 : St wd230 wd693 [(Ty.sl (Ty.i .i64)).at u298 x551.2] := St.extend hS564 he694
                                        obtain ⟨S698, hS699, hf700⟩ := hphi696 8 141 _ rfl rfl rfl
                                        obtain ⟨u702, e701, hr703, e701s⟩ := hf700
                                        exact OpX.val (f692 141) wd693 rfl (op_move rfl) (Ext.refl _) rfl
                                      · refine ObX.op rfl ?_
                                        intro f704 wd705 he706 hout707 hphi708
                                        have hS709 : St wd230 wd705 [(Ty.sl (Ty.i .i64)).at u298 x551.2] := St.extend hS564 he706
                                        obtain ⟨S713, hS714, hf715⟩ := hphi708 8 141 _ rfl rfl rfl
                                        obtain ⟨u717, e716, hr718, e716s⟩ := hf715
                                        obtain ⟨S710, hS711, hf712⟩ := hphi708 9 132 _ rfl rfl rfl
                                        have e719 : f704 132 = (Value.tuple #[u717, (Value.int .i64 x685.2)]) := Eq.trans hf712 e716
                                        exact OpX.val u717 wd705 rfl (op_extract e719 rfl) (Ext.refl _) (congrArg (fun x => tupGet x 0) e719)
                                      · refine ObX.op rfl ?_
                                        intro f720 wd721 he722 hout723 hphi724
                                        have hS725 : St wd230 wd721 [(Ty.sl (Ty.i .i64)).at u298 x551.2] := St.extend hS564 he722
                                        obtain ⟨S729, hS730, hf731⟩ := hphi724 8 141 _ rfl rfl rfl
                                        obtain ⟨u733, e732, hr734, e732s⟩ := hf731
                                        obtain ⟨S726, hS727, hf728⟩ := hphi724 9 132 _ rfl rfl rfl
                                        have e735 : f720 132 = (Value.tuple #[u733, (Value.int .i64 x685.2)]) := Eq.trans hf728 e732
                                        exact OpX.val (Value.int .i64 x685.2) wd721 rfl (op_extract e735 rfl) (Ext.refl _) ⟨rfl, hr734⟩
                                      · refine ObX.op rfl ?_
                                        intro f736 wd737 he738 hout739 hphi740
                                        have hS741 : St wd230 wd737 [(Ty.sl (Ty.i .i64)).at u298 x551.2] := St.extend hS564 he738
                                        obtain ⟨S748, hS749, hf750⟩ := hphi740 8 141 _ rfl rfl rfl
                                        obtain ⟨u752, e751, hr753, e751s⟩ := hf750
                                        obtain ⟨S745, hS746, hf747⟩ := hphi740 9 132 _ rfl rfl rfl
                                        have e754 : f736 132 = (Value.tuple #[u752, (Value.int .i64 x685.2)]) := Eq.trans hf747 e751
                                        obtain ⟨S742, hS743, hf744⟩ := hphi740 10 142 _ rfl rfl rfl
                                        have e755 : f736 142 = u752 := Option.some.inj (Eq.trans (Eq.symm hf744) (congrArg (fun x => tupGet x 0) e754))
                                        exact OpX.val (f736 142) wd737 rfl (op_assign rfl) (Ext.refl _) rfl
                                      · intro f756 wd757 Ss758 he759 hout760 hSn761 hSd762 hphi763
                                        show WL _ _ _ _ _ _ _
                                        have hS764 : St wd230 wd757 [(Ty.sl (Ty.i .i64)).at u298 x551.2] := St.extend hS564 he759
                                        obtain ⟨u766, e765, hr767, e765s⟩ := hphi763 8 141 _ (by decide) rfl rfl
                                        have e768 : f756 132 = (Value.tuple #[u766, (Value.int .i64 x685.2)]) := Eq.trans (hphi763 9 132 _ (by decide) rfl rfl) e765
                                        have e769 : f756 142 = u766 := Option.some.inj (Eq.trans (Eq.symm (hphi763 10 142 _ (by decide) rfl rfl)) (congrArg (fun x => tupGet x 0) e768))
                                        obtain ⟨e770, hr771⟩ : f756 143 = (Value.int .i64 x685.2) ∧ InR .i64 x685.2 := hphi763 11 143 _ (by decide) rfl rfl
                                        have e772 : f756 21 = u766 := Eq.trans (hphi763 12 21 _ (by decide) rfl rfl) e769
                                        have e773 : f756 10 = u239 := (hout760 10 rfl).trans hf544
                                        have e774 : f756 11 = (Value.int .i64 x158.2) := (hout760 11 rfl).trans hf545
                                        have e775 : f756 16 = u298 := (hout760 16 rfl).trans hf546
                                        have e776 : f756 19 = (Value.int .i64 x551.1) := (hout760 19 rfl).trans rfl
                                        have hS777 := St.joinS hS564 he759 hSn761 (SepS.consS hSd762 rfl e765s SepS.nilS)
                                        replace hS777 : St wd230 wd757 [(Ty.sl (Ty.i .i64)).at u298 x551.2, (Ty.sl (Ty.i .i64)).at u766 x685.1] := hS777
                                        refine WL.val (Value.int .i64 x685.2) _ (op_assign e770) rfl ?_
                                        refine WL.nil ?_
                                        show W _ _ _ _ _ _
                                        refine W.seq (W.seq (W.region ?_))
                                        refine WL.val u766 _ (op_move e772) rfl ?_
                                        refine WL.val u239 _ (op_move e773) rfl ?_
                                        obtain ⟨x778, hx779, h⟩ := bs h
                                        refine WL.call _ (op_call fn_14 (args2 rfl rfl)) (c_laws_eqInt64S (St.rep (t := (Ty.sl (Ty.i .i64))) hS777 1 rfl) (Ty.lift _ hS777.ext hb251) hx779) rfl ?_
                                        rintro _ wd780 ⟨rfl, he781⟩
                                        have hS783 := St.extend hS777 he781
                                        replace hS783 : St wd230 wd780 [(Ty.sl (Ty.i .i64)).at u298 x551.2, (Ty.sl (Ty.i .i64)).at u766 x685.1] := hS783
                                        refine WL.val (Value.bool (!x778)) _ (op_not rfl) rfl ?_
                                        refine WL.val (Value.bool (!x778)) _ (op_move rfl) rfl ?_
                                        refine WL.cut 4 (fun fq wq => fq 16 = u298 ∧ fq 19 = (Value.int .i64 x551.1) ∧ fq 152 = (Value.bool ((!x778) || (x685.2 != x158.2))) ∧ St wd230 wq [(Ty.sl (Ty.i .i64)).at u298 x551.2]) ?_ ?_
                                        · rcases Bool.eq_false_or_eq_true (!x778) with hc784 | hc784
                                          · refine WL.gskip rfl (bool_of rfl hc784) rfl ?_
                                            refine WL.gskip rfl (bool_of rfl hc784) rfl ?_
                                            refine WL.gskip rfl (bool_of rfl hc784) rfl ?_
                                            refine WL.val (Value.bool true) _ (op_pick_t (evb_of rfl hc784) rfl) rfl ?_
                                            refine WL.nil ?_
                                            exact ⟨rfl, e775, e776, (orT hc784), (St.pick hS783 [0] rfl)⟩
                                          · refine WL.grun rfl (bool_of rfl hc784) ?_
                                            refine WL.val (Value.int .i64 x685.2) _ (op_move rfl) rfl ?_
                                            refine WL.grun rfl (bool_of rfl hc784) ?_
                                            refine WL.val (Value.int .i64 x158.2) _ (op_move e774) rfl ?_
                                            refine WL.grun rfl (bool_of rfl hc784) ?_
                                            refine WL.val (Value.bool (x685.2 != x158.2)) _ (op_neq rfl rfl) rfl ?_
                                            refine WL.val (Value.bool (x685.2 != x158.2)) _ (op_pick_f (evb_of rfl hc784) rfl) rfl ?_
                                            refine WL.nil ?_
                                            exact ⟨rfl, e775, e776, (orF hc784), (St.pick hS783 [0] rfl)⟩
                                        · intro f785 wd786 hq787
                                          obtain ⟨hf788, hf789, hf790, hS791⟩ := hq787
                                          refine WL.nil ?_
                                          show W _ _ _ _ _ _
                                          refine W.cond ((!x778) || (x685.2 != x158.2)) hf790 (fun hc792 => ?_) (fun hc792 => ?_)
                                          · replace h := ip h hc792
                                            refine W.seq (W.region ?_)
                                            refine WL.val (Value.bool false) _ (op_assign rfl) rfl ?_
                                            refine WL.nil ?_
                                            show W _ _ _ _ _ _
                                            refine W.ret ?_
                                            obtain rfl := Option.some.inj h
                                            show FinP _ _ _ _ _ _ _
                                            exact FinP.ret _ (res1 rfl rfl) ⟨rfl, (Ext.trans hE252 hS791.ext)⟩
                                          · replace h := inegb h hc792
                                            refine W.skip ?_
                                            show W _ _ _ _ _ _
                                            refine W.seq (W.region ?_)
                                            refine WL.val (Value.int .i64 (1 : Int)) _ (op_assign rfl) rfl ?_
                                            refine WL.nil ?_
                                            show W _ _ _ _ _ _
                                            refine W.seq (W.region ?_)
                                            refine WL.val u298 _ (op_move hf788) rfl ?_
                                            refine WL.val (Value.int .i64 (1 : Int)) _ (op_move rfl) rfl ?_
                                            obtain ⟨x794, hx795, h⟩ := bs h
                                            refine WL.call _ (op_call fn_18 (args2 rfl rfl)) (c_laws_heldInt64S (St.rep (t := (Ty.sl (Ty.i .i64))) hS791 0 rfl) (inR_i64.2 (show (-9223372036854775808 : Int) ≤ 1 ∧ (1 : Int) ≤ 9223372036854775807 from by decide)) hx795) rfl ?_
                                            rintro _ wd797 ⟨rfl, hr796, he798⟩
                                            have hS800 := St.extend hS791 he798
                                            replace hS800 : St wd230 wd797 [(Ty.sl (Ty.i .i64)).at u298 x551.2] := hS800
                                            refine WL.val (Value.int .i64 x794) _ (op_assign rfl) rfl ?_
                                            refine WL.nil ?_
                                            show W _ _ _ _ _ _
                                            refine W.seq (W.seq (W.region ?_))
                                            refine WL.val (Value.int .i64 x794) _ (op_move rfl) rfl ?_
                                            refine WL.val (Value.bool (decide (x794 < (0 : Int)))) _ (op_lss rfl rfl) rfl ?_
                                            refine WL.nil ?_
                                            show W _ _ _ _ _ _
                                            refine W.cond (decide (x794 < (0 : Int))) rfl (fun hc801 => ?_) (fun hc801 => ?_)
                                            · replace h := ip h hc801
                                              refine W.seq (W.region ?_)
                                              refine WL.val (Value.bool false) _ (op_assign rfl) rfl ?_
                                              refine WL.nil ?_
                                              show W _ _ _ _ _ _
                                              refine W.ret ?_
                                              obtain rfl := Option.some.inj h
                                              show FinP _ _ _ _ _ _ _
                                              exact FinP.ret _ (res1 rfl rfl) ⟨rfl, (Ext.trans hE252 hS800.ext)⟩
                                            · replace h := inegb h hc801
                                              refine W.skip ?_
                                              show W _ _ _ _ _ _
                                              refine W.seq (W.seq (W.region ?_))
                                              refine WL.val (Value.int .i64 x794) _ (op_move rfl) rfl ?_
                                              refine WL.val (Value.int .i64 x551.1) _ (op_move hf789) rfl ?_
                                              refine WL.val (Value.bool (x794 != x551.1)) _ (op_neq rfl rfl) rfl ?_
                                              refine WL.nil ?_
                                              show W _ _ _ _ _ _
                                              refine W.cond (x794 != x551.1) rfl (fun hc803 => ?_) (fun hc803 => ?_)
                                              · replace h := ip h hc803
                                                refine W.seq (W.region ?_)
                                                refine WL.val (Value.bool false) _ (op_assign rfl) rfl ?_
                                                refine WL.nil ?_
                                                show W _ _ _ _ _ _
                                                refine W.ret ?_
                                                obtain rfl := Option.some.inj h
                                                show FinP _ _ _ _ _ _ _
                                                exact FinP.ret _ (res1 rfl rfl) ⟨rfl, (Ext.trans hE252 hS800.ext)⟩
                                              · replace h := inegb h hc803
                                                refine W.skip ?_
                                                show W _ _ _ _ _ _
                                                refine W.seq (W.region ?_)
                                                refine WL.val (Value.bool true) _ (op_assign rfl) rfl ?_
                                                refine WL.nil ?_
                                                show W _ _ _ _ _ _
                                                refine W.ret ?_
                                                obtain rfl := Option.some.inj h
                                                show FinP _ _ _ _ _ _ _
                                                exact FinP.ret _ (res1 rfl rfl) ⟨rfl, (Ext.trans hE252 hS800.ext)⟩

end Go.VG
