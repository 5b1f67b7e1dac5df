/- The walks, part 3: each Go function returns what its plain twin returns. No condition beyond what each names. -/
import Derived.Test.YtclffgakhkhglaaGWalk2
set_option linter.all false
namespace Go.VG
open Go.Proofs
attribute [local irreducible] W WL Sep FinP

theorem c_laws_eqInt64S {w : World} {a : (List Int)} {v_a : Value} {b : (List Int)} {v_b : Value} (r_a : (Ty.sl (Ty.i .i64)).rep w v_a a) (r_b : (Ty.sl (Ty.i .i64)).rep w v_b b) {res : Bool} (h : p_laws_eqInt64S a b  = some res) :
    Ret Try.prog 15 #[v_a, v_b] w (fun v w' => v = Value.bool res ∧ Ext w w') := by
  unfold p_laws_eqInt64S at h
  have hS0 : St w w [] := St.start w
  refine Ret.start (fn := Try.f15) Try.func15 rfl 26 rfl rfl ?_
  refine W.seq ?_
  refine W.region ?_
  refine WL.val (Value.bool false) _ (op_assign rfl) rfl ?_
  refine WL.nil ?_
  show W _ _ _ _ _ _
  refine W.seq ?_
  refine W.seq ?_
  refine W.region ?_
  refine WL.val v_a _ (op_move rfl) rfl ?_
  have hr1 := inR_len (Ty.lift _ hS0.ext r_a)
  refine WL.val (Value.int .i64 ((a).length : Int)) _ (op_lenL sl_25 (Ty.lift _ hS0.ext r_a) rfl) rfl ?_
  refine WL.val v_b _ (op_move rfl) rfl ?_
  have hr2 := inR_len (Ty.lift _ hS0.ext r_b)
  refine WL.val (Value.int .i64 ((b).length : Int)) _ (op_lenL sl_25 (Ty.lift _ hS0.ext r_b) rfl) rfl ?_
  refine WL.val (Value.bool (((a).length : Int) != ((b).length : Int))) _ (op_neq rfl rfl) rfl ?_
  refine WL.nil ?_
  show W _ _ _ _ _ _
  refine W.cond (((a).length : Int) != ((b).length : Int)) rfl (fun hc3 => ?_) (fun hc3 => ?_)
  · replace h := ip h hc3
    refine W.seq ?_
    refine W.region ?_
    refine WL.val (Value.bool false) _ (op_assign rfl) rfl ?_
    refine WL.nil ?_
    show W _ _ _ _ _ _
    refine W.ret ?_
    obtain rfl := Option.some.inj h
    show FinP _ _ _ _ _ _ _
    exact FinP.ret _ (res1 rfl rfl) ⟨rfl, hS0.ext⟩
  · replace h := inegb h hc3
    refine W.skip ?_
    show W _ _ _ _ _ _
    refine W.seq ?_
    refine W.seq ?_
    refine W.region ?_
    refine WL.val (Value.int .i64 (0 : Int)) _ (op_assign rfl) rfl ?_
    refine WL.nil ?_
    show W _ _ _ _ _ _
    obtain ⟨res5, hres6, h⟩ := bs h
    refine W.blockLoop (fun fq wq => ∃ s, res5 = Res.fin s ∧ St w wq []) ?_ ?_
    · refine W.forN (fun k (s : Unit) fq wq => fq 0 = v_a ∧ fq 1 = v_b ∧ fq 5 = Value.int .i64 (k : Int) ∧ InR .i64 (k : Int) ∧ St w wq []) hres6 ⟨rfl, rfl, rfl, (inR_i64.2 (show (-9223372036854775808 : Int) ≤ 0 ∧ (0 : Int) ≤ 9223372036854775807 from by decide)), hS0⟩ ?_ ?_
      · intro k7 s134 ct8 f9 wd10 hk11 hb12 hI13 hbrk14 hret15
        obtain ⟨⟩ := s134
        replace hI13 : f9 0 = v_a ∧ f9 1 = v_b ∧ f9 5 = Value.int .i64 (k7 : Int) ∧ InR .i64 (k7 : Int) ∧ St w wd10 [] := hI13
        replace hb12 : p_laws_eqInt64S_L1 a b k7  = some ct8 := hb12
        unfold p_laws_eqInt64S_L1 at hb12
        obtain ⟨hf16, hf17, hf18, hr19, hS20⟩ := hI13
        refine W.seq ?_
        refine W.seq ?_
        refine W.region ?_
        refine WL.val (Value.int .i64 (k7 : Int)) _ (op_move hf18) rfl ?_
        refine WL.val v_a _ (op_move hf16) rfl ?_
        have hr21 := inR_len (Ty.lift _ hS20.ext r_a)
        refine WL.val (Value.int .i64 ((a).length : Int)) _ (op_lenL sl_25 (Ty.lift _ hS20.ext r_a) rfl) rfl ?_
        refine WL.val (Value.bool (decide ((k7 : Int) < ((a).length : Int)))) _ (op_lss rfl rfl) rfl ?_
        have hl22 : (k7 : Int) < ((a).length : Int) := by omega
        refine WL.nil ?_
        show W _ _ _ _ _ _
        refine W.condT (decide ((k7 : Int) < ((a).length : Int))) rfl (decide_eq_true hl22) ?_
        refine W.skip ?_
        show W _ _ _ _ _ _
        refine W.seq ?_
        refine W.block ?_
        refine W.seq ?_
        obtain ⟨x53, hx56, hb12⟩ := bs hb12
        obtain ⟨ha54, hb55, hx56⟩ := idx_some hx56
        obtain ⟨u67, hc68, hr69⟩ := repSl.el r_a hx56
        obtain ⟨rfl, hr69⟩ := hr69
        obtain ⟨x99, hx102, hb12⟩ := bs hb12
        obtain ⟨ha100, hb101, hx102⟩ := idx_some hx102
        obtain ⟨u113, hc114, hr115⟩ := repSl.el r_b hx102
        obtain ⟨rfl, hr115⟩ := hr115
        refine W.drawR mixo 8 [] [fun _ v _ _ => v = v_a, fun _ v _ _ => v = (Value.int .i64 (k7 : Int)) ∧ InR .i64 (k7 : Int), fun _ v _ _ => v = (Value.pointer (some (elA v_a ((k7 : Int)).toNat))), fun _ v _ _ => v = (Value.int .i64 x53) ∧ InR .i64 x53, fun _ v _ _ => v = v_b, fun _ v _ _ => v = (Value.int .i64 (k7 : Int)) ∧ InR .i64 (k7 : Int), fun _ v _ _ => v = (Value.pointer (some (elA v_b ((k7 : Int)).toNat))), fun _ v _ _ => v = (Value.int .i64 x99) ∧ InR .i64 x99] (by kernel_rfl) (by kernel_rfl) ⟨⟨fun _ _ _ _ _ _ h => h, fun _ _ _ _ _ _ h => h⟩, ⟨fun _ _ _ _ _ _ h => h, fun _ _ _ _ _ _ h => h⟩, ⟨fun _ _ _ _ _ _ h => h, fun _ _ _ _ _ _ h => h⟩, ⟨fun _ _ _ _ _ _ h => h, fun _ _ _ _ _ _ h => h⟩, ⟨fun _ _ _ _ _ _ h => h, fun _ _ _ _ _ _ h => h⟩, ⟨fun _ _ _ _ _ _ h => h, fun _ _ _ _ _ _ h => h⟩, ⟨fun _ _ _ _ _ _ h => h, fun _ _ _ _ _ _ h => h⟩, ⟨fun _ _ _ _ _ _ h => h, fun _ _ _ _ _ _ h => h⟩, trivial⟩ ⟨?_, ?_, ?_, ?_, ?_, ?_, ?_, ?_, trivial⟩ ?_
        · refine ObX.op rfl ?_
          intro f24 wd25 he26 hout27 hphi28
          have hS29 : St w wd25 [] := St.extend hS20 he26
          have e30 : f24 0 = v_a := (hout27 0 rfl).trans hf16
          exact OpX.val v_a wd25 rfl (op_move e30) (Ext.refl _) rfl
        · refine ObX.op rfl ?_
          intro f31 wd32 he33 hout34 hphi35
          have hS36 : St w wd32 [] := St.extend hS20 he33
          have e37 : f31 5 = (Value.int .i64 (k7 : Int)) := (hout34 5 rfl).trans hf18
          exact OpX.val (Value.int .i64 (k7 : Int)) wd32 rfl (op_move e37) (Ext.refl _) ⟨rfl, hr19⟩
        · refine ObX.op rfl ?_
          intro f38 wd39 he40 hout41 hphi42
          have hS43 : St w wd39 [] := St.extend hS20 he40
          obtain ⟨S44, hS45, hf46⟩ := hphi42 0 17 _ rfl rfl rfl
          have e47 : f38 17 = v_a := hf46
          obtain ⟨S48, hS49, hf50⟩ := hphi42 1 18 _ rfl rfl rfl
          obtain ⟨e51, hr52⟩ : f38 18 = (Value.int .i64 (k7 : Int)) ∧ InR .i64 (k7 : Int) := hf50
          exact OpX.val (Value.pointer (some (elA v_a ((k7 : Int)).toNat))) wd39 rfl (op_idx sl_25 (Ty.lift _ hS43.ext r_a) e47 e51 ha54 hb55) (Ext.refl _) rfl
        · refine ObX.op rfl ?_
          intro f57 wd58 he59 hout60 hphi61
          have hS62 : St w wd58 [] := St.extend hS20 he59
          obtain ⟨S63, hS64, hf65⟩ := hphi61 2 19 _ rfl rfl rfl
          have e66 : f57 19 = (Value.pointer (some (elA v_a ((k7 : Int)).toNat))) := hf65
          exact OpX.val (Value.int .i64 x53) wd58 rfl (op_load one_2 e66 (Ext.cell hS62.ext hc68)) (Ext.refl _) ⟨rfl, hr69⟩
        · refine ObX.op rfl ?_
          intro f70 wd71 he72 hout73 hphi74
          have hS75 : St w wd71 [] := St.extend hS20 he72
          have e76 : f70 1 = v_b := (hout73 1 rfl).trans hf17
          exact OpX.val v_b wd71 rfl (op_move e76) (Ext.refl _) rfl
        · refine ObX.op rfl ?_
          intro f77 wd78 he79 hout80 hphi81
          have hS82 : St w wd78 [] := St.extend hS20 he79
          have e83 : f77 5 = (Value.int .i64 (k7 : Int)) := (hout80 5 rfl).trans hf18
          exact OpX.val (Value.int .i64 (k7 : Int)) wd78 rfl (op_move e83) (Ext.refl _) ⟨rfl, hr19⟩
        · refine ObX.op rfl ?_
          intro f84 wd85 he86 hout87 hphi88
          have hS89 : St w wd85 [] := St.extend hS20 he86
          obtain ⟨S90, hS91, hf92⟩ := hphi88 4 21 _ rfl rfl rfl
          have e93 : f84 21 = v_b := hf92
          obtain ⟨S94, hS95, hf96⟩ := hphi88 5 22 _ rfl rfl rfl
          obtain ⟨e97, hr98⟩ : f84 22 = (Value.int .i64 (k7 : Int)) ∧ InR .i64 (k7 : Int) := hf96
          exact OpX.val (Value.pointer (some (elA v_b ((k7 : Int)).toNat))) wd85 rfl (op_idx sl_25 (Ty.lift _ hS89.ext r_b) e93 e97 ha100 hb101) (Ext.refl _) rfl
        · refine ObX.op rfl ?_
          intro f103 wd104 he105 hout106 hphi107
          have hS108 : St w wd104 [] := St.extend hS20 he105
          obtain ⟨S109, hS110, hf111⟩ := hphi107 6 23 _ rfl rfl rfl
          have e112 : f103 23 = (Value.pointer (some (elA v_b ((k7 : Int)).toNat))) := hf111
          exact OpX.val (Value.int .i64 x99) wd104 rfl (op_load one_2 e112 (Ext.cell hS108.ext hc114)) (Ext.refl _) ⟨rfl, hr115⟩
        · intro f116 wd117 Ss118 he119 hout120 hSn121 hSd122 hphi123
          show WL _ _ _ _ _ _ _
          have hS124 : St w wd117 [] := St.extend hS20 he119
          obtain ⟨e125, hr126⟩ : f116 20 = (Value.int .i64 x53) ∧ InR .i64 x53 := hphi123 3 20 _ (by decide) rfl rfl
          obtain ⟨e127, hr128⟩ : f116 24 = (Value.int .i64 x99) ∧ InR .i64 x99 := hphi123 7 24 _ (by decide) rfl rfl
          have e129 : f116 0 = v_a := (hout120 0 rfl).trans hf16
          have e130 : f116 1 = v_b := (hout120 1 rfl).trans hf17
          have e131 : f116 5 = (Value.int .i64 (k7 : Int)) := (hout120 5 rfl).trans hf18
          refine WL.val (Value.bool (x53 != x99)) _ (op_neq e125 e127) rfl ?_
          refine WL.nil ?_
          show W _ _ _ _ _ _
          refine W.cond (x53 != x99) rfl (fun hc132 => ?_) (fun hc132 => ?_)
          · replace hb12 := ip hb12 hc132
            refine W.seq ?_
            refine W.region ?_
            refine WL.val (Value.bool false) _ (op_assign rfl) rfl ?_
            refine WL.nil ?_
            show W _ _ _ _ _ _
            refine W.ret ?_
            obtain rfl := Option.some.inj hb12
            obtain rfl := hret15 _ rfl
            replace h := onRes_ret h
            obtain rfl := Option.some.inj h
            show FinP _ _ _ _ _ _ _
            exact FinP.ret _ (res1 rfl rfl) ⟨rfl, hS124.ext⟩
          · replace hb12 := inegb hb12 hc132
            refine W.skip ?_
            show W _ _ _ _ _ _
            refine W.region ?_
            refine WL.val (Value.int .i64 (k7 : Int)) _ (op_move e131) rfl ?_
            refine WL.val (Value.int .i64 (w64 ((k7 : Int) + (1 : Int)))) _ (op_add rfl rfl) rfl ?_
            refine WL.val (Value.int .i64 (w64 ((k7 : Int) + (1 : Int)))) _ (op_assign rfl) rfl ?_
            refine WL.nil ?_
            obtain rfl := Option.some.inj hb12
            show ∃ s, _ = Ctl.next s ∧ _
            exact ⟨_, rfl, e129, e130, (ctr_next hl22 hr21), (ctr_rng hl22 hr21), hS124⟩
      · intro s139 f135 wd136 hs137 hI138
        obtain ⟨⟩ := s139
        replace hI138 : f135 0 = v_a ∧ f135 1 = v_b ∧ f135 5 = Value.int .i64 (((a).length : Nat) : Int) ∧ InR .i64 (((a).length : Nat) : Int) ∧ St w wd136 [] := hI138
        obtain ⟨hf140, hf141, hf142, hr143, hS144⟩ := hI138
        refine W.seq ?_
        refine W.seq ?_
        refine W.region ?_
        refine WL.val (Value.int .i64 (((a).length : Nat) : Int)) _ (op_move hf142) rfl ?_
        refine WL.val v_a _ (op_move hf140) rfl ?_
        have hr145 := inR_len (Ty.lift _ hS144.ext r_a)
        refine WL.val (Value.int .i64 ((a).length : Int)) _ (op_lenL sl_25 (Ty.lift _ hS144.ext r_a) rfl) rfl ?_
        refine WL.val (Value.bool (decide ((((a).length : Nat) : Int) < ((a).length : Int)))) _ (op_lss rfl rfl) rfl ?_
        have hl146 : ¬ (((a).length : Nat) : Int) < ((a).length : Int) := by omega
        refine WL.nil ?_
        show W _ _ _ _ _ _
        refine W.condF (decide ((((a).length : Nat) : Int) < ((a).length : Int))) rfl (decide_eq_false hl146) ?_
        refine W.exit ?_
        show _ = _ ∧ _
        exact ⟨rfl, _, hs137, hS144⟩
    · rintro f147 wd148 ⟨s150, rfl, hq149⟩
      replace h := onRes_fin h
      obtain ⟨⟩ := s150
      replace hq149 : St w wd148 [] := hq149
      have hS151 := hq149
      show W _ _ _ _ _ _
      refine W.seq ?_
      refine W.region ?_
      refine WL.val (Value.bool true) _ (op_assign rfl) rfl ?_
      refine WL.nil ?_
      show W _ _ _ _ _ _
      refine W.ret ?_
      obtain rfl := Option.some.inj h
      show FinP _ _ _ _ _ _ _
      exact FinP.ret _ (res1 rfl rfl) ⟨rfl, hS151.ext⟩

theorem c_laws_eqInt64SS {w : World} {a : (List (List Int))} {v_a : Value} {b : (List (List Int))} {v_b : Value} (r_a : (Ty.sl (Ty.sl (Ty.i .i64))).rep w v_a a) (r_b : (Ty.sl (Ty.sl (Ty.i .i64))).rep w v_b b) {res : Bool} (h : p_laws_eqInt64SS a b  = some res) :
    Ret Try.prog 74 #[v_a, v_b] w (fun v w' => v = Value.bool res ∧ Ext w w') := by
  unfold p_laws_eqInt64SS at h
  have hS0 : St w w [] := St.start w
  refine Ret.start (fn := Try.f74) Try.func74 rfl 27 rfl rfl ?_
  refine W.seq ?_
  refine W.region ?_
  refine WL.val (Value.bool false) _ (op_assign rfl) rfl ?_
  refine WL.nil ?_
  show W _ _ _ _ _ _
  refine W.seq ?_
  refine W.seq ?_
  refine W.region ?_
  refine WL.val v_a _ (op_move rfl) rfl ?_
  have hr1 := inR_len (Ty.lift _ hS0.ext r_a)
  refine WL.val (Value.int .i64 ((a).length : Int)) _ (op_lenL sl_65 (Ty.lift _ hS0.ext r_a) rfl) rfl ?_
  refine WL.val v_b _ (op_move rfl) rfl ?_
  have hr2 := inR_len (Ty.lift _ hS0.ext r_b)
  refine WL.val (Value.int .i64 ((b).length : Int)) _ (op_lenL sl_65 (Ty.lift _ hS0.ext r_b) rfl) rfl ?_
  refine WL.val (Value.bool (((a).length : Int) != ((b).length : Int))) _ (op_neq rfl rfl) rfl ?_
  refine WL.nil ?_
  show W _ _ _ _ _ _
  refine W.cond (((a).length : Int) != ((b).length : Int)) rfl (fun hc3 => ?_) (fun hc3 => ?_)
  · replace h := ip h hc3
    refine W.seq ?_
    refine W.region ?_
    refine WL.val (Value.bool false) _ (op_assign rfl) rfl ?_
    refine WL.nil ?_
    show W _ _ _ _ _ _
    refine W.ret ?_
    obtain rfl := Option.some.inj h
    show FinP _ _ _ _ _ _ _
    exact FinP.ret _ (res1 rfl rfl) ⟨rfl, hS0.ext⟩
  · replace h := inegb h hc3
    refine W.skip ?_
    show W _ _ _ _ _ _
    refine W.seq ?_
    refine W.seq ?_
    refine W.region ?_
    refine WL.val (Value.int .i64 (0 : Int)) _ (op_assign rfl) rfl ?_
    refine WL.nil ?_
    show W _ _ _ _ _ _
    obtain ⟨res5, hres6, h⟩ := bs h
    refine W.blockLoop (fun fq wq => ∃ s, res5 = Res.fin s ∧ St w wq []) ?_ ?_
    · refine W.forN (fun k (s : Unit) fq wq => fq 0 = v_a ∧ fq 1 = v_b ∧ fq 5 = Value.int .i64 (k : Int) ∧ InR .i64 (k : Int) ∧ St w wq []) hres6 ⟨rfl, rfl, rfl, (inR_i64.2 (show (-9223372036854775808 : Int) ≤ 0 ∧ (0 : Int) ≤ 9223372036854775807 from by decide)), hS0⟩ ?_ ?_
      · intro k7 s138 ct8 f9 wd10 hk11 hb12 hI13 hbrk14 hret15
        obtain ⟨⟩ := s138
        replace hI13 : f9 0 = v_a ∧ f9 1 = v_b ∧ f9 5 = Value.int .i64 (k7 : Int) ∧ InR .i64 (k7 : Int) ∧ St w wd10 [] := hI13
        replace hb12 : p_laws_eqInt64SS_L1 a b k7  = some ct8 := hb12
        unfold p_laws_eqInt64SS_L1 at hb12
        obtain ⟨hf16, hf17, hf18, hr19, hS20⟩ := hI13
        refine W.seq ?_
        refine W.seq ?_
        refine W.region ?_
        refine WL.val (Value.int .i64 (k7 : Int)) _ (op_move hf18) rfl ?_
        refine WL.val v_a _ (op_move hf16) rfl ?_
        have hr21 := inR_len (Ty.lift _ hS20.ext r_a)
        refine WL.val (Value.int .i64 ((a).length : Int)) _ (op_lenL sl_65 (Ty.lift _ hS20.ext r_a) rfl) rfl ?_
        refine WL.val (Value.bool (decide ((k7 : Int) < ((a).length : Int)))) _ (op_lss rfl rfl) rfl ?_
        have hl22 : (k7 : Int) < ((a).length : Int) := by omega
        refine WL.nil ?_
        show W _ _ _ _ _ _
        refine W.condT (decide ((k7 : Int) < ((a).length : Int))) rfl (decide_eq_true hl22) ?_
        refine W.skip ?_
        show W _ _ _ _ _ _
        refine W.seq ?_
        refine W.block ?_
        refine W.seq ?_
        obtain ⟨x53, hx56, hb12⟩ := bs hb12
        obtain ⟨ha54, hb55, hx56⟩ := idx_some hx56
        obtain ⟨u67, hc68, hr69⟩ := repSl.el r_a hx56
        obtain ⟨x99, hx102, hb12⟩ := bs hb12
        obtain ⟨ha100, hb101, hx102⟩ := idx_some hx102
        obtain ⟨u113, hc114, hr115⟩ := repSl.el r_b hx102
        refine W.drawR mixo 8 [] [fun _ v _ _ => v = v_a, fun _ v _ _ => v = (Value.int .i64 (k7 : Int)) ∧ InR .i64 (k7 : Int), fun _ v _ _ => v = (Value.pointer (some (elA v_a ((k7 : Int)).toNat))), fun _ v _ _ => v = u67, fun _ v _ _ => v = v_b, fun _ v _ _ => v = (Value.int .i64 (k7 : Int)) ∧ InR .i64 (k7 : Int), fun _ v _ _ => v = (Value.pointer (some (elA v_b ((k7 : Int)).toNat))), fun _ v _ _ => v = u113] (by kernel_rfl) (by kernel_rfl) ⟨⟨fun _ _ _ _ _ _ h => h, fun _ _ _ _ _ _ h => h⟩, ⟨fun _ _ _ _ _ _ h => h, fun _ _ _ _ _ _ h => h⟩, ⟨fun _ _ _ _ _ _ h => h, fun _ _ _ _ _ _ h => h⟩, ⟨fun _ _ _ _ _ _ h => h, fun _ _ _ _ _ _ h => h⟩, ⟨fun _ _ _ _ _ _ h => h, fun _ _ _ _ _ _ h => h⟩, ⟨fun _ _ _ _ _ _ h => h, fun _ _ _ _ _ _ h => h⟩, ⟨fun _ _ _ _ _ _ h => h, fun _ _ _ _ _ _ h => h⟩, ⟨fun _ _ _ _ _ _ h => h, fun _ _ _ _ _ _ h => h⟩, trivial⟩ ⟨?_, ?_, ?_, ?_, ?_, ?_, ?_, ?_, trivial⟩ ?_
        · refine ObX.op rfl ?_
          intro f24 wd25 he26 hout27 hphi28
          have hS29 : St w wd25 [] := St.extend hS20 he26
          have e30 : f24 0 = v_a := (hout27 0 rfl).trans hf16
          exact OpX.val v_a wd25 rfl (op_move e30) (Ext.refl _) rfl
        · refine ObX.op rfl ?_
          intro f31 wd32 he33 hout34 hphi35
          have hS36 : St w wd32 [] := St.extend hS20 he33
          have e37 : f31 5 = (Value.int .i64 (k7 : Int)) := (hout34 5 rfl).trans hf18
          exact OpX.val (Value.int .i64 (k7 : Int)) wd32 rfl (op_move e37) (Ext.refl _) ⟨rfl, hr19⟩
        · refine ObX.op rfl ?_
          intro f38 wd39 he40 hout41 hphi42
          have hS43 : St w wd39 [] := St.extend hS20 he40
          obtain ⟨S44, hS45, hf46⟩ := hphi42 0 17 _ rfl rfl rfl
          have e47 : f38 17 = v_a := hf46
          obtain ⟨S48, hS49, hf50⟩ := hphi42 1 18 _ rfl rfl rfl
          obtain ⟨e51, hr52⟩ : f38 18 = (Value.int .i64 (k7 : Int)) ∧ InR .i64 (k7 : Int) := hf50
          exact OpX.val (Value.pointer (some (elA v_a ((k7 : Int)).toNat))) wd39 rfl (op_idx sl_65 (Ty.lift _ hS43.ext r_a) e47 e51 ha54 hb55) (Ext.refl _) rfl
        · refine ObX.op rfl ?_
          intro f57 wd58 he59 hout60 hphi61
          have hS62 : St w wd58 [] := St.extend hS20 he59
          obtain ⟨S63, hS64, hf65⟩ := hphi61 2 19 _ rfl rfl rfl
          have e66 : f57 19 = (Value.pointer (some (elA v_a ((k7 : Int)).toNat))) := hf65
          exact OpX.val u67 wd58 rfl (op_load one_25 e66 (Ext.cell hS62.ext hc68)) (Ext.refl _) rfl
        · refine ObX.op rfl ?_
          intro f70 wd71 he72 hout73 hphi74
          have hS75 : St w wd71 [] := St.extend hS20 he72
          have e76 : f70 1 = v_b := (hout73 1 rfl).trans hf17
          exact OpX.val v_b wd71 rfl (op_move e76) (Ext.refl _) rfl
        · refine ObX.op rfl ?_
          intro f77 wd78 he79 hout80 hphi81
          have hS82 : St w wd78 [] := St.extend hS20 he79
          have e83 : f77 5 = (Value.int .i64 (k7 : Int)) := (hout80 5 rfl).trans hf18
          exact OpX.val (Value.int .i64 (k7 : Int)) wd78 rfl (op_move e83) (Ext.refl _) ⟨rfl, hr19⟩
        · refine ObX.op rfl ?_
          intro f84 wd85 he86 hout87 hphi88
          have hS89 : St w wd85 [] := St.extend hS20 he86
          obtain ⟨S90, hS91, hf92⟩ := hphi88 4 21 _ rfl rfl rfl
          have e93 : f84 21 = v_b := hf92
          obtain ⟨S94, hS95, hf96⟩ := hphi88 5 22 _ rfl rfl rfl
          obtain ⟨e97, hr98⟩ : f84 22 = (Value.int .i64 (k7 : Int)) ∧ InR .i64 (k7 : Int) := hf96
          exact OpX.val (Value.pointer (some (elA v_b ((k7 : Int)).toNat))) wd85 rfl (op_idx sl_65 (Ty.lift _ hS89.ext r_b) e93 e97 ha100 hb101) (Ext.refl _) rfl
        · refine ObX.op rfl ?_
          intro f103 wd104 he105 hout106 hphi107
          have hS108 : St w wd104 [] := St.extend hS20 he105
          obtain ⟨S109, hS110, hf111⟩ := hphi107 6 23 _ rfl rfl rfl
          have e112 : f103 23 = (Value.pointer (some (elA v_b ((k7 : Int)).toNat))) := hf111
          exact OpX.val u113 wd104 rfl (op_load one_25 e112 (Ext.cell hS108.ext hc114)) (Ext.refl _) rfl
        · intro f116 wd117 Ss118 he119 hout120 hSn121 hSd122 hphi123
          show WL _ _ _ _ _ _ _
          have hS124 : St w wd117 [] := St.extend hS20 he119
          have e125 : f116 20 = u67 := hphi123 3 20 _ (by decide) rfl rfl
          have e126 : f116 24 = u113 := hphi123 7 24 _ (by decide) rfl rfl
          have e127 : f116 0 = v_a := (hout120 0 rfl).trans hf16
          have e128 : f116 1 = v_b := (hout120 1 rfl).trans hf17
          have e129 : f116 5 = (Value.int .i64 (k7 : Int)) := (hout120 5 rfl).trans hf18
          obtain ⟨x130, hx131, hb12⟩ := bs hb12
          refine WL.call _ (op_call fn_15 (args2 e125 e126)) (c_laws_eqInt64S (Ty.lift _ hS124.ext hr69) (Ty.lift _ hS124.ext hr115) hx131) rfl ?_
          rintro _ wd132 ⟨rfl, he133⟩
          have hS135 := St.extend hS124 he133
          replace hS135 : St w wd132 [] := hS135
          refine WL.val (Value.bool (!x130)) _ (op_not rfl) rfl ?_
          refine WL.nil ?_
          show W _ _ _ _ _ _
          refine W.cond (!x130) rfl (fun hc136 => ?_) (fun hc136 => ?_)
          · replace hb12 := ip hb12 hc136
            refine W.seq ?_
            refine W.region ?_
            refine WL.val (Value.bool false) _ (op_assign rfl) rfl ?_
            refine WL.nil ?_
            show W _ _ _ _ _ _
            refine W.ret ?_
            obtain rfl := Option.some.inj hb12
            obtain rfl := hret15 _ rfl
            replace h := onRes_ret h
            obtain rfl := Option.some.inj h
            show FinP _ _ _ _ _ _ _
            exact FinP.ret _ (res1 rfl rfl) ⟨rfl, hS135.ext⟩
          · replace hb12 := inegb hb12 hc136
            refine W.skip ?_
            show W _ _ _ _ _ _
            refine W.region ?_
            refine WL.val (Value.int .i64 (k7 : Int)) _ (op_move e129) rfl ?_
            refine WL.val (Value.int .i64 (w64 ((k7 : Int) + (1 : Int)))) _ (op_add rfl rfl) rfl ?_
            refine WL.val (Value.int .i64 (w64 ((k7 : Int) + (1 : Int)))) _ (op_assign rfl) rfl ?_
            refine WL.nil ?_
            obtain rfl := Option.some.inj hb12
            show ∃ s, _ = Ctl.next s ∧ _
            exact ⟨_, rfl, e127, e128, (ctr_next hl22 hr21), (ctr_rng hl22 hr21), hS135⟩
      · intro s143 f139 wd140 hs141 hI142
        obtain ⟨⟩ := s143
        replace hI142 : f139 0 = v_a ∧ f139 1 = v_b ∧ f139 5 = Value.int .i64 (((a).length : Nat) : Int) ∧ InR .i64 (((a).length : Nat) : Int) ∧ St w wd140 [] := hI142
        obtain ⟨hf144, hf145, hf146, hr147, hS148⟩ := hI142
        refine W.seq ?_
        refine W.seq ?_
        refine W.region ?_
        refine WL.val (Value.int .i64 (((a).length : Nat) : Int)) _ (op_move hf146) rfl ?_
        refine WL.val v_a _ (op_move hf144) rfl ?_
        have hr149 := inR_len (Ty.lift _ hS148.ext r_a)
        refine WL.val (Value.int .i64 ((a).length : Int)) _ (op_lenL sl_65 (Ty.lift _ hS148.ext r_a) rfl) rfl ?_
        refine WL.val (Value.bool (decide ((((a).length : Nat) : Int) < ((a).length : Int)))) _ (op_lss rfl rfl) rfl ?_
        have hl150 : ¬ (((a).length : Nat) : Int) < ((a).length : Int) := by omega
        refine WL.nil ?_
        show W _ _ _ _ _ _
        refine W.condF (decide ((((a).length : Nat) : Int) < ((a).length : Int))) rfl (decide_eq_false hl150) ?_
        refine W.exit ?_
        show _ = _ ∧ _
        exact ⟨rfl, _, hs141, hS148⟩
    · rintro f151 wd152 ⟨s154, rfl, hq153⟩
      replace h := onRes_fin h
      obtain ⟨⟩ := s154
      replace hq153 : St w wd152 [] := hq153
      have hS155 := hq153
      show W _ _ _ _ _ _
      refine W.seq ?_
      refine W.region ?_
      refine WL.val (Value.bool true) _ (op_assign rfl) rfl ?_
      refine WL.nil ?_
      show W _ _ _ _ _ _
      refine W.ret ?_
      obtain rfl := Option.some.inj h
      show FinP _ _ _ _ _ _ _
      exact FinP.ret _ (res1 rfl rfl) ⟨rfl, hS155.ext⟩

theorem c_laws_eqInt64SSS {w : World} {a : (List (List (List Int)))} {v_a : Value} {b : (List (List (List Int)))} {v_b : Value} (r_a : (Ty.sl (Ty.sl (Ty.sl (Ty.i .i64)))).rep w v_a a) (r_b : (Ty.sl (Ty.sl (Ty.sl (Ty.i .i64)))).rep w v_b b) {res : Bool} (h : p_laws_eqInt64SSS a b  = some res) :
    Ret Try.prog 41 #[v_a, v_b] w (fun v w' => v = Value.bool res ∧ Ext w w') := by
  unfold p_laws_eqInt64SSS at h
  have hS0 : St w w [] := St.start w
  refine Ret.start (fn := Try.f41) Try.func41 rfl 27 rfl rfl ?_
  refine W.seq ?_
  refine W.region ?_
  refine WL.val (Value.bool false) _ (op_assign rfl) rfl ?_
  refine WL.nil ?_
  show W _ _ _ _ _ _
  refine W.seq ?_
  refine W.seq ?_
  refine W.region ?_
  refine WL.val v_a _ (op_move rfl) rfl ?_
  have hr1 := inR_len (Ty.lift _ hS0.ext r_a)
  refine WL.val (Value.int .i64 ((a).length : Int)) _ (op_lenL sl_22 (Ty.lift _ hS0.ext r_a) rfl) rfl ?_
  refine WL.val v_b _ (op_move rfl) rfl ?_
  have hr2 := inR_len (Ty.lift _ hS0.ext r_b)
  refine WL.val (Value.int .i64 ((b).length : Int)) _ (op_lenL sl_22 (Ty.lift _ hS0.ext r_b) rfl) rfl ?_
  refine WL.val (Value.bool (((a).length : Int) != ((b).length : Int))) _ (op_neq rfl rfl) rfl ?_
  refine WL.nil ?_
  show W _ _ _ _ _ _
  refine W.cond (((a).length : Int) != ((b).length : Int)) rfl (fun hc3 => ?_) (fun hc3 => ?_)
  · replace h := ip h hc3
    refine W.seq ?_
    refine W.region ?_
    refine WL.val (Value.bool false) _ (op_assign rfl) rfl ?_
    refine WL.nil ?_
    show W _ _ _ _ _ _
    refine W.ret ?_
    obtain rfl := Option.some.inj h
    show FinP _ _ _ _ _ _ _
    exact FinP.ret _ (res1 rfl rfl) ⟨rfl, hS0.ext⟩
  · replace h := inegb h hc3
    refine W.skip ?_
    show W _ _ _ _ _ _
    refine W.seq ?_
    refine W.seq ?_
    refine W.region ?_
    refine WL.val (Value.int .i64 (0 : Int)) _ (op_assign rfl) rfl ?_
    refine WL.nil ?_
    show W _ _ _ _ _ _
    obtain ⟨res5, hres6, h⟩ := bs h
    refine W.blockLoop (fun fq wq => ∃ s, res5 = Res.fin s ∧ St w wq []) ?_ ?_
    · refine W.forN (fun k (s : Unit) fq wq => fq 0 = v_a ∧ fq 1 = v_b ∧ fq 5 = Value.int .i64 (k : Int) ∧ InR .i64 (k : Int) ∧ St w wq []) hres6 ⟨rfl, rfl, rfl, (inR_i64.2 (show (-9223372036854775808 : Int) ≤ 0 ∧ (0 : Int) ≤ 9223372036854775807 from by decide)), hS0⟩ ?_ ?_
      · intro k7 s138 ct8 f9 wd10 hk11 hb12 hI13 hbrk14 hret15
        obtain ⟨⟩ := s138
        replace hI13 : f9 0 = v_a ∧ f9 1 = v_b ∧ f9 5 = Value.int .i64 (k7 : Int) ∧ InR .i64 (k7 : Int) ∧ St w wd10 [] := hI13
        replace hb12 : p_laws_eqInt64SSS_L1 a b k7  = some ct8 := hb12
        unfold p_laws_eqInt64SSS_L1 at hb12
        obtain ⟨hf16, hf17, hf18, hr19, hS20⟩ := hI13
        refine W.seq ?_
        refine W.seq ?_
        refine W.region ?_
        refine WL.val (Value.int .i64 (k7 : Int)) _ (op_move hf18) rfl ?_
        refine WL.val v_a _ (op_move hf16) rfl ?_
        have hr21 := inR_len (Ty.lift _ hS20.ext r_a)
        refine WL.val (Value.int .i64 ((a).length : Int)) _ (op_lenL sl_22 (Ty.lift _ hS20.ext r_a) rfl) rfl ?_
        refine WL.val (Value.bool (decide ((k7 : Int) < ((a).length : Int)))) _ (op_lss rfl rfl) rfl ?_
        have hl22 : (k7 : Int) < ((a).length : Int) := by omega
        refine WL.nil ?_
        show W _ _ _ _ _ _
        refine W.condT (decide ((k7 : Int) < ((a).length : Int))) rfl (decide_eq_true hl22) ?_
        refine W.skip ?_
        show W _ _ _ _ _ _
        refine W.seq ?_
        refine W.block ?_
        refine W.seq ?_
        obtain ⟨x53, hx56, hb12⟩ := bs hb12
        obtain ⟨ha54, hb55, hx56⟩ := idx_some hx56
        obtain ⟨u67, hc68, hr69⟩ := repSl.el r_a hx56
        obtain ⟨x99, hx102, hb12⟩ := bs hb12
        obtain ⟨ha100, hb101, hx102⟩ := idx_some hx102
        obtain ⟨u113, hc114, hr115⟩ := repSl.el r_b hx102
        refine W.drawR mixo 8 [] [fun _ v _ _ => v = v_a, fun _ v _ _ => v = (Value.int .i64 (k7 : Int)) ∧ InR .i64 (k7 : Int), fun _ v _ _ => v = (Value.pointer (some (elA v_a ((k7 : Int)).toNat))), fun _ v _ _ => v = u67, fun _ v _ _ => v = v_b, fun _ v _ _ => v = (Value.int .i64 (k7 : Int)) ∧ InR .i64 (k7 : Int), fun _ v _ _ => v = (Value.pointer (some (elA v_b ((k7 : Int)).toNat))), fun _ v _ _ => v = u113] (by kernel_rfl) (by kernel_rfl) ⟨⟨fun _ _ _ _ _ _ h => h, fun _ _ _ _ _ _ h => h⟩, ⟨fun _ _ _ _ _ _ h => h, fun _ _ _ _ _ _ h => h⟩, ⟨fun _ _ _ _ _ _ h => h, fun _ _ _ _ _ _ h => h⟩, ⟨fun _ _ _ _ _ _ h => h, fun _ _ _ _ _ _ h => h⟩, ⟨fun _ _ _ _ _ _ h => h, fun _ _ _ _ _ _ h => h⟩, ⟨fun _ _ _ _ _ _ h => h, fun _ _ _ _ _ _ h => h⟩, ⟨fun _ _ _ _ _ _ h => h, fun _ _ _ _ _ _ h => h⟩, ⟨fun _ _ _ _ _ _ h => h, fun _ _ _ _ _ _ h => h⟩, trivial⟩ ⟨?_, ?_, ?_, ?_, ?_, ?_, ?_, ?_, trivial⟩ ?_
        · refine ObX.op rfl ?_
          intro f24 wd25 he26 hout27 hphi28
          have hS29 : St w wd25 [] := St.extend hS20 he26
          have e30 : f24 0 = v_a := (hout27 0 rfl).trans hf16
          exact OpX.val v_a wd25 rfl (op_move e30) (Ext.refl _) rfl
        · refine ObX.op rfl ?_
          intro f31 wd32 he33 hout34 hphi35
          have hS36 : St w wd32 [] := St.extend hS20 he33
          have e37 : f31 5 = (Value.int .i64 (k7 : Int)) := (hout34 5 rfl).trans hf18
          exact OpX.val (Value.int .i64 (k7 : Int)) wd32 rfl (op_move e37) (Ext.refl _) ⟨rfl, hr19⟩
        · refine ObX.op rfl ?_
          intro f38 wd39 he40 hout41 hphi42
          have hS43 : St w wd39 [] := St.extend hS20 he40
          obtain ⟨S44, hS45, hf46⟩ := hphi42 0 17 _ rfl rfl rfl
          have e47 : f38 17 = v_a := hf46
          obtain ⟨S48, hS49, hf50⟩ := hphi42 1 18 _ rfl rfl rfl
          obtain ⟨e51, hr52⟩ : f38 18 = (Value.int .i64 (k7 : Int)) ∧ InR .i64 (k7 : Int) := hf50
          exact OpX.val (Value.pointer (some (elA v_a ((k7 : Int)).toNat))) wd39 rfl (op_idx sl_22 (Ty.lift _ hS43.ext r_a) e47 e51 ha54 hb55) (Ext.refl _) rfl
        · refine ObX.op rfl ?_
          intro f57 wd58 he59 hout60 hphi61
          have hS62 : St w wd58 [] := St.extend hS20 he59
          obtain ⟨S63, hS64, hf65⟩ := hphi61 2 19 _ rfl rfl rfl
          have e66 : f57 19 = (Value.pointer (some (elA v_a ((k7 : Int)).toNat))) := hf65
          exact OpX.val u67 wd58 rfl (op_load one_65 e66 (Ext.cell hS62.ext hc68)) (Ext.refl _) rfl
        · refine ObX.op rfl ?_
          intro f70 wd71 he72 hout73 hphi74
          have hS75 : St w wd71 [] := St.extend hS20 he72
          have e76 : f70 1 = v_b := (hout73 1 rfl).trans hf17
          exact OpX.val v_b wd71 rfl (op_move e76) (Ext.refl _) rfl
        · refine ObX.op rfl ?_
          intro f77 wd78 he79 hout80 hphi81
          have hS82 : St w wd78 [] := St.extend hS20 he79
          have e83 : f77 5 = (Value.int .i64 (k7 : Int)) := (hout80 5 rfl).trans hf18
          exact OpX.val (Value.int .i64 (k7 : Int)) wd78 rfl (op_move e83) (Ext.refl _) ⟨rfl, hr19⟩
        · refine ObX.op rfl ?_
          intro f84 wd85 he86 hout87 hphi88
          have hS89 : St w wd85 [] := St.extend hS20 he86
          obtain ⟨S90, hS91, hf92⟩ := hphi88 4 21 _ rfl rfl rfl
          have e93 : f84 21 = v_b := hf92
          obtain ⟨S94, hS95, hf96⟩ := hphi88 5 22 _ rfl rfl rfl
          obtain ⟨e97, hr98⟩ : f84 22 = (Value.int .i64 (k7 : Int)) ∧ InR .i64 (k7 : Int) := hf96
          exact OpX.val (Value.pointer (some (elA v_b ((k7 : Int)).toNat))) wd85 rfl (op_idx sl_22 (Ty.lift _ hS89.ext r_b) e93 e97 ha100 hb101) (Ext.refl _) rfl
        · refine ObX.op rfl ?_
          intro f103 wd104 he105 hout106 hphi107
          have hS108 : St w wd104 [] := St.extend hS20 he105
          obtain ⟨S109, hS110, hf111⟩ := hphi107 6 23 _ rfl rfl rfl
          have e112 : f103 23 = (Value.pointer (some (elA v_b ((k7 : Int)).toNat))) := hf111
          exact OpX.val u113 wd104 rfl (op_load one_65 e112 (Ext.cell hS108.ext hc114)) (Ext.refl _) rfl
        · intro f116 wd117 Ss118 he119 hout120 hSn121 hSd122 hphi123
          show WL _ _ _ _ _ _ _
          have hS124 : St w wd117 [] := St.extend hS20 he119
          have e125 : f116 20 = u67 := hphi123 3 20 _ (by decide) rfl rfl
          have e126 : f116 24 = u113 := hphi123 7 24 _ (by decide) rfl rfl
          have e127 : f116 0 = v_a := (hout120 0 rfl).trans hf16
          have e128 : f116 1 = v_b := (hout120 1 rfl).trans hf17
          have e129 : f116 5 = (Value.int .i64 (k7 : Int)) := (hout120 5 rfl).trans hf18
          obtain ⟨x130, hx131, hb12⟩ := bs hb12
          refine WL.call _ (op_call fn_74 (args2 e125 e126)) (c_laws_eqInt64SS (Ty.lift _ hS124.ext hr69) (Ty.lift _ hS124.ext hr115) hx131) rfl ?_
          rintro _ wd132 ⟨rfl, he133⟩
          have hS135 := St.extend hS124 he133
          replace hS135 : St w wd132 [] := hS135
          refine WL.val (Value.bool (!x130)) _ (op_not rfl) rfl ?_
          refine WL.nil ?_
          show W _ _ _ _ _ _
          refine W.cond (!x130) rfl (fun hc136 => ?_) (fun hc136 => ?_)
          · replace hb12 := ip hb12 hc136
            refine W.seq ?_
            refine W.region ?_
            refine WL.val (Value.bool false) _ (op_assign rfl) rfl ?_
            refine WL.nil ?_
            show W _ _ _ _ _ _
            refine W.ret ?_
            obtain rfl := Option.some.inj hb12
            obtain rfl := hret15 _ rfl
            replace h := onRes_ret h
            obtain rfl := Option.some.inj h
            show FinP _ _ _ _ _ _ _
            exact FinP.ret _ (res1 rfl rfl) ⟨rfl, hS135.ext⟩
          · replace hb12 := inegb hb12 hc136
            refine W.skip ?_
            show W _ _ _ _ _ _
            refine W.region ?_
            refine WL.val (Value.int .i64 (k7 : Int)) _ (op_move e129) rfl ?_
            refine WL.val (Value.int .i64 (w64 ((k7 : Int) + (1 : Int)))) _ (op_add rfl rfl) rfl ?_
            refine WL.val (Value.int .i64 (w64 ((k7 : Int) + (1 : Int)))) _ (op_assign rfl) rfl ?_
            refine WL.nil ?_
            obtain rfl := Option.some.inj hb12
            show ∃ s, _ = Ctl.next s ∧ _
            exact ⟨_, rfl, e127, e128, (ctr_next hl22 hr21), (ctr_rng hl22 hr21), hS135⟩
      · intro s143 f139 wd140 hs141 hI142
        obtain ⟨⟩ := s143
        replace hI142 : f139 0 = v_a ∧ f139 1 = v_b ∧ f139 5 = Value.int .i64 (((a).length : Nat) : Int) ∧ InR .i64 (((a).length : Nat) : Int) ∧ St w wd140 [] := hI142
        obtain ⟨hf144, hf145, hf146, hr147, hS148⟩ := hI142
        refine W.seq ?_
        refine W.seq ?_
        refine W.region ?_
        refine WL.val (Value.int .i64 (((a).length : Nat) : Int)) _ (op_move hf146) rfl ?_
        refine WL.val v_a _ (op_move hf144) rfl ?_
        have hr149 := inR_len (Ty.lift _ hS148.ext r_a)
        refine WL.val (Value.int .i64 ((a).length : Int)) _ (op_lenL sl_22 (Ty.lift _ hS148.ext r_a) rfl) rfl ?_
        refine WL.val (Value.bool (decide ((((a).length : Nat) : Int) < ((a).length : Int)))) _ (op_lss rfl rfl) rfl ?_
        have hl150 : ¬ (((a).length : Nat) : Int) < ((a).length : Int) := by omega
        refine WL.nil ?_
        show W _ _ _ _ _ _
        refine W.condF (decide ((((a).length : Nat) : Int) < ((a).length : Int))) rfl (decide_eq_false hl150) ?_
        refine W.exit ?_
        show _ = _ ∧ _
        exact ⟨rfl, _, hs141, hS148⟩
    · rintro f151 wd152 ⟨s154, rfl, hq153⟩
      replace h := onRes_fin h
      obtain ⟨⟩ := s154
      replace hq153 : St w wd152 [] := hq153
      have hS155 := hq153
      show W _ _ _ _ _ _
      refine W.seq ?_
      refine W.region ?_
      refine WL.val (Value.bool true) _ (op_assign rfl) rfl ?_
      refine WL.nil ?_
      show W _ _ _ _ _ _
      refine W.ret ?_
      obtain rfl := Option.some.inj h
      show FinP _ _ _ _ _ _ _
      exact FinP.ret _ (res1 rfl rfl) ⟨rfl, hS155.ext⟩

theorem c_laws_eqRing {w : World} {a_Table : (List (List (List Int)))} {v_a_Table : Value} {b_Table : (List (List (List Int)))} {v_b_Table : Value} (r_a_Table : (Ty.sl (Ty.sl (Ty.sl (Ty.i .i64)))).rep w v_a_Table a_Table) (r_b_Table : (Ty.sl (Ty.sl (Ty.sl (Ty.i .i64)))).rep w v_b_Table b_Table) {res : Bool} (h : p_laws_eqRing a_Table b_Table  = some res) :
    Ret Try.prog 14 #[(Value.agg #[v_a_Table]), (Value.agg #[v_b_Table])] w (fun v w' => v = Value.bool res ∧ Ext w w') := by
  unfold p_laws_eqRing at h
  have hS0 : St w w [] := St.start w
  refine Ret.start (fn := Try.f14) Try.func14 rfl 11 rfl rfl ?_
  refine W.seq ?_
  refine W.region ?_
  refine WL.box hS0 rfl (cs := [v_a_Table]) rfl rfl ?_
  intro b1 wd2 hS3 he4 hx5
  replace hS3 : St w wd2 [bx b1 [v_a_Table]] := hS3
  have hx6 := St.boxAt hS3 0 rfl
  have hE7 : Ext w wd2 := hS3.ext
  have hS8 : St wd2 wd2 [] := St.start wd2
  refine WL.box hS8 rfl (cs := [v_b_Table]) rfl rfl ?_
  intro b9 wd10 hS11 he12 hx13
  replace hS11 : St wd2 wd10 [bx b9 [v_b_Table]] := hS11
  have hx14 := St.boxAt hS11 0 rfl
  have hE15 : Ext w wd10 := (Ext.trans hE7 hS11.ext)
  have hE16 : Ext wd2 wd10 := hS11.ext
  have hS17 : St wd10 wd10 [] := St.start wd10
  refine WL.val (Value.bool false) _ (op_assign rfl) rfl ?_
  refine WL.nil ?_
  show W _ _ _ _ _ _
  refine W.seq ?_
  refine W.seq ?_
  refine W.region ?_
  refine WL.val (Value.pointer (some ⟨b1, 0, none⟩)) _ (op_fieldAddr fd_29_0 rfl) rfl ?_
  refine WL.val v_a_Table _ (op_load one_22 rfl (BoxAt.cell (BoxAt.lift (Ext.trans hE16 hS17.ext) hx6) rfl)) rfl ?_
  refine WL.val (Value.pointer (some ⟨b9, 0, none⟩)) _ (op_fieldAddr fd_29_0 rfl) rfl ?_
  refine WL.val v_b_Table _ (op_load one_22 rfl (BoxAt.cell (BoxAt.lift hS17.ext hx14) rfl)) rfl ?_
  obtain ⟨x18, hx19, h⟩ := bs h
  refine WL.call _ (op_call fn_41 (args2 rfl rfl)) (c_laws_eqInt64SSS (Ty.lift _ (Ext.trans hE15 hS17.ext) r_a_Table) (Ty.lift _ (Ext.trans hE15 hS17.ext) r_b_Table) hx19) rfl ?_
  rintro _ wd20 ⟨rfl, he21⟩
  have hS23 := St.extend hS17 he21
  replace hS23 : St wd10 wd20 [] := hS23
  refine WL.val (Value.bool (!x18)) _ (op_not rfl) rfl ?_
  refine WL.nil ?_
  show W _ _ _ _ _ _
  refine W.cond (!x18) rfl (fun hc24 => ?_) (fun hc24 => ?_)
  · replace h := ip h hc24
    refine W.seq ?_
    refine W.region ?_
    refine WL.val (Value.bool false) _ (op_assign rfl) rfl ?_
    refine WL.nil ?_
    show W _ _ _ _ _ _
    refine W.ret ?_
    obtain rfl := Option.some.inj h
    show FinP _ _ _ _ _ _ _
    exact FinP.ret _ (res1 rfl rfl) ⟨rfl, (Ext.trans hE15 hS23.ext)⟩
  · replace h := inegb h hc24
    refine W.skip ?_
    show W _ _ _ _ _ _
    refine W.seq ?_
    refine W.region ?_
    refine WL.val (Value.bool true) _ (op_assign rfl) rfl ?_
    refine WL.nil ?_
    show W _ _ _ _ _ _
    refine W.ret ?_
    obtain rfl := Option.some.inj h
    show FinP _ _ _ _ _ _ _
    exact FinP.ret _ (res1 rfl rfl) ⟨rfl, (Ext.trans hE15 hS23.ext)⟩

theorem c_spec_l02Turn {w : World} {a : (List (List Int))} {v_a : Value} (r_a : (Ty.sl (Ty.sl (Ty.i .i64))).rep w v_a a) {res : (List (List Int))} (h : p_spec_l02Turn a  = some res) :
    Ret Try.prog 50 #[v_a] w (fun v w' => ∃ (u0 : Value), v = u0 ∧ Ext w w' ∧ Sep w.heap.size w' [(Ty.sl (Ty.sl (Ty.i .i64))).at u0 res]) := by
  unfold p_spec_l02Turn at h
  have hS0 : St w w [] := St.start w
  refine Ret.start (fn := Try.f50) Try.func50 rfl 38 rfl rfl ?_
  refine W.seq ?_
  refine W.region ?_
  refine WL.val (Value.slice none 0 0) _ (op_assign rfl) rfl ?_
  refine WL.nil ?_
  show W _ _ _ _ _ _
  refine W.seq ?_
  refine W.region ?_
  refine WL.lit0 (t := (Ty.sl (Ty.i .i64))) hS0 sl_65 rfl rfl ?_
  intro u1 wd2 hS3 he4
  replace hS3 : St w wd2 [(Ty.sl (Ty.sl (Ty.i .i64))).at u1 ([] : (List (List Int)))] := hS3
  refine WL.val u1 _ (op_assign rfl) rfl ?_
  refine WL.nil ?_
  show W _ _ _ _ _ _
  refine W.seq ?_
  refine W.seq ?_
  refine W.region ?_
  refine WL.val (Value.int .i64 (0 : Int)) _ (op_assign rfl) rfl ?_
  refine WL.nil ?_
  show W _ _ _ _ _ _
  obtain ⟨res5, hres6, h⟩ := bs h
  refine W.blockLoop (fun fq wq => ∃ s, res5 = Res.fin s ∧ ∃ (uu0 : Value), fq 3 = uu0 ∧ St w wq [(Ty.sl (Ty.sl (Ty.i .i64))).at uu0 s.1]) ?_ ?_
  · refine W.whileC (fun (s : (List (List Int)) × Int) fq wq => ∃ (uu0 : Value), fq 0 = v_a ∧ fq 3 = uu0 ∧ fq 4 = Value.int .i64 s.2 ∧ InR .i64 s.2 ∧ St w wq [(Ty.sl (Ty.sl (Ty.i .i64))).at uu0 s.1]) hres6 ⟨u1, rfl, rfl, rfl, (inR_i64.2 (show (-9223372036854775808 : Int) ≤ 0 ∧ (0 : Int) ≤ 9223372036854775807 from by decide)), hS3⟩ ?_
    intro s126 ct10 f11 wd12 hb14 hI15 hbrk16 hret17
    obtain ⟨x8, x9⟩ := s126
    replace hI15 : ∃ (uu0 : Value), f11 0 = v_a ∧ f11 3 = uu0 ∧ f11 4 = Value.int .i64 x9 ∧ InR .i64 x9 ∧ St w wd12 [(Ty.sl (Ty.sl (Ty.i .i64))).at uu0 x8] := hI15
    replace hb14 : p_spec_l02Turn_L1 a  x8 x9 = some ct10 := hb14
    unfold p_spec_l02Turn_L1 at hb14
    obtain ⟨u18, hf19, hf20, hf21, hr22, hS23⟩ := hI15
    refine W.seq ?_
    refine W.seq ?_
    refine W.region ?_
    refine WL.val (Value.int .i64 x9) _ (op_move hf21) rfl ?_
    refine WL.val v_a _ (op_move hf19) rfl ?_
    obtain ⟨x24, hx27, hb14⟩ := bs hb14
    obtain ⟨ha25, hb26, hx27⟩ := idx_some hx27
    refine WL.val (Value.pointer (some (elA v_a ((0 : Int)).toNat))) _ (op_idx sl_65 (Ty.lift _ hS23.ext r_a) rfl rfl ha25 hb26) rfl ?_
    obtain ⟨u28, hc29, hr30⟩ := repSl.el r_a hx27
    refine WL.val u28 _ (op_load one_25 rfl (Ext.cell hS23.ext hc29)) rfl ?_
    have hr31 := inR_len (Ty.lift _ hS23.ext hr30)
    refine WL.val (Value.int .i64 ((x24).length : Int)) _ (op_lenL sl_25 (Ty.lift _ hS23.ext hr30) rfl) rfl ?_
    refine WL.val (Value.bool (decide (x9 < ((x24).length : Int)))) _ (op_lss rfl rfl) rfl ?_
    refine WL.nil ?_
    show W _ _ _ _ _ _
    refine W.cond (decide (x9 < ((x24).length : Int))) rfl (fun hc32 => ?_) (fun hc32 => ?_)
    · replace hb14 := ip hb14 hc32
      refine W.skip ?_
      show W _ _ _ _ _ _
      refine W.seq ?_
      refine W.block ?_
      refine W.seq ?_
      refine W.region ?_
      refine WL.lit0 (t := (Ty.i .i64)) hS23 sl_25 rfl rfl ?_
      intro u34 wd35 hS36 he37
      replace hS36 : St w wd35 [(Ty.sl (Ty.sl (Ty.i .i64))).at u18 x8, (Ty.sl (Ty.i .i64)).at u34 ([] : (List Int))] := hS36
      refine WL.val u34 _ (op_assign rfl) rfl ?_
      refine WL.nil ?_
      show W _ _ _ _ _ _
      refine W.seq ?_
      refine W.seq ?_
      refine W.region ?_
      refine WL.val (Value.int .i64 (0 : Int)) _ (op_assign rfl) rfl ?_
      refine WL.nil ?_
      show W _ _ _ _ _ _
      obtain ⟨res38, hres39, hb14⟩ := bs hb14
      refine W.blockLoop (fun fq wq => ∃ s, res38 = Res.fin s ∧ ∃ (uu0 : Value), fq 0 = v_a ∧ fq 3 = u18 ∧ fq 4 = (Value.int .i64 x9) ∧ fq 5 = uu0 ∧ St w wq [(Ty.sl (Ty.sl (Ty.i .i64))).at u18 x8, (Ty.sl (Ty.i .i64)).at uu0 s]) ?_ ?_
      · refine W.forN (fun k (s : (List Int)) fq wq => ∃ (uu0 : Value), fq 0 = v_a ∧ fq 3 = u18 ∧ fq 4 = (Value.int .i64 x9) ∧ fq 5 = uu0 ∧ fq 6 = Value.int .i64 (k : Int) ∧ InR .i64 (k : Int) ∧ St w wq [(Ty.sl (Ty.sl (Ty.i .i64))).at u18 x8, (Ty.sl (Ty.i .i64)).at uu0 s]) hres39 ⟨u34, hf19, hf20, hf21, rfl, rfl, (inR_i64.2 (show (-9223372036854775808 : Int) ≤ 0 ∧ (0 : Int) ≤ 9223372036854775807 from by decide)), hS36⟩ ?_ ?_
        · intro k40 x41 ct42 f43 wd44 hk45 hb46 hI47 hbrk48 hret49
          replace hI47 : ∃ (uu0 : Value), f43 0 = v_a ∧ f43 3 = u18 ∧ f43 4 = (Value.int .i64 x9) ∧ f43 5 = uu0 ∧ f43 6 = Value.int .i64 (k40 : Int) ∧ InR .i64 (k40 : Int) ∧ St w wd44 [(Ty.sl (Ty.sl (Ty.i .i64))).at u18 x8, (Ty.sl (Ty.i .i64)).at uu0 x41] := hI47
          replace hb46 : p_spec_l02Turn_L2 a x9 k40 x41 = some ct42 := hb46
          unfold p_spec_l02Turn_L2 at hb46
          obtain ⟨u50, hf51, hf52, hf53, hf54, hf55, hr56, hS57⟩ := hI47
          refine W.seq ?_
          refine W.seq ?_
          refine W.region ?_
          refine WL.val (Value.int .i64 (k40 : Int)) _ (op_move hf55) rfl ?_
          refine WL.val v_a _ (op_move hf51) rfl ?_
          have hr58 := inR_len (Ty.lift _ hS57.ext r_a)
          refine WL.val (Value.int .i64 ((a).length : Int)) _ (op_lenL sl_65 (Ty.lift _ hS57.ext r_a) rfl) rfl ?_
          refine WL.val (Value.bool (decide ((k40 : Int) < ((a).length : Int)))) _ (op_lss rfl rfl) rfl ?_
          have hl59 : (k40 : Int) < ((a).length : Int) := by omega
          refine WL.nil ?_
          show W _ _ _ _ _ _
          refine W.condT (decide ((k40 : Int) < ((a).length : Int))) rfl (decide_eq_true hl59) ?_
          refine W.skip ?_
          show W _ _ _ _ _ _
          refine W.seq ?_
          refine W.block ?_
          refine W.region ?_
          refine WL.val u50 _ (op_move hf54) rfl ?_
          refine WL.val v_a _ (op_move hf51) rfl ?_
          refine WL.val (Value.int .i64 (k40 : Int)) _ (op_move hf55) rfl ?_
          obtain ⟨x61, hx64, hb46⟩ := bs hb46
          obtain ⟨ha62, hb63, hx64⟩ := idx_some hx64
          refine WL.val (Value.pointer (some (elA v_a ((k40 : Int)).toNat))) _ (op_idx sl_65 (Ty.lift _ hS57.ext r_a) rfl rfl ha62 hb63) rfl ?_
          obtain ⟨u65, hc66, hr67⟩ := repSl.el r_a hx64
          refine WL.val u65 _ (op_load one_25 rfl (Ext.cell hS57.ext hc66)) rfl ?_
          refine WL.val (Value.int .i64 x9) _ (op_move hf53) rfl ?_
          obtain ⟨x68, hx71, hb46⟩ := bs hb46
          obtain ⟨ha69, hb70, hx71⟩ := idx_some hx71
          refine WL.val (Value.pointer (some (elA u65 (x9).toNat))) _ (op_idx sl_25 (Ty.lift _ hS57.ext hr67) rfl rfl ha69 hb70) rfl ?_
          obtain ⟨u72, hc73, hr74⟩ := repSl.el hr67 hx71
          obtain ⟨rfl, hr74⟩ := hr74
          refine WL.val (Value.int .i64 x68) _ (op_load one_2 rfl (Ext.cell hS57.ext hc73)) rfl ?_
          refine WL.litFlat (t := (Ty.i .i64)) (flat_i .i64) [(Value.int .i64 x68)] [x68] hS57 sl_25 rfl rfl (fillL rfl ⟨rfl, rfl, rfl, trivial⟩) rfl rfl (litL ⟨⟨rfl, hr74⟩, trivial⟩) rfl ?_
          intro u75 wd76 hS77 he78
          replace hS77 : St w wd76 [(Ty.sl (Ty.sl (Ty.i .i64))).at u18 x8, (Ty.sl (Ty.i .i64)).at u50 x41, (Ty.sl (Ty.i .i64)).at u75 ([x68] : (List Int))] := hS77
          obtain ⟨x79, hx80, hb46⟩ := bs hb46
          refine WL.append (flat_i .i64) hS77 (k := 1) rfl sl_25 rfl rfl rfl rfl (St.rep (t := (Ty.sl (Ty.i .i64))) hS77 2 rfl) hx80 rfl ?_
          intro u81 wd82 hS83 hz84
          replace hS83 : St w wd82 [(Ty.sl (Ty.sl (Ty.i .i64))).at u18 x8, (Ty.sl (Ty.i .i64)).at u81 x79, (Ty.sl (Ty.i .i64)).at u75 ([x68] : (List Int))] := hS83
          refine WL.val u81 _ (op_assign rfl) rfl ?_
          refine WL.nil ?_
          show W _ _ _ _ _ _
          refine W.region ?_
          refine WL.val (Value.int .i64 (k40 : Int)) _ (op_move hf55) rfl ?_
          refine WL.val (Value.int .i64 (w64 ((k40 : Int) + (1 : Int)))) _ (op_add rfl rfl) rfl ?_
          refine WL.val (Value.int .i64 (w64 ((k40 : Int) + (1 : Int)))) _ (op_assign rfl) rfl ?_
          refine WL.nil ?_
          obtain rfl := Option.some.inj hb46
          show ∃ s, _ = Ctl.next s ∧ _
          exact ⟨_, rfl, u81, hf51, hf52, hf53, rfl, (ctr_next hl59 hr58), (ctr_rng hl59 hr58), (St.pick hS83 [0, 1] rfl)⟩
        · intro x91 f86 wd87 hs88 hI89
          replace hI89 : ∃ (uu0 : Value), f86 0 = v_a ∧ f86 3 = u18 ∧ f86 4 = (Value.int .i64 x9) ∧ f86 5 = uu0 ∧ f86 6 = Value.int .i64 (((a).length : Nat) : Int) ∧ InR .i64 (((a).length : Nat) : Int) ∧ St w wd87 [(Ty.sl (Ty.sl (Ty.i .i64))).at u18 x8, (Ty.sl (Ty.i .i64)).at uu0 x91] := hI89
          obtain ⟨u92, hf93, hf94, hf95, hf96, hf97, hr98, hS99⟩ := hI89
          refine W.seq ?_
          refine W.seq ?_
          refine W.region ?_
          refine WL.val (Value.int .i64 (((a).length : Nat) : Int)) _ (op_move hf97) rfl ?_
          refine WL.val v_a _ (op_move hf93) rfl ?_
          have hr100 := inR_len (Ty.lift _ hS99.ext r_a)
          refine WL.val (Value.int .i64 ((a).length : Int)) _ (op_lenL sl_65 (Ty.lift _ hS99.ext r_a) rfl) rfl ?_
          refine WL.val (Value.bool (decide ((((a).length : Nat) : Int) < ((a).length : Int)))) _ (op_lss rfl rfl) rfl ?_
          have hl101 : ¬ (((a).length : Nat) : Int) < ((a).length : Int) := by omega
          refine WL.nil ?_
          show W _ _ _ _ _ _
          refine W.condF (decide ((((a).length : Nat) : Int) < ((a).length : Int))) rfl (decide_eq_false hl101) ?_
          refine W.exit ?_
          show _ = _ ∧ _
          exact ⟨rfl, _, hs88, u92, hf93, hf94, hf95, hf96, hS99⟩
      · rintro f102 wd103 ⟨x106, rfl, hq104⟩
        replace hb14 := onRes_fin hb14
        replace hq104 : ∃ (uu0 : Value), f102 0 = v_a ∧ f102 3 = u18 ∧ f102 4 = (Value.int .i64 x9) ∧ f102 5 = uu0 ∧ St w wd103 [(Ty.sl (Ty.sl (Ty.i .i64))).at u18 x8, (Ty.sl (Ty.i .i64)).at uu0 x106] := hq104
        obtain ⟨u107, hf108, hf109, hf110, hf111, hS112⟩ := hq104
        show W _ _ _ _ _ _
        refine W.region ?_
        refine WL.val u18 _ (op_move hf109) rfl ?_
        refine WL.val u107 _ (op_move hf111) rfl ?_
        refine WL.lit [u107] hS112 sl_65 rfl rfl (fillL rfl ⟨rfl, rfl, (cells_rep (St.rep (t := (Ty.sl (Ty.i .i64))) hS112 1 rfl)), trivial⟩) rfl rfl ?_
        intro b117 wd114 hS115 he116 hx118
        replace hS115 : St w wd114 [(Ty.sl (Ty.sl (Ty.i .i64))).at u18 x8, (Ty.sl (Ty.i .i64)).at u107 x106, bx b117 [u107]] := hS115
        obtain ⟨x119, hx120, hb14⟩ := bs hb14
        refine WL.appendRow hS115 (k := 0) (k2 := 1) (k3 := 2) rfl rfl rfl rfl sl_65 rfl rfl rfl rfl hx120 rfl ?_
        intro u121 wd122 hS123 hz124
        replace hS123 : St w wd122 [(Ty.sl (Ty.sl (Ty.i .i64))).at u121 x119, emp, bx b117 [u107]] := hS123
        refine WL.val u121 _ (op_assign rfl) rfl ?_
        refine WL.nil ?_
        show W _ _ _ _ _ _
        refine W.region ?_
        refine WL.val (Value.int .i64 x9) _ (op_move hf110) rfl ?_
        refine WL.val (Value.int .i64 (w64 (x9 + (1 : Int)))) _ (op_add rfl rfl) rfl ?_
        refine WL.val (Value.int .i64 (w64 (x9 + (1 : Int)))) _ (op_assign rfl) rfl ?_
        refine WL.nil ?_
        obtain rfl := Option.some.inj hb14
        show ∃ s, _ = Ctl.next s ∧ _
        exact ⟨_, rfl, u121, hf108, rfl, rfl, (inR_wrap _ _), (St.pick hS123 [0] rfl)⟩
    · replace hb14 := inegb hb14 hc32
      refine W.exit ?_
      obtain rfl := Option.some.inj hb14
      show _ = _ ∧ _
      exact ⟨rfl, _, hbrk16 _ rfl, u18, hf20, hS23⟩
  · rintro f127 wd128 ⟨s130, rfl, hq129⟩
    replace h := onRes_fin h
    obtain ⟨x131, x132⟩ := s130
    replace hq129 : ∃ (uu0 : Value), f127 3 = uu0 ∧ St w wd128 [(Ty.sl (Ty.sl (Ty.i .i64))).at uu0 x131] := hq129
    replace h : (_ : Option _) = _ := h
    dsimp only at h
    obtain ⟨u133, hf134, hS135⟩ := hq129
    show W _ _ _ _ _ _
    refine W.seq ?_
    refine W.region ?_
    refine WL.val u133 _ (op_move hf134) rfl ?_
    refine WL.val u133 _ (op_assign rfl) rfl ?_
    refine WL.nil ?_
    show W _ _ _ _ _ _
    refine W.ret ?_
    obtain rfl := Option.some.inj h
    show FinP _ _ _ _ _ _ _
    exact FinP.ret _ (res1 rfl rfl) ⟨u133, rfl, hS135.ext, (St.out (St.pick hS135 [0] rfl) (Ext.refl _))⟩

theorem c_impl_zeros {w : World} {rows : Int} {columns : Int} (r_rows : InR .i64 rows) (r_columns : InR .i64 columns) {res : (List (List Int))} (h : p_impl_zeros rows columns  = some res) :
    Ret Try.prog 80 #[(Value.int .i64 rows), (Value.int .i64 columns)] w (fun v w' => ∃ (u0 : Value), v = u0 ∧ Ext w w' ∧ Sep w.heap.size w' [(Ty.sl (Ty.sl (Ty.i .i64))).at u0 res]) := by
  unfold p_impl_zeros at h
  have hS0 : St w w [] := St.start w
  refine Ret.start (fn := Try.f80) Try.func80 rfl 17 rfl rfl ?_
  refine W.seq ?_
  refine W.region ?_
  refine WL.val (Value.slice none 0 0) _ (op_assign rfl) rfl ?_
  refine WL.nil ?_
  show W _ _ _ _ _ _
  refine W.seq ?_
  refine W.region ?_
  refine WL.lit0 (t := (Ty.sl (Ty.i .i64))) hS0 sl_65 rfl rfl ?_
  intro u1 wd2 hS3 he4
  replace hS3 : St w wd2 [(Ty.sl (Ty.sl (Ty.i .i64))).at u1 ([] : (List (List Int)))] := hS3
  refine WL.val u1 _ (op_assign rfl) rfl ?_
  refine WL.nil ?_
  show W _ _ _ _ _ _
  refine W.seq ?_
  refine W.seq ?_
  refine W.region ?_
  refine WL.val (Value.int .i64 rows) _ (op_move rfl) rfl ?_
  refine WL.val (Value.int .i64 (0 : Int)) _ (op_move rfl) rfl ?_
  refine WL.nil ?_
  show W _ _ _ _ _ _
  obtain ⟨res5, hres6, h⟩ := bs h
  refine W.blockLoop (fun fq wq => ∃ s, res5 = Res.fin s ∧ ∃ (uu0 : Value), fq 5 = uu0 ∧ St w wq [(Ty.sl (Ty.sl (Ty.i .i64))).at uu0 s]) ?_ ?_
  · refine W.forN (fun k (s : (List (List Int))) fq wq => ∃ (uu0 : Value), fq 1 = (Value.int .i64 columns) ∧ fq 5 = uu0 ∧ fq 7 = (Value.int .i64 rows) ∧ fq 8 = Value.int .i64 (k : Int) ∧ InR .i64 (k : Int) ∧ St w wq [(Ty.sl (Ty.sl (Ty.i .i64))).at uu0 s]) hres6 ⟨u1, rfl, rfl, rfl, rfl, (inR_i64.2 (show (-9223372036854775808 : Int) ≤ 0 ∧ (0 : Int) ≤ 9223372036854775807 from by decide)), hS3⟩ ?_ ?_
    · intro k7 x8 ct9 f10 wd11 hk12 hb13 hI14 hbrk15 hret16
      replace hI14 : ∃ (uu0 : Value), f10 1 = (Value.int .i64 columns) ∧ f10 5 = uu0 ∧ f10 7 = (Value.int .i64 rows) ∧ f10 8 = Value.int .i64 (k7 : Int) ∧ InR .i64 (k7 : Int) ∧ St w wd11 [(Ty.sl (Ty.sl (Ty.i .i64))).at uu0 x8] := hI14
      replace hb13 : p_impl_zeros_L1 columns k7 x8 = some ct9 := hb13
      unfold p_impl_zeros_L1 at hb13
      obtain ⟨u17, hf18, hf19, hf20, hf21, hr22, hS23⟩ := hI14
      refine W.seq ?_
      refine W.region ?_
      refine WL.val (Value.bool (decide ((k7 : Int) < rows))) _ (op_lss hf21 hf20) rfl ?_
      have hl24 : (k7 : Int) < rows := by omega
      refine WL.nil ?_
      show W _ _ _ _ _ _
      refine W.seq ?_
      refine W.condT (decide ((k7 : Int) < rows)) rfl (decide_eq_true hl24) ?_
      refine W.skip ?_
      show W _ _ _ _ _ _
      refine W.seq ?_
      refine W.block ?_
      refine W.region ?_
      refine WL.val u17 _ (op_move hf19) rfl ?_
      refine WL.val (Value.int .i64 columns) _ (op_move hf18) rfl ?_
      obtain ⟨x26, hx27, hb13⟩ := bs hb13
      refine WL.make (t := (Ty.i .i64)) hS23 sl_25 (fun _ _ => ⟨rfl, (inR_i64.2 (show (-9223372036854775808 : Int) ≤ 0 ∧ (0 : Int) ≤ 9223372036854775807 from by decide))⟩) rfl rfl hx27 rfl rfl ?_
      intro u28 wd29 hS30 he31
      replace hS30 : St w wd29 [(Ty.sl (Ty.sl (Ty.i .i64))).at u17 x8, (Ty.sl (Ty.i .i64)).at u28 x26] := hS30
      refine WL.lit [u28] hS30 sl_65 rfl rfl (fillL rfl ⟨rfl, rfl, (cells_rep (St.rep (t := (Ty.sl (Ty.i .i64))) hS30 1 rfl)), trivial⟩) rfl rfl ?_
      intro b36 wd33 hS34 he35 hx37
      replace hS34 : St w wd33 [(Ty.sl (Ty.sl (Ty.i .i64))).at u17 x8, (Ty.sl (Ty.i .i64)).at u28 x26, bx b36 [u28]] := hS34
      obtain ⟨x38, hx39, hb13⟩ := bs hb13
      refine WL.appendRow hS34 (k := 0) (k2 := 1) (k3 := 2) rfl rfl rfl rfl sl_65 rfl rfl rfl rfl hx39 rfl ?_
      intro u40 wd41 hS42 hz43
      replace hS42 : St w wd41 [(Ty.sl (Ty.sl (Ty.i .i64))).at u40 x38, emp, bx b36 [u28]] := hS42
      refine WL.val u40 _ (op_assign rfl) rfl ?_
      refine WL.nil ?_
      show W _ _ _ _ _ _
      refine W.region ?_
      refine WL.val (Value.int .i64 (w64 ((k7 : Int) + (1 : Int)))) _ (op_add hf21 rfl) rfl ?_
      refine WL.val (Value.int .i64 (w64 ((k7 : Int) + (1 : Int)))) _ (op_move rfl) rfl ?_
      refine WL.nil ?_
      obtain rfl := Option.some.inj hb13
      show ∃ s, _ = Ctl.next s ∧ _
      exact ⟨_, rfl, u40, hf18, rfl, hf20, (ctr_next hl24 r_rows), (ctr_rng hl24 r_rows), (St.pick hS42 [0] rfl)⟩
    · intro x50 f45 wd46 hs47 hI48
      replace hI48 : ∃ (uu0 : Value), f45 1 = (Value.int .i64 columns) ∧ f45 5 = uu0 ∧ f45 7 = (Value.int .i64 rows) ∧ f45 8 = Value.int .i64 (((rows).toNat : Nat) : Int) ∧ InR .i64 (((rows).toNat : Nat) : Int) ∧ St w wd46 [(Ty.sl (Ty.sl (Ty.i .i64))).at uu0 x50] := hI48
      obtain ⟨u51, hf52, hf53, hf54, hf55, hr56, hS57⟩ := hI48
      refine W.seq ?_
      refine W.region ?_
      refine WL.val (Value.bool (decide ((((rows).toNat : Nat) : Int) < rows))) _ (op_lss hf55 hf54) rfl ?_
      have hl58 : ¬ (((rows).toNat : Nat) : Int) < rows := by omega
      refine WL.nil ?_
      show W _ _ _ _ _ _
      refine W.seq ?_
      refine W.condF (decide ((((rows).toNat : Nat) : Int) < rows)) rfl (decide_eq_false hl58) ?_
      refine W.exit ?_
      show _ = _ ∧ _
      exact ⟨rfl, _, hs47, u51, hf53, hS57⟩
  · rintro f59 wd60 ⟨x63, rfl, hq61⟩
    replace h := onRes_fin h
    replace hq61 : ∃ (uu0 : Value), f59 5 = uu0 ∧ St w wd60 [(Ty.sl (Ty.sl (Ty.i .i64))).at uu0 x63] := hq61
    obtain ⟨u64, hf65, hS66⟩ := hq61
    show W _ _ _ _ _ _
    refine W.seq ?_
    refine W.region ?_
    refine WL.val u64 _ (op_move hf65) rfl ?_
    refine WL.val u64 _ (op_assign rfl) rfl ?_
    refine WL.nil ?_
    show W _ _ _ _ _ _
    refine W.ret ?_
    obtain rfl := Option.some.inj h
    show FinP _ _ _ _ _ _ _
    exact FinP.ret _ (res1 rfl rfl) ⟨u64, rfl, hS66.ext, (St.out (St.pick hS66 [0] rfl) (Ext.refl _))⟩

theorem c_impl_transpose {w : World} {a : (List (List Int))} {v_a : Value} (r_a : (Ty.sl (Ty.sl (Ty.i .i64))).rep w v_a a) {res : (List (List Int))} (h : p_impl_transpose a  = some res) :
    Ret Try.prog 55 #[v_a] w (fun v w' => ∃ (u0 : Value), v = u0 ∧ Ext w w' ∧ Sep w.heap.size w' [(Ty.sl (Ty.sl (Ty.i .i64))).at u0 res]) := by
  unfold p_impl_transpose at h
  have hS0 : St w w [] := St.start w
  refine Ret.start (fn := Try.f55) Try.func55 rfl 39 rfl rfl ?_
  refine W.seq ?_
  refine W.region ?_
  refine WL.val (Value.slice none 0 0) _ (op_assign rfl) rfl ?_
  refine WL.nil ?_
  show W _ _ _ _ _ _
  refine W.seq ?_
  refine W.region ?_
  refine WL.val v_a _ (op_move rfl) rfl ?_
  obtain ⟨x1, hx4, h⟩ := bs h
  obtain ⟨ha2, hb3, hx4⟩ := idx_some hx4
  refine WL.val (Value.pointer (some (elA v_a ((0 : Int)).toNat))) _ (op_idx sl_65 (Ty.lift _ hS0.ext r_a) rfl rfl ha2 hb3) rfl ?_
  obtain ⟨u5, hc6, hr7⟩ := repSl.el r_a hx4
  refine WL.val u5 _ (op_load one_25 rfl (Ext.cell hS0.ext hc6)) rfl ?_
  have hr8 := inR_len (Ty.lift _ hS0.ext hr7)
  refine WL.val (Value.int .i64 ((x1).length : Int)) _ (op_lenL sl_25 (Ty.lift _ hS0.ext hr7) rfl) rfl ?_
  refine WL.val v_a _ (op_move rfl) rfl ?_
  have hr9 := inR_len (Ty.lift _ hS0.ext r_a)
  refine WL.val (Value.int .i64 ((a).length : Int)) _ (op_lenL sl_65 (Ty.lift _ hS0.ext r_a) rfl) rfl ?_
  obtain ⟨x10, hx11, h⟩ := bs h
  refine WL.call _ (op_call fn_80 (args2 rfl rfl)) (c_impl_zeros hr8 hr9 hx11) rfl ?_
  rintro u12 wd13 ⟨_, rfl, he14, hs15⟩
  have hS16 := St.join hS0 he14 hs15
  replace hS16 : St w wd13 [(Ty.sl (Ty.sl (Ty.i .i64))).at u12 x10] := hS16
  refine WL.val u12 _ (op_assign rfl) rfl ?_
  refine WL.nil ?_
  show W _ _ _ _ _ _
  refine W.seq ?_
  refine W.seq ?_
  refine W.region ?_
  refine WL.val v_a _ (op_move rfl) rfl ?_
  have hr17 := inR_len (Ty.lift _ hS16.ext r_a)
  refine WL.val (Value.int .i64 ((a).length : Int)) _ (op_lenL sl_65 (Ty.lift _ hS16.ext r_a) rfl) rfl ?_
  refine WL.val (Value.int .i64 (0 : Int)) _ (op_move rfl) rfl ?_
  refine WL.nil ?_
  show W _ _ _ _ _ _
  obtain ⟨res18, hres19, h⟩ := bs h
  refine W.blockLoop (fun fq wq => ∃ s, res18 = Res.fin s ∧ fq 3 = u12 ∧ St w wq [(Ty.sl (Ty.sl (Ty.i .i64))).at u12 s]) ?_ ?_
  · refine W.forN (fun k (s : (List (List Int))) fq wq => fq 3 = u12 ∧ fq 15 = v_a ∧ fq 16 = (Value.int .i64 ((a).length : Int)) ∧ fq 17 = Value.int .i64 (k : Int) ∧ InR .i64 (k : Int) ∧ St w wq [(Ty.sl (Ty.sl (Ty.i .i64))).at u12 s]) hres19 ⟨rfl, rfl, rfl, rfl, (inR_i64.2 (show (-9223372036854775808 : Int) ≤ 0 ∧ (0 : Int) ≤ 9223372036854775807 from by decide)), hS16⟩ ?_ ?_
    · intro k20 x21 ct22 f23 wd24 hk25 hb26 hI27 hbrk28 hret29
      replace hI27 : f23 3 = u12 ∧ f23 15 = v_a ∧ f23 16 = (Value.int .i64 ((a).length : Int)) ∧ f23 17 = Value.int .i64 (k20 : Int) ∧ InR .i64 (k20 : Int) ∧ St w wd24 [(Ty.sl (Ty.sl (Ty.i .i64))).at u12 x21] := hI27
      replace hb26 : p_impl_transpose_L1 a k20 x21 = some ct22 := hb26
      unfold p_impl_transpose_L1 at hb26
      obtain ⟨hf30, hf31, hf32, hf33, hr34, hS35⟩ := hI27
      refine W.seq ?_
      refine W.region ?_
      refine WL.val (Value.bool (decide ((k20 : Int) < ((a).length : Int)))) _ (op_lss hf33 hf32) rfl ?_
      have hl36 : (k20 : Int) < ((a).length : Int) := by omega
      refine WL.nil ?_
      show W _ _ _ _ _ _
      refine W.seq ?_
      refine W.condT (decide ((k20 : Int) < ((a).length : Int))) rfl (decide_eq_true hl36) ?_
      refine W.skip ?_
      show W _ _ _ _ _ _
      refine W.seq ?_
      refine W.block ?_
      refine W.seq ?_
      refine W.region ?_
      refine WL.val (Value.int .i64 (k20 : Int)) _ (op_move hf33) rfl ?_
      obtain ⟨x38, hx41, hb26⟩ := bs hb26
      obtain ⟨ha39, hb40, hx41⟩ := idx_some hx41
      refine WL.val (Value.pointer (some (elA v_a ((k20 : Int)).toNat))) _ (op_idx sl_65 (Ty.lift _ hS35.ext r_a) hf31 hf33 ha39 hb40) rfl ?_
      obtain ⟨u42, hc43, hr44⟩ := repSl.el r_a hx41
      refine WL.val u42 _ (op_load one_25 rfl (Ext.cell hS35.ext hc43)) rfl ?_
      refine WL.val (Value.int .i64 (k20 : Int)) _ (op_assign rfl) rfl ?_
      refine WL.val u42 _ (op_assign rfl) rfl ?_
      refine WL.nil ?_
      show W _ _ _ _ _ _
      refine W.seq ?_
      refine W.region ?_
      refine WL.val u42 _ (op_move rfl) rfl ?_
      have hr45 := inR_len (Ty.lift _ hS35.ext hr44)
      refine WL.val (Value.int .i64 ((x38).length : Int)) _ (op_lenL sl_25 (Ty.lift _ hS35.ext hr44) rfl) rfl ?_
      refine WL.val (Value.int .i64 (0 : Int)) _ (op_move rfl) rfl ?_
      refine WL.nil ?_
      show W _ _ _ _ _ _
      obtain ⟨res46, hres47, hb26⟩ := bs hb26
      refine W.blockLoop (fun fq wq => ∃ s, res46 = Res.fin s ∧ fq 3 = u12 ∧ fq 15 = v_a ∧ fq 16 = (Value.int .i64 ((a).length : Int)) ∧ fq 17 = (Value.int .i64 (k20 : Int)) ∧ St w wq [(Ty.sl (Ty.sl (Ty.i .i64))).at u12 s]) ?_ ?_
      · refine W.forN (fun k (s : (List (List Int))) fq wq => fq 3 = u12 ∧ fq 4 = (Value.int .i64 (k20 : Int)) ∧ fq 15 = v_a ∧ fq 16 = (Value.int .i64 ((a).length : Int)) ∧ fq 17 = (Value.int .i64 (k20 : Int)) ∧ fq 22 = u42 ∧ fq 23 = (Value.int .i64 ((x38).length : Int)) ∧ fq 24 = Value.int .i64 (k : Int) ∧ InR .i64 (k : Int) ∧ St w wq [(Ty.sl (Ty.sl (Ty.i .i64))).at u12 s]) hres47 ⟨hf30, rfl, hf31, hf32, hf33, rfl, rfl, rfl, (inR_i64.2 (show (-9223372036854775808 : Int) ≤ 0 ∧ (0 : Int) ≤ 9223372036854775807 from by decide)), hS35⟩ ?_ ?_
        · intro k48 x49 ct50 f51 wd52 hk53 hb54 hI55 hbrk56 hret57
          replace hI55 : f51 3 = u12 ∧ f51 4 = (Value.int .i64 (k20 : Int)) ∧ f51 15 = v_a ∧ f51 16 = (Value.int .i64 ((a).length : Int)) ∧ f51 17 = (Value.int .i64 (k20 : Int)) ∧ f51 22 = u42 ∧ f51 23 = (Value.int .i64 ((x38).length : Int)) ∧ f51 24 = Value.int .i64 (k48 : Int) ∧ InR .i64 (k48 : Int) ∧ St w wd52 [(Ty.sl (Ty.sl (Ty.i .i64))).at u12 x49] := hI55
          replace hb54 : p_impl_transpose_L2 x38 k20 k48 x49 = some ct50 := hb54
          unfold p_impl_transpose_L2 at hb54
          obtain ⟨hf58, hf59, hf60, hf61, hf62, hf63, hf64, hf65, hr66, hS67⟩ := hI55
          refine W.seq ?_
          refine W.region ?_
          refine WL.val (Value.bool (decide ((k48 : Int) < ((x38).length : Int)))) _ (op_lss hf65 hf64) rfl ?_
          have hl68 : (k48 : Int) < ((x38).length : Int) := by omega
          refine WL.nil ?_
          show W _ _ _ _ _ _
          refine W.seq ?_
          refine W.condT (decide ((k48 : Int) < ((x38).length : Int))) rfl (decide_eq_true hl68) ?_
          refine W.skip ?_
          show W _ _ _ _ _ _
          refine W.seq ?_
          refine W.block ?_
          refine W.seq ?_
          refine W.region ?_
          refine WL.val (Value.int .i64 (k48 : Int)) _ (op_move hf65) rfl ?_
          obtain ⟨x70, hx73, hb54⟩ := bs hb54
          obtain ⟨ha71, hb72, hx73⟩ := idx_some hx73
          refine WL.val (Value.pointer (some (elA u42 ((k48 : Int)).toNat))) _ (op_idx sl_25 (Ty.lift _ hS67.ext hr44) hf63 hf65 ha71 hb72) rfl ?_
          obtain ⟨u74, hc75, hr76⟩ := repSl.el hr44 hx73
          obtain ⟨rfl, hr76⟩ := hr76
          refine WL.val (Value.int .i64 x70) _ (op_load one_2 rfl (Ext.cell hS67.ext hc75)) rfl ?_
          refine WL.val (Value.int .i64 (k48 : Int)) _ (op_assign rfl) rfl ?_
          refine WL.val (Value.int .i64 x70) _ (op_assign rfl) rfl ?_
          refine WL.nil ?_
          show W _ _ _ _ _ _
          refine W.region ?_
          refine WL.val u12 _ (op_move hf58) rfl ?_
          refine WL.val (Value.int .i64 (k48 : Int)) _ (op_move rfl) rfl ?_
          obtain ⟨x77, hx80, hb54⟩ := bs hb54
          obtain ⟨ha78, hb79, hx80⟩ := idx_some hx80
          refine WL.val (Value.pointer (some (elA u12 ((k48 : Int)).toNat))) _ (op_idx sl_65 (St.rep (t := (Ty.sl (Ty.sl (Ty.i .i64)))) hS67 0 rfl) rfl rfl ha78 hb79) rfl ?_
          obtain ⟨u81, hc82, hr83⟩ := repSl.el (St.rep (t := (Ty.sl (Ty.sl (Ty.i .i64)))) hS67 0 rfl) hx80
          refine WL.val u81 _ (op_load one_25 rfl hc82) rfl ?_
          refine WL.val (Value.int .i64 (k20 : Int)) _ (op_move hf59) rfl ?_
          refine WL.val (Value.int .i64 x70) _ (op_move rfl) rfl ?_
          obtain ⟨x84, hx87, hb54⟩ := bs hb54
          obtain ⟨ha85, hb86, hx87⟩ := idx_some hx87
          refine WL.val (Value.pointer (some (elA u81 ((k20 : Int)).toNat))) _ (op_idx sl_25 hr83 rfl rfl ha85 hb86) rfl ?_
          refine WL.storeEl2 (flat_i .i64) hS67 (k := 0) rfl sz_2 hx80 hc82 rfl rfl (lt_of_idx ha85 hb86) ⟨rfl, hr76⟩ ?_
          intro wd88 hS89
          replace hS89 : St w wd88 [(Ty.sl (Ty.sl (Ty.i .i64))).at u12 ((x49).set ((k48 : Int)).toNat ((x77).set ((k20 : Int)).toNat x70))] := hS89
          refine WL.nil ?_
          show W _ _ _ _ _ _
          refine W.region ?_
          refine WL.val (Value.int .i64 (w64 ((k48 : Int) + (1 : Int)))) _ (op_add hf65 rfl) rfl ?_
          refine WL.val (Value.int .i64 (w64 ((k48 : Int) + (1 : Int)))) _ (op_move rfl) rfl ?_
          refine WL.nil ?_
          obtain rfl := Option.some.inj hb54
          show ∃ s, _ = Ctl.next s ∧ _
          exact ⟨_, rfl, hf58, hf59, hf60, hf61, hf62, hf63, hf64, (ctr_next hl68 hr45), (ctr_rng hl68 hr45), hS89⟩
        · intro x96 f91 wd92 hs93 hI94
          replace hI94 : f91 3 = u12 ∧ f91 4 = (Value.int .i64 (k20 : Int)) ∧ f91 15 = v_a ∧ f91 16 = (Value.int .i64 ((a).length : Int)) ∧ f91 17 = (Value.int .i64 (k20 : Int)) ∧ f91 22 = u42 ∧ f91 23 = (Value.int .i64 ((x38).length : Int)) ∧ f91 24 = Value.int .i64 (((x38).length : Nat) : Int) ∧ InR .i64 (((x38).length : Nat) : Int) ∧ St w wd92 [(Ty.sl (Ty.sl (Ty.i .i64))).at u12 x96] := hI94
          obtain ⟨hf97, hf98, hf99, hf100, hf101, hf102, hf103, hf104, hr105, hS106⟩ := hI94
          refine W.seq ?_
          refine W.region ?_
          refine WL.val (Value.bool (decide ((((x38).length : Nat) : Int) < ((x38).length : Int)))) _ (op_lss hf104 hf103) rfl ?_
          have hl107 : ¬ (((x38).length : Nat) : Int) < ((x38).length : Int) := by omega
          refine WL.nil ?_
          show W _ _ _ _ _ _
          refine W.seq ?_
          refine W.condF (decide ((((x38).length : Nat) : Int) < ((x38).length : Int))) rfl (decide_eq_false hl107) ?_
          refine W.exit ?_
          show _ = _ ∧ _
          exact ⟨rfl, _, hs93, hf97, hf99, hf100, hf101, hS106⟩
      · rintro f108 wd109 ⟨x112, rfl, hq110⟩
        replace hb26 := onRes_fin hb26
        replace hq110 : f108 3 = u12 ∧ f108 15 = v_a ∧ f108 16 = (Value.int .i64 ((a).length : Int)) ∧ f108 17 = (Value.int .i64 (k20 : Int)) ∧ St w wd109 [(Ty.sl (Ty.sl (Ty.i .i64))).at u12 x112] := hq110
        obtain ⟨hf113, hf114, hf115, hf116, hS117⟩ := hq110
        show W _ _ _ _ _ _
        refine W.region ?_
        refine WL.val (Value.int .i64 (w64 ((k20 : Int) + (1 : Int)))) _ (op_add hf116 rfl) rfl ?_
        refine WL.val (Value.int .i64 (w64 ((k20 : Int) + (1 : Int)))) _ (op_move rfl) rfl ?_
        refine WL.nil ?_
        obtain rfl := Option.some.inj hb26
        show ∃ s, _ = Ctl.next s ∧ _
        exact ⟨_, rfl, hf113, hf114, hf115, (ctr_next hl36 hr17), (ctr_rng hl36 hr17), hS117⟩
    · intro x125 f120 wd121 hs122 hI123
      replace hI123 : f120 3 = u12 ∧ f120 15 = v_a ∧ f120 16 = (Value.int .i64 ((a).length : Int)) ∧ f120 17 = Value.int .i64 (((a).length : Nat) : Int) ∧ InR .i64 (((a).length : Nat) : Int) ∧ St w wd121 [(Ty.sl (Ty.sl (Ty.i .i64))).at u12 x125] := hI123
      obtain ⟨hf126, hf127, hf128, hf129, hr130, hS131⟩ := hI123
      refine W.seq ?_
      refine W.region ?_
      refine WL.val (Value.bool (decide ((((a).length : Nat) : Int) < ((a).length : Int)))) _ (op_lss hf129 hf128) rfl ?_
      have hl132 : ¬ (((a).length : Nat) : Int) < ((a).length : Int) := by omega
      refine WL.nil ?_
      show W _ _ _ _ _ _
      refine W.seq ?_
      refine W.condF (decide ((((a).length : Nat) : Int) < ((a).length : Int))) rfl (decide_eq_false hl132) ?_
      refine W.exit ?_
      show _ = _ ∧ _
      exact ⟨rfl, _, hs122, hf126, hS131⟩
  · rintro f133 wd134 ⟨x137, rfl, hq135⟩
    replace h := onRes_fin h
    replace hq135 : f133 3 = u12 ∧ St w wd134 [(Ty.sl (Ty.sl (Ty.i .i64))).at u12 x137] := hq135
    obtain ⟨hf138, hS139⟩ := hq135
    show W _ _ _ _ _ _
    refine W.seq ?_
    refine W.region ?_
    refine WL.val u12 _ (op_move hf138) rfl ?_
    refine WL.val u12 _ (op_assign rfl) rfl ?_
    refine WL.nil ?_
    show W _ _ _ _ _ _
    refine W.ret ?_
    obtain rfl := Option.some.inj h
    show FinP _ _ _ _ _ _ _
    exact FinP.ret _ (res1 rfl rfl) ⟨u12, rfl, hS139.ext, (St.out (St.pick hS139 [0] rfl) (Ext.refl _))⟩

theorem c_laws_eqAction {w : World} {a_Matrices : (List (List (List Int)))} {v_a_Matrices : Value} {b_Matrices : (List (List (List Int)))} {v_b_Matrices : Value} (r_a_Matrices : (Ty.sl (Ty.sl (Ty.sl (Ty.i .i64)))).rep w v_a_Matrices a_Matrices) (r_b_Matrices : (Ty.sl (Ty.sl (Ty.sl (Ty.i .i64)))).rep w v_b_Matrices b_Matrices) {res : Bool} (h : p_laws_eqAction a_Matrices b_Matrices  = some res) :
    Ret Try.prog 22 #[(Value.agg #[v_a_Matrices]), (Value.agg #[v_b_Matrices])] w (fun v w' => v = Value.bool res ∧ Ext w w') := by
  unfold p_laws_eqAction at h
  have hS0 : St w w [] := St.start w
  refine Ret.start (fn := Try.f22) Try.func22 rfl 11 rfl rfl ?_
  refine W.seq ?_
  refine W.region ?_
  refine WL.box hS0 rfl (cs := [v_a_Matrices]) rfl rfl ?_
  intro b1 wd2 hS3 he4 hx5
  replace hS3 : St w wd2 [bx b1 [v_a_Matrices]] := hS3
  have hx6 := St.boxAt hS3 0 rfl
  have hE7 : Ext w wd2 := hS3.ext
  have hS8 : St wd2 wd2 [] := St.start wd2
  refine WL.box hS8 rfl (cs := [v_b_Matrices]) rfl rfl ?_
  intro b9 wd10 hS11 he12 hx13
  replace hS11 : St wd2 wd10 [bx b9 [v_b_Matrices]] := hS11
  have hx14 := St.boxAt hS11 0 rfl
  have hE15 : Ext w wd10 := (Ext.trans hE7 hS11.ext)
  have hE16 : Ext wd2 wd10 := hS11.ext
  have hS17 : St wd10 wd10 [] := St.start wd10
  refine WL.val (Value.bool false) _ (op_assign rfl) rfl ?_
  refine WL.nil ?_
  show W _ _ _ _ _ _
  refine W.seq ?_
  refine W.seq ?_
  refine W.region ?_
  refine WL.val (Value.pointer (some ⟨b1, 0, none⟩)) _ (op_fieldAddr fd_42_0 rfl) rfl ?_
  refine WL.val v_a_Matrices _ (op_load one_22 rfl (BoxAt.cell (BoxAt.lift (Ext.trans hE16 hS17.ext) hx6) rfl)) rfl ?_
  refine WL.val (Value.pointer (some ⟨b9, 0, none⟩)) _ (op_fieldAddr fd_42_0 rfl) rfl ?_
  refine WL.val v_b_Matrices _ (op_load one_22 rfl (BoxAt.cell (BoxAt.lift hS17.ext hx14) rfl)) rfl ?_
  obtain ⟨x18, hx19, h⟩ := bs h
  refine WL.call _ (op_call fn_41 (args2 rfl rfl)) (c_laws_eqInt64SSS (Ty.lift _ (Ext.trans hE15 hS17.ext) r_a_Matrices) (Ty.lift _ (Ext.trans hE15 hS17.ext) r_b_Matrices) hx19) rfl ?_
  rintro _ wd20 ⟨rfl, he21⟩
  have hS23 := St.extend hS17 he21
  replace hS23 : St wd10 wd20 [] := hS23
  refine WL.val (Value.bool (!x18)) _ (op_not rfl) rfl ?_
  refine WL.nil ?_
  show W _ _ _ _ _ _
  refine W.cond (!x18) rfl (fun hc24 => ?_) (fun hc24 => ?_)
  · replace h := ip h hc24
    refine W.seq ?_
    refine W.region ?_
    refine WL.val (Value.bool false) _ (op_assign rfl) rfl ?_
    refine WL.nil ?_
    show W _ _ _ _ _ _
    refine W.ret ?_
    obtain rfl := Option.some.inj h
    show FinP _ _ _ _ _ _ _
    exact FinP.ret _ (res1 rfl rfl) ⟨rfl, (Ext.trans hE15 hS23.ext)⟩
  · replace h := inegb h hc24
    refine W.skip ?_
    show W _ _ _ _ _ _
    refine W.seq ?_
    refine W.region ?_
    refine WL.val (Value.bool true) _ (op_assign rfl) rfl ?_
    refine WL.nil ?_
    show W _ _ _ _ _ _
    refine W.ret ?_
    obtain rfl := Option.some.inj h
    show FinP _ _ _ _ _ _ _
    exact FinP.ret _ (res1 rfl rfl) ⟨rfl, (Ext.trans hE15 hS23.ext)⟩

theorem c_spec_l09Regular {w : World} {r_Table : (List (List (List Int)))} {v_r_Table : Value} (r_r_Table : (Ty.sl (Ty.sl (Ty.sl (Ty.i .i64)))).rep w v_r_Table r_Table) {res : (List (List (List Int)))} (h : p_spec_l09Regular r_Table  = some res) :
    Ret Try.prog 61 #[(Value.agg #[v_r_Table])] w (fun v w' => ∃ (u0 : Value), v = (Value.agg #[u0]) ∧ Ext w w' ∧ Sep w.heap.size w' [(Ty.sl (Ty.sl (Ty.sl (Ty.i .i64)))).at u0 res]) := by
  unfold p_spec_l09Regular at h
  have hS0 : St w w [] := St.start w
  refine Ret.start (fn := Try.f61) Try.func61 rfl 25 rfl rfl ?_
  refine W.seq ?_
  refine W.region ?_
  refine WL.box hS0 rfl (cs := [v_r_Table]) rfl rfl ?_
  intro b1 wd2 hS3 he4 hx5
  replace hS3 : St w wd2 [bx b1 [v_r_Table]] := hS3
  have hx6 := St.boxAt hS3 0 rfl
  have hE7 : Ext w wd2 := hS3.ext
  have hS8 : St wd2 wd2 [] := St.start wd2
  refine WL.alloc hS8 ze_42 (cs := [(Value.slice none 0 0)]) rfl rfl ?_
  intro b9 wd10 hS11 he12
  replace hS11 : St wd2 wd10 [bx b9 [(Value.slice none 0 0)]] := hS11
  refine WL.nil ?_
  show W _ _ _ _ _ _
  refine W.seq ?_
  refine W.region ?_
  refine WL.val (Value.agg #[(Value.slice none 0 0)]) _ (op_build bd_42 (parts := []) (partsL trivial) trivial rfl) rfl ?_
  refine WL.alloc hS11 ze_42 (cs := [(Value.slice none 0 0)]) rfl rfl ?_
  intro b13 wd14 hS15 he16
  replace hS15 : St wd2 wd14 [bx b9 [(Value.slice none 0 0)], bx b13 [(Value.slice none 0 0)]] := hS15
  have hS19 := St.addNil (Ty.sl (Ty.sl (Ty.i .i64))) hS15
  replace hS19 : St wd2 wd14 [bx b9 [(Value.slice none 0 0)], bx b13 [(Value.slice none 0 0)], (Ty.sl (Ty.sl (Ty.sl (Ty.i .i64)))).at (Value.slice none 0 0) ([] : (List (List (List Int))))] := hS19
  refine WL.storeBox [(Value.slice none 0 0)] hS19 (k := 1) rfl rfl rfl (us := [(Value.slice none 0 0)]) rfl sz_42 rfl rfl (all_rep (St.rep (t := (Ty.sl (Ty.sl (Ty.sl (Ty.i .i64))))) hS19 2 rfl) all_nil) rfl ?_
  intro wd17 hS18
  replace hS18 : St wd2 wd17 [bx b9 [(Value.slice none 0 0)], bx b13 [(Value.slice none 0 0)], (Ty.sl (Ty.sl (Ty.sl (Ty.i .i64)))).at (Value.slice none 0 0) ([] : (List (List (List Int))))] := hS18
  refine WL.nil ?_
  show W _ _ _ _ _ _
  refine W.seq ?_
  refine W.seq ?_
  refine W.region ?_
  refine WL.val (Value.int .i64 (0 : Int)) _ (op_assign rfl) rfl ?_
  refine WL.nil ?_
  show W _ _ _ _ _ _
  obtain ⟨res20, hres21, h⟩ := bs h
  refine W.blockLoop (fun fq wq => ∃ s, res20 = Res.fin s ∧ ∃ (uu0 : Value), fq 2 = (Value.pointer (some ⟨b9, 0, none⟩)) ∧ fq 3 = (Value.pointer (some ⟨b13, 0, none⟩)) ∧ St wd2 wq [bx b9 [(Value.slice none 0 0)], bx b13 [uu0], (Ty.sl (Ty.sl (Ty.sl (Ty.i .i64)))).at uu0 s]) ?_ ?_
  · refine W.forN (fun k (s : (List (List (List Int)))) fq wq => ∃ (uu0 : Value), fq 1 = (Value.pointer (some ⟨b1, 0, none⟩)) ∧ fq 2 = (Value.pointer (some ⟨b9, 0, none⟩)) ∧ fq 3 = (Value.pointer (some ⟨b13, 0, none⟩)) ∧ fq 4 = Value.int .i64 (k : Int) ∧ InR .i64 (k : Int) ∧ St wd2 wq [bx b9 [(Value.slice none 0 0)], bx b13 [uu0], (Ty.sl (Ty.sl (Ty.sl (Ty.i .i64)))).at uu0 s]) hres21 ⟨(Value.slice none 0 0), rfl, rfl, rfl, rfl, (inR_i64.2 (show (-9223372036854775808 : Int) ≤ 0 ∧ (0 : Int) ≤ 9223372036854775807 from by decide)), hS18⟩ ?_ ?_
    · intro k22 x23 ct24 f25 wd26 hk27 hb28 hI29 hbrk30 hret31
      replace hI29 : ∃ (uu0 : Value), f25 1 = (Value.pointer (some ⟨b1, 0, none⟩)) ∧ f25 2 = (Value.pointer (some ⟨b9, 0, none⟩)) ∧ f25 3 = (Value.pointer (some ⟨b13, 0, none⟩)) ∧ f25 4 = Value.int .i64 (k22 : Int) ∧ InR .i64 (k22 : Int) ∧ St wd2 wd26 [bx b9 [(Value.slice none 0 0)], bx b13 [uu0], (Ty.sl (Ty.sl (Ty.sl (Ty.i .i64)))).at uu0 x23] := hI29
      replace hb28 : p_spec_l09Regular_L1 r_Table k22 x23 = some ct24 := hb28
      unfold p_spec_l09Regular_L1 at hb28
      obtain ⟨u32, hf33, hf34, hf35, hf36, hr37, hS38⟩ := hI29
      refine W.seq ?_
      refine W.seq ?_
      refine W.region ?_
      refine WL.val (Value.int .i64 (k22 : Int)) _ (op_move hf36) rfl ?_
      refine WL.val (Value.pointer (some ⟨b1, 0, none⟩)) _ (op_fieldAddr fd_29_0 hf33) rfl ?_
      refine WL.val v_r_Table _ (op_load one_22 rfl (BoxAt.cell (BoxAt.lift hS38.ext hx6) rfl)) rfl ?_
      have hr39 := inR_len (Ty.lift _ (Ext.trans hE7 hS38.ext) r_r_Table)
      refine WL.val (Value.int .i64 ((r_Table).length : Int)) _ (op_lenL sl_22 (Ty.lift _ (Ext.trans hE7 hS38.ext) r_r_Table) rfl) rfl ?_
      refine WL.val (Value.bool (decide ((k22 : Int) < ((r_Table).length : Int)))) _ (op_lss rfl rfl) rfl ?_
      have hl40 : (k22 : Int) < ((r_Table).length : Int) := by omega
      refine WL.nil ?_
      show W _ _ _ _ _ _
      refine W.condT (decide ((k22 : Int) < ((r_Table).length : Int))) rfl (decide_eq_true hl40) ?_
      refine W.skip ?_
      show W _ _ _ _ _ _
      refine W.seq ?_
      refine W.block ?_
      obtain ⟨x98, hx101, hb28⟩ := bs hb28
      obtain ⟨ha99, hb100, hx101⟩ := idx_some hx101
      obtain ⟨u112, hc113, hr114⟩ := repSl.el r_r_Table hx101
      obtain ⟨x125, hx126, hb28⟩ := bs hb28
      refine W.drawR mixo 9 [] [fun _ v _ _ => v = (Value.pointer (some ⟨b13, 0, none⟩)), fun _ v _ _ => v = u32, fun _ v _ _ => v = (Value.pointer (some ⟨b1, 0, none⟩)), fun _ v _ _ => v = v_r_Table, fun _ v _ _ => v = (Value.int .i64 (k22 : Int)) ∧ InR .i64 (k22 : Int), fun _ v _ _ => v = (Value.pointer (some (elA v_r_Table ((k22 : Int)).toNat))), fun _ v _ _ => v = u112, fun _ v S w' => SepS S w' [(Ty.sl (Ty.sl (Ty.i .i64))).at v x125], fun f v S w' => ∃ b : Nat, v = Value.slice (some ⟨b, 0, none⟩) 1 1 ∧ SepS S w' [bx b [f 20]]] (by kernel_rfl) (by kernel_rfl) ⟨⟨fun _ _ _ _ _ _ h => h, fun _ _ _ _ _ _ h => h⟩, ⟨fun _ _ _ _ _ _ h => h, fun _ _ _ _ _ _ h => h⟩, ⟨fun _ _ _ _ _ _ h => h, fun _ _ _ _ _ _ h => h⟩, ⟨fun _ _ _ _ _ _ h => h, fun _ _ _ _ _ _ h => h⟩, ⟨fun _ _ _ _ _ _ h => h, fun _ _ _ _ _ _ h => h⟩, ⟨fun _ _ _ _ _ _ h => h, fun _ _ _ _ _ _ h => h⟩, ⟨fun _ _ _ _ _ _ h => h, fun _ _ _ _ _ _ h => h⟩, ⟨fun _ _ _ _ _ he h => SepS.extend he h, fun _ _ _ _ _ _ h => h⟩, ⟨fun _ _ _ _ _ he ⟨b, h1, h2⟩ => ⟨b, h1, SepS.extend he h2⟩, fun f f2 _ _ _ hf ⟨b, h1, h2⟩ => ⟨b, h1, by rw [← hf 7 20 rfl rfl]; exact h2⟩⟩, trivial⟩ ⟨?_, ?_, ?_, ?_, ?_, ?_, ?_, ?_, ?_, trivial⟩ ?_
      · refine ObX.op rfl ?_
        intro f42 wd43 he44 hout45 hphi46
        have hS47 : St wd2 wd43 [bx b9 [(Value.slice none 0 0)], bx b13 [u32], (Ty.sl (Ty.sl (Ty.sl (Ty.i .i64)))).at u32 x23] := St.extend hS38 he44
        have e48 : f42 3 = (Value.pointer (some ⟨b13, 0, none⟩)) := (hout45 3 rfl).trans hf35
        exact OpX.val (Value.pointer (some ⟨b13, 0, none⟩)) wd43 rfl (op_fieldAddr fd_42_0 e48) (Ext.refl _) rfl
      · refine ObX.op rfl ?_
        intro f49 wd50 he51 hout52 hphi53
        have hS54 : St wd2 wd50 [bx b9 [(Value.slice none 0 0)], bx b13 [u32], (Ty.sl (Ty.sl (Ty.sl (Ty.i .i64)))).at u32 x23] := St.extend hS38 he51
        obtain ⟨S55, hS56, hf57⟩ := hphi53 0 13 _ rfl rfl rfl
        have e58 : f49 13 = (Value.pointer (some ⟨b13, 0, none⟩)) := hf57
        exact OpX.val u32 wd50 rfl (op_load one_22 e58 (BoxAt.cell (St.boxAt hS54 1 rfl) rfl)) (Ext.refl _) rfl
      · refine ObX.op rfl ?_
        intro f59 wd60 he61 hout62 hphi63
        have hS64 : St wd2 wd60 [bx b9 [(Value.slice none 0 0)], bx b13 [u32], (Ty.sl (Ty.sl (Ty.sl (Ty.i .i64)))).at u32 x23] := St.extend hS38 he61
        have e65 : f59 1 = (Value.pointer (some ⟨b1, 0, none⟩)) := (hout62 1 rfl).trans hf33
        exact OpX.val (Value.pointer (some ⟨b1, 0, none⟩)) wd60 rfl (op_fieldAddr fd_29_0 e65) (Ext.refl _) rfl
      · refine ObX.op rfl ?_
        intro f66 wd67 he68 hout69 hphi70
        have hS71 : St wd2 wd67 [bx b9 [(Value.slice none 0 0)], bx b13 [u32], (Ty.sl (Ty.sl (Ty.sl (Ty.i .i64)))).at u32 x23] := St.extend hS38 he68
        obtain ⟨S72, hS73, hf74⟩ := hphi70 2 15 _ rfl rfl rfl
        have e75 : f66 15 = (Value.pointer (some ⟨b1, 0, none⟩)) := hf74
        exact OpX.val v_r_Table wd67 rfl (op_load one_22 e75 (BoxAt.cell (BoxAt.lift hS71.ext hx6) rfl)) (Ext.refl _) rfl
      · refine ObX.op rfl ?_
        intro f76 wd77 he78 hout79 hphi80
        have hS81 : St wd2 wd77 [bx b9 [(Value.slice none 0 0)], bx b13 [u32], (Ty.sl (Ty.sl (Ty.sl (Ty.i .i64)))).at u32 x23] := St.extend hS38 he78
        have e82 : f76 4 = (Value.int .i64 (k22 : Int)) := (hout79 4 rfl).trans hf36
        exact OpX.val (Value.int .i64 (k22 : Int)) wd77 rfl (op_move e82) (Ext.refl _) ⟨rfl, hr37⟩
      · refine ObX.op rfl ?_
        intro f83 wd84 he85 hout86 hphi87
        have hS88 : St wd2 wd84 [bx b9 [(Value.slice none 0 0)], bx b13 [u32], (Ty.sl (Ty.sl (Ty.sl (Ty.i .i64)))).at u32 x23] := St.extend hS38 he85
        obtain ⟨S89, hS90, hf91⟩ := hphi87 3 16 _ rfl rfl rfl
        have e92 : f83 16 = v_r_Table := hf91
        obtain ⟨S93, hS94, hf95⟩ := hphi87 4 17 _ rfl rfl rfl
        obtain ⟨e96, hr97⟩ : f83 17 = (Value.int .i64 (k22 : Int)) ∧ InR .i64 (k22 : Int) := hf95
        exact OpX.val (Value.pointer (some (elA v_r_Table ((k22 : Int)).toNat))) wd84 rfl (op_idx sl_22 (Ty.lift _ (Ext.trans hE7 hS88.ext) r_r_Table) e92 e96 ha99 hb100) (Ext.refl _) rfl
      · refine ObX.op rfl ?_
        intro f102 wd103 he104 hout105 hphi106
        have hS107 : St wd2 wd103 [bx b9 [(Value.slice none 0 0)], bx b13 [u32], (Ty.sl (Ty.sl (Ty.sl (Ty.i .i64)))).at u32 x23] := St.extend hS38 he104
        obtain ⟨S108, hS109, hf110⟩ := hphi106 5 18 _ rfl rfl rfl
        have e111 : f102 18 = (Value.pointer (some (elA v_r_Table ((k22 : Int)).toNat))) := hf110
        exact OpX.val u112 wd103 rfl (op_load one_65 e111 (Ext.cell (Ext.trans hE7 hS107.ext) hc113)) (Ext.refl _) rfl
      · refine ObX.op rfl ?_
        intro f115 wd116 he117 hout118 hphi119
        have hS120 : St wd2 wd116 [bx b9 [(Value.slice none 0 0)], bx b13 [u32], (Ty.sl (Ty.sl (Ty.sl (Ty.i .i64)))).at u32 x23] := St.extend hS38 he117
        obtain ⟨S121, hS122, hf123⟩ := hphi119 6 19 _ rfl rfl rfl
        have e124 : f115 19 = u112 := hf123
        refine OpX.call rfl (op_call fn_50 (args1 e124)) (Ret.mono (c_spec_l02Turn (Ty.lift _ (Ext.trans hE7 hS120.ext) hr114) hx126) ?_)
        rintro u127 wd128 ⟨_, rfl, he129, hs130⟩
        exact ⟨he129, _, newS _ _, (Sep.new hs130)⟩
      · refine ObX.op rfl ?_
        intro f131 wd132 he133 hout134 hphi135
        have hS136 : St wd2 wd132 [bx b9 [(Value.slice none 0 0)], bx b13 [u32], (Ty.sl (Ty.sl (Ty.sl (Ty.i .i64)))).at u32 x23] := St.extend hS38 he133
        obtain ⟨S137, hS138, hf139⟩ := hphi135 7 20 _ rfl rfl rfl
        have e140 : SepS S137 wd132 [(Ty.sl (Ty.sl (Ty.i .i64))).at (f131 20) x125] := hf139
        exact OpX.valO _ _ rfl (mk_lit (us := [(f131 20)]) sl_22 rfl (by decide) (fillL rfl ⟨rfl, rfl, (cells_rep (SepS.rep (t := (Ty.sl (Ty.sl (Ty.i .i64)))) e140 0 rfl)), trivial⟩) rfl) (Ext.alloc _ _) ⟨_, rfl, Sep.new (sep_box _ [(f131 20)] _)⟩
      · intro f141 wd142 Ss143 he144 hout145 hSn146 hSd147 hphi148
        show WL _ _ _ _ _ _ _
        have hS149 : St wd2 wd142 [bx b9 [(Value.slice none 0 0)], bx b13 [u32], (Ty.sl (Ty.sl (Ty.sl (Ty.i .i64)))).at u32 x23] := St.extend hS38 he144
        have e150 : f141 14 = u32 := hphi148 1 14 _ (by decide) rfl rfl
        have e151 : SepS (Ss143 7) wd142 [(Ty.sl (Ty.sl (Ty.i .i64))).at (f141 20) x125] := hphi148 7 20 _ (by decide) rfl rfl
        obtain ⟨b153, e152, e152s⟩ : ∃ b : Nat, f141 21 = Value.slice (some ⟨b, 0, none⟩) 1 1 ∧ SepS (Ss143 8) wd142 [bx b [f141 20]] := hphi148 8 21 _ (by decide) rfl rfl
        have e154 : f141 1 = (Value.pointer (some ⟨b1, 0, none⟩)) := (hout145 1 rfl).trans hf33
        have e155 : f141 2 = (Value.pointer (some ⟨b9, 0, none⟩)) := (hout145 2 rfl).trans hf34
        have e156 : f141 3 = (Value.pointer (some ⟨b13, 0, none⟩)) := (hout145 3 rfl).trans hf35
        have e157 : f141 4 = (Value.int .i64 (k22 : Int)) := (hout145 4 rfl).trans hf36
        have hS158 := St.joinS hS38 he144 hSn146 (SepS.consS hSd147 rfl e151 (SepS.consS hSd147 rfl e152s SepS.nilS))
        replace hS158 : St wd2 wd142 [bx b9 [(Value.slice none 0 0)], bx b13 [u32], (Ty.sl (Ty.sl (Ty.sl (Ty.i .i64)))).at u32 x23, (Ty.sl (Ty.sl (Ty.i .i64))).at (f141 20) x125, bx b153 [(f141 20)]] := hS158
        obtain ⟨x159, hx160, hb28⟩ := bs hb28
        refine WL.appendRow hS158 (k := 2) (k2 := 3) (k3 := 4) rfl rfl rfl rfl sl_22 rfl rfl e150 e152 hx160 rfl ?_
        intro u161 wd162 hS163 hz164
        replace hS163 : St wd2 wd162 [bx b9 [(Value.slice none 0 0)], bx b13 [u32], (Ty.sl (Ty.sl (Ty.sl (Ty.i .i64)))).at u161 x159, emp, bx b153 [(f141 20)]] := hS163
        refine WL.val (Value.pointer (some ⟨b13, 0, none⟩)) _ (op_fieldAddr fd_42_0 e156) rfl ?_
        refine WL.storeBox [u161] hS163 (k := 1) rfl rfl rfl (us := [u161]) (cells_rep (St.rep (t := (Ty.sl (Ty.sl (Ty.sl (Ty.i .i64))))) hS163 2 rfl)) sz_22 rfl rfl (all_rep (St.rep (t := (Ty.sl (Ty.sl (Ty.sl (Ty.i .i64))))) hS163 2 rfl) all_nil) rfl ?_
        intro wd165 hS166
        replace hS166 : St wd2 wd165 [bx b9 [(Value.slice none 0 0)], bx b13 [u161], (Ty.sl (Ty.sl (Ty.sl (Ty.i .i64)))).at u161 x159, emp, bx b153 [(f141 20)]] := hS166
        refine WL.nil ?_
        show W _ _ _ _ _ _
        refine W.region ?_
        refine WL.val (Value.int .i64 (k22 : Int)) _ (op_move e157) rfl ?_
        refine WL.val (Value.int .i64 (w64 ((k22 : Int) + (1 : Int)))) _ (op_add rfl rfl) rfl ?_
        refine WL.val (Value.int .i64 (w64 ((k22 : Int) + (1 : Int)))) _ (op_assign rfl) rfl ?_
        refine WL.nil ?_
        obtain rfl := Option.some.inj hb28
        show ∃ s, _ = Ctl.next s ∧ _
        exact ⟨_, rfl, u161, e154, e155, e156, (ctr_next hl40 hr39), (ctr_rng hl40 hr39), (St.pick hS166 [0, 1, 2] rfl)⟩
    · intro x173 f168 wd169 hs170 hI171
      replace hI171 : ∃ (uu0 : Value), f168 1 = (Value.pointer (some ⟨b1, 0, none⟩)) ∧ f168 2 = (Value.pointer (some ⟨b9, 0, none⟩)) ∧ f168 3 = (Value.pointer (some ⟨b13, 0, none⟩)) ∧ f168 4 = Value.int .i64 (((r_Table).length : Nat) : Int) ∧ InR .i64 (((r_Table).length : Nat) : Int) ∧ St wd2 wd169 [bx b9 [(Value.slice none 0 0)], bx b13 [uu0], (Ty.sl (Ty.sl (Ty.sl (Ty.i .i64)))).at uu0 x173] := hI171
      obtain ⟨u174, hf175, hf176, hf177, hf178, hr179, hS180⟩ := hI171
      refine W.seq ?_
      refine W.seq ?_
      refine W.region ?_
      refine WL.val (Value.int .i64 (((r_Table).length : Nat) : Int)) _ (op_move hf178) rfl ?_
      refine WL.val (Value.pointer (some ⟨b1, 0, none⟩)) _ (op_fieldAddr fd_29_0 hf175) rfl ?_
      refine WL.val v_r_Table _ (op_load one_22 rfl (BoxAt.cell (BoxAt.lift hS180.ext hx6) rfl)) rfl ?_
      have hr181 := inR_len (Ty.lift _ (Ext.trans hE7 hS180.ext) r_r_Table)
      refine WL.val (Value.int .i64 ((r_Table).length : Int)) _ (op_lenL sl_22 (Ty.lift _ (Ext.trans hE7 hS180.ext) r_r_Table) rfl) rfl ?_
      refine WL.val (Value.bool (decide ((((r_Table).length : Nat) : Int) < ((r_Table).length : Int)))) _ (op_lss rfl rfl) rfl ?_
      have hl182 : ¬ (((r_Table).length : Nat) : Int) < ((r_Table).length : Int) := by omega
      refine WL.nil ?_
      show W _ _ _ _ _ _
      refine W.condF (decide ((((r_Table).length : Nat) : Int) < ((r_Table).length : Int))) rfl (decide_eq_false hl182) ?_
      refine W.exit ?_
      show _ = _ ∧ _
      exact ⟨rfl, _, hs170, u174, hf176, hf177, hS180⟩
  · rintro f183 wd184 ⟨x187, rfl, hq185⟩
    replace h := onRes_fin h
    replace hq185 : ∃ (uu0 : Value), f183 2 = (Value.pointer (some ⟨b9, 0, none⟩)) ∧ f183 3 = (Value.pointer (some ⟨b13, 0, none⟩)) ∧ St wd2 wd184 [bx b9 [(Value.slice none 0 0)], bx b13 [uu0], (Ty.sl (Ty.sl (Ty.sl (Ty.i .i64)))).at uu0 x187] := hq185
    obtain ⟨u188, hf189, hf190, hS191⟩ := hq185
    show W _ _ _ _ _ _
    refine W.seq ?_
    refine W.region ?_
    refine WL.val (Value.agg #[u188]) _ (op_loadBox st_42 hf190 (St.boxAt hS191 1 rfl) rfl rfl) rfl ?_
    refine WL.storeBox [u188] hS191 (k := 0) rfl hf189 rfl (us := [u188]) rfl sz_42 rfl rfl (all_rep (St.rep (t := (Ty.sl (Ty.sl (Ty.sl (Ty.i .i64))))) hS191 2 rfl) all_nil) rfl ?_
    intro wd192 hS193
    replace hS193 : St wd2 wd192 [bx b9 [u188], bx b13 [u188], (Ty.sl (Ty.sl (Ty.sl (Ty.i .i64)))).at u188 x187] := hS193
    refine WL.nil ?_
    show W _ _ _ _ _ _
    refine W.ret ?_
    obtain rfl := Option.some.inj h
    show FinP _ _ _ _ _ _ _
    exact FinP.ret _ (resC rfl hf189 st_42 (St.boxAt hS193 0 rfl) rfl) ⟨u188, rfl, (Ext.trans hE7 hS193.ext), (St.out (St.pick hS193 [2] rfl) (hE7))⟩

theorem c_spec_RegularAction {w : World} {r_Table : (List (List (List Int)))} {v_r_Table : Value} (r_r_Table : (Ty.sl (Ty.sl (Ty.sl (Ty.i .i64)))).rep w v_r_Table r_Table) {res : (List (List (List Int))) × Int} (h : p_spec_RegularAction r_Table  = some res) :
    Ret Try.prog 25 #[(Value.agg #[v_r_Table])] w (fun v w' => ∃ (u0 : Value), v = (Value.tuple #[(Value.agg #[u0]), Value.int .i64 res.2]) ∧ InR .i64 res.2 ∧ Ext w w' ∧ Sep w.heap.size w' [(Ty.sl (Ty.sl (Ty.sl (Ty.i .i64)))).at u0 res.1]) := by
  unfold p_spec_RegularAction at h
  have hS0 : St w w [] := St.start w
  refine Ret.start (fn := Try.f25) Try.func25 rfl 10 rfl rfl ?_
  refine W.seq ?_
  refine W.region ?_
  refine WL.box hS0 rfl (cs := [v_r_Table]) rfl rfl ?_
  intro b1 wd2 hS3 he4 hx5
  replace hS3 : St w wd2 [bx b1 [v_r_Table]] := hS3
  have hx6 := St.boxAt hS3 0 rfl
  have hE7 : Ext w wd2 := hS3.ext
  have hS8 : St wd2 wd2 [] := St.start wd2
  refine WL.alloc hS8 ze_42 (cs := [(Value.slice none 0 0)]) rfl rfl ?_
  intro b9 wd10 hS11 he12
  replace hS11 : St wd2 wd10 [bx b9 [(Value.slice none 0 0)]] := hS11
  refine WL.val (Value.int .i64 (0 : Int)) _ (op_assign rfl) rfl ?_
  refine WL.nil ?_
  show W _ _ _ _ _ _
  refine W.seq ?_
  refine W.seq ?_
  refine W.region ?_
  refine WL.val (Value.agg #[v_r_Table]) _ (op_loadBox st_29 rfl (BoxAt.lift hS11.ext hx6) rfl rfl) rfl ?_
  obtain ⟨x13, hx14, h⟩ := bs h
  refine WL.call _ (op_call fn_60 (args1 rfl)) (c_spec_l03Is (Ty.lift _ (Ext.trans hE7 hS11.ext) r_r_Table) hx14) rfl ?_
  rintro _ wd15 ⟨rfl, he16⟩
  have hS18 := St.extend hS11 he16
  replace hS18 : St wd2 wd15 [bx b9 [(Value.slice none 0 0)]] := hS18
  refine WL.val (Value.bool (!x13)) _ (op_not rfl) rfl ?_
  refine WL.nil ?_
  show W _ _ _ _ _ _
  refine W.cond (!x13) rfl (fun hc19 => ?_) (fun hc19 => ?_)
  · replace h := ip h hc19
    refine W.seq ?_
    refine W.region ?_
    refine WL.val (Value.agg #[(Value.slice none 0 0)]) _ (op_build bd_42 (parts := []) (partsL trivial) trivial rfl) rfl ?_
    have hS23 := St.addNil (Ty.sl (Ty.sl (Ty.i .i64))) hS18
    replace hS23 : St wd2 wd15 [bx b9 [(Value.slice none 0 0)], (Ty.sl (Ty.sl (Ty.sl (Ty.i .i64)))).at (Value.slice none 0 0) ([] : (List (List (List Int))))] := hS23
    refine WL.storeBox [(Value.slice none 0 0)] hS23 (k := 0) rfl rfl rfl (us := [(Value.slice none 0 0)]) rfl sz_42 rfl rfl (all_rep (St.rep (t := (Ty.sl (Ty.sl (Ty.sl (Ty.i .i64))))) hS23 1 rfl) all_nil) rfl ?_
    intro wd21 hS22
    replace hS22 : St wd2 wd21 [bx b9 [(Value.slice none 0 0)], (Ty.sl (Ty.sl (Ty.sl (Ty.i .i64)))).at (Value.slice none 0 0) ([] : (List (List (List Int))))] := hS22
    refine WL.val (Value.int .i64 (1 : Int)) _ (op_assign rfl) rfl ?_
    refine WL.nil ?_
    show W _ _ _ _ _ _
    refine W.ret ?_
    obtain rfl := Option.some.inj h
    show FinP _ _ _ _ _ _ _
    exact FinP.ret _ (resCT rfl rfl st_42 (St.boxAt hS22 0 rfl) rfl rfl) ⟨(Value.slice none 0 0), rfl, (inR_i64.2 (show (-9223372036854775808 : Int) ≤ 1 ∧ (1 : Int) ≤ 9223372036854775807 from by decide)), (Ext.trans hE7 hS22.ext), (St.out (St.pick hS22 [1] rfl) (hE7))⟩
  · replace h := inegb h hc19
    refine W.skip ?_
    show W _ _ _ _ _ _
    refine W.seq ?_
    refine W.region ?_
    refine WL.val (Value.agg #[v_r_Table]) _ (op_loadBox st_29 rfl (BoxAt.lift hS18.ext hx6) rfl rfl) rfl ?_
    obtain ⟨x24, hx25, h⟩ := bs h
    refine WL.call _ (op_call fn_61 (args1 rfl)) (c_spec_l09Regular (Ty.lift _ (Ext.trans hE7 hS18.ext) r_r_Table) hx25) rfl ?_
    rintro _ wd27 ⟨u26, rfl, he28, hs29⟩
    have hS30 := St.join hS18 he28 hs29
    replace hS30 : St wd2 wd27 [bx b9 [(Value.slice none 0 0)], (Ty.sl (Ty.sl (Ty.sl (Ty.i .i64)))).at u26 x24] := hS30
    refine WL.storeBox [u26] hS30 (k := 0) rfl rfl rfl (us := [u26]) rfl sz_42 rfl rfl (all_rep (St.rep (t := (Ty.sl (Ty.sl (Ty.sl (Ty.i .i64))))) hS30 1 rfl) all_nil) rfl ?_
    intro wd31 hS32
    replace hS32 : St wd2 wd31 [bx b9 [u26], (Ty.sl (Ty.sl (Ty.sl (Ty.i .i64)))).at u26 x24] := hS32
    refine WL.val (Value.int .i64 (0 : Int)) _ (op_assign rfl) rfl ?_
    refine WL.nil ?_
    show W _ _ _ _ _ _
    refine W.ret ?_
    obtain rfl := Option.some.inj h
    show FinP _ _ _ _ _ _ _
    exact FinP.ret _ (resCT rfl rfl st_42 (St.boxAt hS32 0 rfl) rfl rfl) ⟨u26, rfl, (inR_i64.2 (show (-9223372036854775808 : Int) ≤ 0 ∧ (0 : Int) ≤ 9223372036854775807 from by decide)), (Ext.trans hE7 hS32.ext), (St.out (St.pick hS32 [1] rfl) (hE7))⟩

theorem c_impl_RegularAction {w : World} {r_Table : (List (List (List Int)))} {v_r_Table : Value} (r_r_Table : (Ty.sl (Ty.sl (Ty.sl (Ty.i .i64)))).rep w v_r_Table r_Table) {res : (List (List (List Int))) × Int} (h : p_impl_RegularAction r_Table  = some res) :
    Ret Try.prog 26 #[(Value.agg #[v_r_Table])] w (fun v w' => ∃ (u0 : Value), v = (Value.tuple #[(Value.agg #[u0]), Value.int .i64 res.2]) ∧ InR .i64 res.2 ∧ Ext w w' ∧ Sep w.heap.size w' [(Ty.sl (Ty.sl (Ty.sl (Ty.i .i64)))).at u0 res.1]) := by
  unfold p_impl_RegularAction at h
  have hS0 : St w w [] := St.start w
  refine Ret.start (fn := Try.f26) Try.func26 rfl 28 rfl rfl ?_
  refine W.seq ?_
  refine W.region ?_
  refine WL.box hS0 rfl (cs := [v_r_Table]) rfl rfl ?_
  intro b1 wd2 hS3 he4 hx5
  replace hS3 : St w wd2 [bx b1 [v_r_Table]] := hS3
  have hx6 := St.boxAt hS3 0 rfl
  have hE7 : Ext w wd2 := hS3.ext
  have hS8 : St wd2 wd2 [] := St.start wd2
  refine WL.alloc hS8 ze_42 (cs := [(Value.slice none 0 0)]) rfl rfl ?_
  intro b9 wd10 hS11 he12
  replace hS11 : St wd2 wd10 [bx b9 [(Value.slice none 0 0)]] := hS11
  refine WL.val (Value.int .i64 (0 : Int)) _ (op_assign rfl) rfl ?_
  refine WL.nil ?_
  show W _ _ _ _ _ _
  refine W.seq ?_
  refine W.seq ?_
  refine W.region ?_
  refine WL.val (Value.agg #[v_r_Table]) _ (op_loadBox st_29 rfl (BoxAt.lift hS11.ext hx6) rfl rfl) rfl ?_
  obtain ⟨x13, hx14, h⟩ := bs h
  refine WL.call _ (op_call fn_57 (args1 rfl)) (c_impl_IsRing (Ty.lift _ (Ext.trans hE7 hS11.ext) r_r_Table) hx14) rfl ?_
  rintro _ wd15 ⟨rfl, he16⟩
  have hS18 := St.extend hS11 he16
  replace hS18 : St wd2 wd15 [bx b9 [(Value.slice none 0 0)]] := hS18
  refine WL.val (Value.bool (!x13)) _ (op_not rfl) rfl ?_
  refine WL.nil ?_
  show W _ _ _ _ _ _
  refine W.cond (!x13) rfl (fun hc19 => ?_) (fun hc19 => ?_)
  · replace h := ip h hc19
    refine W.seq ?_
    refine W.region ?_
    refine WL.val (Value.agg #[(Value.slice none 0 0)]) _ (op_build bd_42 (parts := []) (partsL trivial) trivial rfl) rfl ?_
    have hS23 := St.addNil (Ty.sl (Ty.sl (Ty.i .i64))) hS18
    replace hS23 : St wd2 wd15 [bx b9 [(Value.slice none 0 0)], (Ty.sl (Ty.sl (Ty.sl (Ty.i .i64)))).at (Value.slice none 0 0) ([] : (List (List (List Int))))] := hS23
    refine WL.storeBox [(Value.slice none 0 0)] hS23 (k := 0) rfl rfl rfl (us := [(Value.slice none 0 0)]) rfl sz_42 rfl rfl (all_rep (St.rep (t := (Ty.sl (Ty.sl (Ty.sl (Ty.i .i64))))) hS23 1 rfl) all_nil) rfl ?_
    intro wd21 hS22
    replace hS22 : St wd2 wd21 [bx b9 [(Value.slice none 0 0)], (Ty.sl (Ty.sl (Ty.sl (Ty.i .i64)))).at (Value.slice none 0 0) ([] : (List (List (List Int))))] := hS22
    refine WL.val (Value.int .i64 (1 : Int)) _ (op_assign rfl) rfl ?_
    refine WL.nil ?_
    show W _ _ _ _ _ _
    refine W.ret ?_
    obtain rfl := Option.some.inj h
    show FinP _ _ _ _ _ _ _
    exact FinP.ret _ (resCT rfl rfl st_42 (St.boxAt hS22 0 rfl) rfl rfl) ⟨(Value.slice none 0 0), rfl, (inR_i64.2 (show (-9223372036854775808 : Int) ≤ 1 ∧ (1 : Int) ≤ 9223372036854775807 from by decide)), (Ext.trans hE7 hS22.ext), (St.out (St.pick hS22 [1] rfl) (hE7))⟩
  · replace h := inegb h hc19
    refine W.skip ?_
    show W _ _ _ _ _ _
    refine W.seq ?_
    refine W.region ?_
    refine WL.val (Value.agg #[(Value.slice none 0 0)]) _ (op_build bd_42 (parts := []) (partsL trivial) trivial rfl) rfl ?_
    refine WL.alloc hS18 ze_42 (cs := [(Value.slice none 0 0)]) rfl rfl ?_
    intro b24 wd25 hS26 he27
    replace hS26 : St wd2 wd25 [bx b9 [(Value.slice none 0 0)], bx b24 [(Value.slice none 0 0)]] := hS26
    have hS30 := St.addNil (Ty.sl (Ty.sl (Ty.i .i64))) hS26
    replace hS30 : St wd2 wd25 [bx b9 [(Value.slice none 0 0)], bx b24 [(Value.slice none 0 0)], (Ty.sl (Ty.sl (Ty.sl (Ty.i .i64)))).at (Value.slice none 0 0) ([] : (List (List (List Int))))] := hS30
    refine WL.storeBox [(Value.slice none 0 0)] hS30 (k := 1) rfl rfl rfl (us := [(Value.slice none 0 0)]) rfl sz_42 rfl rfl (all_rep (St.rep (t := (Ty.sl (Ty.sl (Ty.sl (Ty.i .i64))))) hS30 2 rfl) all_nil) rfl ?_
    intro wd28 hS29
    replace hS29 : St wd2 wd28 [bx b9 [(Value.slice none 0 0)], bx b24 [(Value.slice none 0 0)], (Ty.sl (Ty.sl (Ty.sl (Ty.i .i64)))).at (Value.slice none 0 0) ([] : (List (List (List Int))))] := hS29
    refine WL.nil ?_
    show W _ _ _ _ _ _
    refine W.seq ?_
    refine W.seq ?_
    refine W.region ?_
    refine WL.val (Value.pointer (some ⟨b1, 0, none⟩)) _ (op_fieldAddr fd_29_0 rfl) rfl ?_
    refine WL.val v_r_Table _ (op_load one_22 rfl (BoxAt.cell (BoxAt.lift hS29.ext hx6) rfl)) rfl ?_
    have hr31 := inR_len (Ty.lift _ (Ext.trans hE7 hS29.ext) r_r_Table)
    refine WL.val (Value.int .i64 ((r_Table).length : Int)) _ (op_lenL sl_22 (Ty.lift _ (Ext.trans hE7 hS29.ext) r_r_Table) rfl) rfl ?_
    refine WL.val (Value.int .i64 (0 : Int)) _ (op_move rfl) rfl ?_
    refine WL.nil ?_
    show W _ _ _ _ _ _
    obtain ⟨res32, hres33, h⟩ := bs h
    refine W.blockLoop (fun fq wq => ∃ s, res32 = Res.fin s ∧ ∃ (uu0 : Value), fq 2 = (Value.pointer (some ⟨b9, 0, none⟩)) ∧ fq 4 = (Value.pointer (some ⟨b24, 0, none⟩)) ∧ St wd2 wq [bx b9 [(Value.slice none 0 0)], bx b24 [uu0], (Ty.sl (Ty.sl (Ty.sl (Ty.i .i64)))).at uu0 s]) ?_ ?_
    · refine W.forN (fun k (s : (List (List (List Int)))) fq wq => ∃ (uu0 : Value), fq 2 = (Value.pointer (some ⟨b9, 0, none⟩)) ∧ fq 4 = (Value.pointer (some ⟨b24, 0, none⟩)) ∧ fq 13 = v_r_Table ∧ fq 14 = (Value.int .i64 ((r_Table).length : Int)) ∧ fq 15 = Value.int .i64 (k : Int) ∧ InR .i64 (k : Int) ∧ St wd2 wq [bx b9 [(Value.slice none 0 0)], bx b24 [uu0], (Ty.sl (Ty.sl (Ty.sl (Ty.i .i64)))).at uu0 s]) hres33 ⟨(Value.slice none 0 0), rfl, rfl, rfl, rfl, rfl, (inR_i64.2 (show (-9223372036854775808 : Int) ≤ 0 ∧ (0 : Int) ≤ 9223372036854775807 from by decide)), hS29⟩ ?_ ?_
      · intro k34 x35 ct36 f37 wd38 hk39 hb40 hI41 hbrk42 hret43
        replace hI41 : ∃ (uu0 : Value), f37 2 = (Value.pointer (some ⟨b9, 0, none⟩)) ∧ f37 4 = (Value.pointer (some ⟨b24, 0, none⟩)) ∧ f37 13 = v_r_Table ∧ f37 14 = (Value.int .i64 ((r_Table).length : Int)) ∧ f37 15 = Value.int .i64 (k34 : Int) ∧ InR .i64 (k34 : Int) ∧ St wd2 wd38 [bx b9 [(Value.slice none 0 0)], bx b24 [uu0], (Ty.sl (Ty.sl (Ty.sl (Ty.i .i64)))).at uu0 x35] := hI41
        replace hb40 : p_impl_RegularAction_L1 r_Table k34 x35 = some ct36 := hb40
        unfold p_impl_RegularAction_L1 at hb40
        obtain ⟨u44, hf45, hf46, hf47, hf48, hf49, hr50, hS51⟩ := hI41
        refine W.seq ?_
        refine W.region ?_
        refine WL.val (Value.bool (decide ((k34 : Int) < ((r_Table).length : Int)))) _ (op_lss hf49 hf48) rfl ?_
        have hl52 : (k34 : Int) < ((r_Table).length : Int) := by omega
        refine WL.nil ?_
        show W _ _ _ _ _ _
        refine W.seq ?_
        refine W.condT (decide ((k34 : Int) < ((r_Table).length : Int))) rfl (decide_eq_true hl52) ?_
        refine W.skip ?_
        show W _ _ _ _ _ _
        refine W.seq ?_
        refine W.block ?_
        refine W.seq ?_
        refine W.region ?_
        obtain ⟨x54, hx57, hb40⟩ := bs hb40
        obtain ⟨ha55, hb56, hx57⟩ := idx_some hx57
        refine WL.val (Value.pointer (some (elA v_r_Table ((k34 : Int)).toNat))) _ (op_idx sl_22 (Ty.lift _ (Ext.trans hE7 hS51.ext) r_r_Table) hf47 hf49 ha55 hb56) rfl ?_
        obtain ⟨u58, hc59, hr60⟩ := repSl.el r_r_Table hx57
        refine WL.val u58 _ (op_load one_65 rfl (Ext.cell (Ext.trans hE7 hS51.ext) hc59)) rfl ?_
        refine WL.val u58 _ (op_assign rfl) rfl ?_
        refine WL.nil ?_
        show W _ _ _ _ _ _
        obtain ⟨x95, hx96, hb40⟩ := bs hb40
        refine W.drawR mixo 5 [] [fun _ v _ _ => v = (Value.pointer (some ⟨b24, 0, none⟩)), fun _ v _ _ => v = u44, fun _ v _ _ => v = u58, fun _ v S w' => SepS S w' [(Ty.sl (Ty.sl (Ty.i .i64))).at v x95], fun f v S w' => ∃ b : Nat, v = Value.slice (some ⟨b, 0, none⟩) 1 1 ∧ SepS S w' [bx b [f 22]]] (by kernel_rfl) (by kernel_rfl) ⟨⟨fun _ _ _ _ _ _ h => h, fun _ _ _ _ _ _ h => h⟩, ⟨fun _ _ _ _ _ _ h => h, fun _ _ _ _ _ _ h => h⟩, ⟨fun _ _ _ _ _ _ h => h, fun _ _ _ _ _ _ h => h⟩, ⟨fun _ _ _ _ _ he h => SepS.extend he h, fun _ _ _ _ _ _ h => h⟩, ⟨fun _ _ _ _ _ he ⟨b, h1, h2⟩ => ⟨b, h1, SepS.extend he h2⟩, fun f f2 _ _ _ hf ⟨b, h1, h2⟩ => ⟨b, h1, by rw [← hf 3 22 rfl rfl]; exact h2⟩⟩, trivial⟩ ⟨?_, ?_, ?_, ?_, ?_, trivial⟩ ?_
        · refine ObX.op rfl ?_
          intro f61 wd62 he63 hout64 hphi65
          have hS66 : St wd2 wd62 [bx b9 [(Value.slice none 0 0)], bx b24 [u44], (Ty.sl (Ty.sl (Ty.sl (Ty.i .i64)))).at u44 x35] := St.extend hS51 he63
          have e67 : f61 4 = (Value.pointer (some ⟨b24, 0, none⟩)) := (hout64 4 rfl).trans hf46
          exact OpX.val (Value.pointer (some ⟨b24, 0, none⟩)) wd62 rfl (op_fieldAddr fd_42_0 e67) (Ext.refl _) rfl
        · refine ObX.op rfl ?_
          intro f68 wd69 he70 hout71 hphi72
          have hS73 : St wd2 wd69 [bx b9 [(Value.slice none 0 0)], bx b24 [u44], (Ty.sl (Ty.sl (Ty.sl (Ty.i .i64)))).at u44 x35] := St.extend hS51 he70
          obtain ⟨S74, hS75, hf76⟩ := hphi72 0 19 _ rfl rfl rfl
          have e77 : f68 19 = (Value.pointer (some ⟨b24, 0, none⟩)) := hf76
          exact OpX.val u44 wd69 rfl (op_load one_22 e77 (BoxAt.cell (St.boxAt hS73 1 rfl) rfl)) (Ext.refl _) rfl
        · refine ObX.op rfl ?_
          intro f78 wd79 he80 hout81 hphi82
          have hS83 : St wd2 wd79 [bx b9 [(Value.slice none 0 0)], bx b24 [u44], (Ty.sl (Ty.sl (Ty.sl (Ty.i .i64)))).at u44 x35] := St.extend hS51 he80
          have e84 : f78 6 = u58 := (hout81 6 rfl).trans rfl
          exact OpX.val u58 wd79 rfl (op_move e84) (Ext.refl _) rfl
        · refine ObX.op rfl ?_
          intro f85 wd86 he87 hout88 hphi89
          have hS90 : St wd2 wd86 [bx b9 [(Value.slice none 0 0)], bx b24 [u44], (Ty.sl (Ty.sl (Ty.sl (Ty.i .i64)))).at u44 x35] := St.extend hS51 he87
          obtain ⟨S91, hS92, hf93⟩ := hphi89 2 21 _ rfl rfl rfl
          have e94 : f85 21 = u58 := hf93
          refine OpX.call rfl (op_call fn_55 (args1 e94)) (Ret.mono (c_impl_transpose (Ty.lift _ (Ext.trans hE7 hS90.ext) hr60) hx96) ?_)
          rintro u97 wd98 ⟨_, rfl, he99, hs100⟩
          exact ⟨he99, _, newS _ _, (Sep.new hs100)⟩
        · refine ObX.op rfl ?_
          intro f101 wd102 he103 hout104 hphi105
          have hS106 : St wd2 wd102 [bx b9 [(Value.slice none 0 0)], bx b24 [u44], (Ty.sl (Ty.sl (Ty.sl (Ty.i .i64)))).at u44 x35] := St.extend hS51 he103
          obtain ⟨S107, hS108, hf109⟩ := hphi105 3 22 _ rfl rfl rfl
          have e110 : SepS S107 wd102 [(Ty.sl (Ty.sl (Ty.i .i64))).at (f101 22) x95] := hf109
          exact OpX.valO _ _ rfl (mk_lit (us := [(f101 22)]) sl_22 rfl (by decide) (fillL rfl ⟨rfl, rfl, (cells_rep (SepS.rep (t := (Ty.sl (Ty.sl (Ty.i .i64)))) e110 0 rfl)), trivial⟩) rfl) (Ext.alloc _ _) ⟨_, rfl, Sep.new (sep_box _ [(f101 22)] _)⟩
        · intro f111 wd112 Ss113 he114 hout115 hSn116 hSd117 hphi118
          show WL _ _ _ _ _ _ _
          have hS119 : St wd2 wd112 [bx b9 [(Value.slice none 0 0)], bx b24 [u44], (Ty.sl (Ty.sl (Ty.sl (Ty.i .i64)))).at u44 x35] := St.extend hS51 he114
          have e120 : f111 20 = u44 := hphi118 1 20 _ (by decide) rfl rfl
          have e121 : SepS (Ss113 3) wd112 [(Ty.sl (Ty.sl (Ty.i .i64))).at (f111 22) x95] := hphi118 3 22 _ (by decide) rfl rfl
          obtain ⟨b123, e122, e122s⟩ : ∃ b : Nat, f111 23 = Value.slice (some ⟨b, 0, none⟩) 1 1 ∧ SepS (Ss113 4) wd112 [bx b [f111 22]] := hphi118 4 23 _ (by decide) rfl rfl
          have e124 : f111 2 = (Value.pointer (some ⟨b9, 0, none⟩)) := (hout115 2 rfl).trans hf45
          have e125 : f111 4 = (Value.pointer (some ⟨b24, 0, none⟩)) := (hout115 4 rfl).trans hf46
          have e126 : f111 13 = v_r_Table := (hout115 13 rfl).trans hf47
          have e127 : f111 14 = (Value.int .i64 ((r_Table).length : Int)) := (hout115 14 rfl).trans hf48
          have e128 : f111 15 = (Value.int .i64 (k34 : Int)) := (hout115 15 rfl).trans hf49
          have hS129 := St.joinS hS51 he114 hSn116 (SepS.consS hSd117 rfl e121 (SepS.consS hSd117 rfl e122s SepS.nilS))
          replace hS129 : St wd2 wd112 [bx b9 [(Value.slice none 0 0)], bx b24 [u44], (Ty.sl (Ty.sl (Ty.sl (Ty.i .i64)))).at u44 x35, (Ty.sl (Ty.sl (Ty.i .i64))).at (f111 22) x95, bx b123 [(f111 22)]] := hS129
          obtain ⟨x130, hx131, hb40⟩ := bs hb40
          refine WL.appendRow hS129 (k := 2) (k2 := 3) (k3 := 4) rfl rfl rfl rfl sl_22 rfl rfl e120 e122 hx131 rfl ?_
          intro u132 wd133 hS134 hz135
          replace hS134 : St wd2 wd133 [bx b9 [(Value.slice none 0 0)], bx b24 [u44], (Ty.sl (Ty.sl (Ty.sl (Ty.i .i64)))).at u132 x130, emp, bx b123 [(f111 22)]] := hS134
          refine WL.val (Value.pointer (some ⟨b24, 0, none⟩)) _ (op_fieldAddr fd_42_0 e125) rfl ?_
          refine WL.storeBox [u132] hS134 (k := 1) rfl rfl rfl (us := [u132]) (cells_rep (St.rep (t := (Ty.sl (Ty.sl (Ty.sl (Ty.i .i64))))) hS134 2 rfl)) sz_22 rfl rfl (all_rep (St.rep (t := (Ty.sl (Ty.sl (Ty.sl (Ty.i .i64))))) hS134 2 rfl) all_nil) rfl ?_
          intro wd136 hS137
          replace hS137 : St wd2 wd136 [bx b9 [(Value.slice none 0 0)], bx b24 [u132], (Ty.sl (Ty.sl (Ty.sl (Ty.i .i64)))).at u132 x130, emp, bx b123 [(f111 22)]] := hS137
          refine WL.nil ?_
          show W _ _ _ _ _ _
          refine W.region ?_
          refine WL.val (Value.int .i64 (w64 ((k34 : Int) + (1 : Int)))) _ (op_add e128 rfl) rfl ?_
          refine WL.val (Value.int .i64 (w64 ((k34 : Int) + (1 : Int)))) _ (op_move rfl) rfl ?_
          refine WL.nil ?_
          obtain rfl := Option.some.inj hb40
          show ∃ s, _ = Ctl.next s ∧ _
          exact ⟨_, rfl, u132, e124, e125, e126, e127, (ctr_next hl52 hr31), (ctr_rng hl52 hr31), (St.pick hS137 [0, 1, 2] rfl)⟩
      · intro x144 f139 wd140 hs141 hI142
        replace hI142 : ∃ (uu0 : Value), f139 2 = (Value.pointer (some ⟨b9, 0, none⟩)) ∧ f139 4 = (Value.pointer (some ⟨b24, 0, none⟩)) ∧ f139 13 = v_r_Table ∧ f139 14 = (Value.int .i64 ((r_Table).length : Int)) ∧ f139 15 = Value.int .i64 (((r_Table).length : Nat) : Int) ∧ InR .i64 (((r_Table).length : Nat) : Int) ∧ St wd2 wd140 [bx b9 [(Value.slice none 0 0)], bx b24 [uu0], (Ty.sl (Ty.sl (Ty.sl (Ty.i .i64)))).at uu0 x144] := hI142
        obtain ⟨u145, hf146, hf147, hf148, hf149, hf150, hr151, hS152⟩ := hI142
        refine W.seq ?_
        refine W.region ?_
        refine WL.val (Value.bool (decide ((((r_Table).length : Nat) : Int) < ((r_Table).length : Int)))) _ (op_lss hf150 hf149) rfl ?_
        have hl153 : ¬ (((r_Table).length : Nat) : Int) < ((r_Table).length : Int) := by omega
        refine WL.nil ?_
        show W _ _ _ _ _ _
        refine W.seq ?_
        refine W.condF (decide ((((r_Table).length : Nat) : Int) < ((r_Table).length : Int))) rfl (decide_eq_false hl153) ?_
        refine W.exit ?_
        show _ = _ ∧ _
        exact ⟨rfl, _, hs141, u145, hf146, hf147, hS152⟩
    · rintro f154 wd155 ⟨x158, rfl, hq156⟩
      replace h := onRes_fin h
      replace hq156 : ∃ (uu0 : Value), f154 2 = (Value.pointer (some ⟨b9, 0, none⟩)) ∧ f154 4 = (Value.pointer (some ⟨b24, 0, none⟩)) ∧ St wd2 wd155 [bx b9 [(Value.slice none 0 0)], bx b24 [uu0], (Ty.sl (Ty.sl (Ty.sl (Ty.i .i64)))).at uu0 x158] := hq156
      obtain ⟨u159, hf160, hf161, hS162⟩ := hq156
      show W _ _ _ _ _ _
      refine W.seq ?_
      refine W.region ?_
      refine WL.val (Value.agg #[u159]) _ (op_loadBox st_42 hf161 (St.boxAt hS162 1 rfl) rfl rfl) rfl ?_
      refine WL.storeBox [u159] hS162 (k := 0) rfl hf160 rfl (us := [u159]) rfl sz_42 rfl rfl (all_rep (St.rep (t := (Ty.sl (Ty.sl (Ty.sl (Ty.i .i64))))) hS162 2 rfl) all_nil) rfl ?_
      intro wd163 hS164
      replace hS164 : St wd2 wd163 [bx b9 [u159], bx b24 [u159], (Ty.sl (Ty.sl (Ty.sl (Ty.i .i64)))).at u159 x158] := hS164
      refine WL.val (Value.int .i64 (0 : Int)) _ (op_assign rfl) rfl ?_
      refine WL.nil ?_
      show W _ _ _ _ _ _
      refine W.ret ?_
      obtain rfl := Option.some.inj h
      show FinP _ _ _ _ _ _ _
      exact FinP.ret _ (resCT rfl hf160 st_42 (St.boxAt hS164 0 rfl) rfl rfl) ⟨u159, rfl, (inR_i64.2 (show (-9223372036854775808 : Int) ≤ 0 ∧ (0 : Int) ≤ 9223372036854775807 from by decide)), (Ext.trans hE7 hS164.ext), (St.out (St.pick hS164 [2] rfl) (hE7))⟩

theorem c_laws_markInt64S {w : World} {a : (List Int)} {v_a : Value} {k1 : Int} {w0 : World} {R : Ent} (hS0 : St w0 w [(Ty.sl (Ty.i .i64)).at v_a a, R]) (r_k1 : InR .i64 k1) {res : Int × (List Int)} (h : p_laws_markInt64S a k1  = some res) :
    Ret Try.prog 32 #[v_a, (Value.int .i64 k1)] w (fun v w' => v = Value.int .i64 res.1 ∧ InR .i64 res.1 ∧ St w0 w' [(Ty.sl (Ty.i .i64)).at v_a res.2, R]) := by
  unfold p_laws_markInt64S at h
  refine Ret.start (fn := Try.f32) Try.func32 rfl 19 rfl rfl ?_
  refine W.seq ?_
  refine W.region ?_
  refine WL.val (Value.int .i64 (0 : Int)) _ (op_assign rfl) rfl ?_
  refine WL.nil ?_
  show W _ _ _ _ _ _
  refine W.seq ?_
  refine W.seq ?_
  refine W.region ?_
  refine WL.val (Value.int .i64 (0 : Int)) _ (op_assign rfl) rfl ?_
  refine WL.nil ?_
  show W _ _ _ _ _ _
  obtain ⟨res1, hres2, h⟩ := bs h
  refine W.blockLoop (fun fq wq => ∃ s, res1 = Res.fin s ∧ fq 1 = Value.int .i64 s.2 ∧ InR .i64 s.2 ∧ (s.1).length = (a).length ∧ St w0 wq [(Ty.sl (Ty.i .i64)).at v_a s.1, R]) ?_ ?_
  · refine W.forN (fun k (s : (List Int) × Int) fq wq => fq 0 = v_a ∧ fq 1 = Value.int .i64 s.2 ∧ InR .i64 s.2 ∧ fq 5 = Value.int .i64 (k : Int) ∧ InR .i64 (k : Int) ∧ (s.1).length = (a).length ∧ St w0 wq [(Ty.sl (Ty.i .i64)).at v_a s.1, R]) hres2 ⟨rfl, rfl, r_k1, rfl, (inR_i64.2 (show (-9223372036854775808 : Int) ≤ 0 ∧ (0 : Int) ≤ 9223372036854775807 from by decide)), rfl, hS0⟩ ?_ ?_
    · intro k3 s30 ct6 f7 wd8 hk9 hb10 hI11 hbrk12 hret13
      obtain ⟨x4, x5⟩ := s30
      replace hI11 : f7 0 = v_a ∧ f7 1 = Value.int .i64 x5 ∧ InR .i64 x5 ∧ f7 5 = Value.int .i64 (k3 : Int) ∧ InR .i64 (k3 : Int) ∧ (x4).length = (a).length ∧ St w0 wd8 [(Ty.sl (Ty.i .i64)).at v_a x4, R] := hI11
      replace hb10 : p_laws_markInt64S_L1  k3 x4 x5 = some ct6 := hb10
      unfold p_laws_markInt64S_L1 at hb10
      obtain ⟨hf14, hf15, hr16, hf17, hr18, hL19, hS20⟩ := hI11
      refine W.seq ?_
      refine W.seq ?_
      refine W.region ?_
      refine WL.val (Value.int .i64 (k3 : Int)) _ (op_move hf17) rfl ?_
      refine WL.val v_a _ (op_move hf14) rfl ?_
      have hr21 := inR_len (St.rep (t := (Ty.sl (Ty.i .i64))) hS20 0 rfl)
      refine WL.val (Value.int .i64 ((x4).length : Int)) _ (op_lenL sl_25 (St.rep (t := (Ty.sl (Ty.i .i64))) hS20 0 rfl) rfl) rfl ?_
      refine WL.val (Value.bool (decide ((k3 : Int) < ((x4).length : Int)))) _ (op_lss rfl rfl) rfl ?_
      have hl22 : (k3 : Int) < ((x4).length : Int) := by omega
      refine WL.nil ?_
      show W _ _ _ _ _ _
      refine W.condT (decide ((k3 : Int) < ((x4).length : Int))) rfl (decide_eq_true hl22) ?_
      refine W.skip ?_
      show W _ _ _ _ _ _
      refine W.seq ?_
      refine W.block ?_
      refine W.seq ?_
      refine W.region ?_
      refine WL.val v_a _ (op_move hf14) rfl ?_
      refine WL.val (Value.int .i64 (k3 : Int)) _ (op_move hf17) rfl ?_
      refine WL.val (Value.int .i64 x5) _ (op_move hf15) rfl ?_
      obtain ⟨x24, hx27, hb10⟩ := bs hb10
      obtain ⟨ha25, hb26, hx27⟩ := idx_some hx27
      refine WL.val (Value.pointer (some (elA v_a ((k3 : Int)).toNat))) _ (op_idx sl_25 (St.rep (t := (Ty.sl (Ty.i .i64))) hS20 0 rfl) rfl rfl ha25 hb26) rfl ?_
      refine WL.storeEl (flat_i .i64) hS20 (k := 0) rfl sz_2 rfl rfl (lt_of_idx ha25 hb26) ⟨rfl, hr16⟩ ?_
      intro wd28 hS29
      replace hS29 : St w0 wd28 [(Ty.sl (Ty.i .i64)).at v_a ((x4).set ((k3 : Int)).toNat x5), R] := hS29
      refine WL.nil ?_
      show W _ _ _ _ _ _
      refine W.region ?_
      refine WL.val (Value.int .i64 x5) _ (op_move hf15) rfl ?_
      refine WL.val (Value.int .i64 (w64 (x5 + (1 : Int)))) _ (op_add rfl rfl) rfl ?_
      refine WL.val (Value.int .i64 (w64 (x5 + (1 : Int)))) _ (op_assign rfl) rfl ?_
      refine WL.nil ?_
      show W _ _ _ _ _ _
      refine W.region ?_
      refine WL.val (Value.int .i64 (k3 : Int)) _ (op_move hf17) rfl ?_
      refine WL.val (Value.int .i64 (w64 ((k3 : Int) + (1 : Int)))) _ (op_add rfl rfl) rfl ?_
      refine WL.val (Value.int .i64 (w64 ((k3 : Int) + (1 : Int)))) _ (op_assign rfl) rfl ?_
      refine WL.nil ?_
      obtain rfl := Option.some.inj hb10
      show ∃ s, _ = Ctl.next s ∧ _
      exact ⟨_, rfl, hf14, rfl, (inR_wrap _ _), (ctr_next hl22 hr21), (ctr_rng hl22 hr21), (by first | exact hL19 | (simp only [List.length_set]; exact hL19)), hS29⟩
    · intro s35 f31 wd32 hs33 hI34
      obtain ⟨x36, x37⟩ := s35
      replace hI34 : f31 0 = v_a ∧ f31 1 = Value.int .i64 x37 ∧ InR .i64 x37 ∧ f31 5 = Value.int .i64 (((a).length : Nat) : Int) ∧ InR .i64 (((a).length : Nat) : Int) ∧ (x36).length = (a).length ∧ St w0 wd32 [(Ty.sl (Ty.i .i64)).at v_a x36, R] := hI34
      obtain ⟨hf38, hf39, hr40, hf41, hr42, hL43, hS44⟩ := hI34
      refine W.seq ?_
      refine W.seq ?_
      refine W.region ?_
      refine WL.val (Value.int .i64 (((a).length : Nat) : Int)) _ (op_move hf41) rfl ?_
      refine WL.val v_a _ (op_move hf38) rfl ?_
      have hr45 := inR_len (St.rep (t := (Ty.sl (Ty.i .i64))) hS44 0 rfl)
      refine WL.val (Value.int .i64 ((x36).length : Int)) _ (op_lenL sl_25 (St.rep (t := (Ty.sl (Ty.i .i64))) hS44 0 rfl) rfl) rfl ?_
      refine WL.val (Value.bool (decide ((((a).length : Nat) : Int) < ((x36).length : Int)))) _ (op_lss rfl rfl) rfl ?_
      have hl46 : ¬ (((a).length : Nat) : Int) < ((x36).length : Int) := by omega
      refine WL.nil ?_
      show W _ _ _ _ _ _
      refine W.condF (decide ((((a).length : Nat) : Int) < ((x36).length : Int))) rfl (decide_eq_false hl46) ?_
      refine W.exit ?_
      show _ = _ ∧ _
      exact ⟨rfl, _, hs33, hf39, hr40, (by first | exact hL43 | (simp only [List.length_set]; exact hL43)), hS44⟩
  · rintro f47 wd48 ⟨s50, rfl, hq49⟩
    replace h := onRes_fin h
    obtain ⟨x51, x52⟩ := s50
    replace hq49 : f47 1 = Value.int .i64 x52 ∧ InR .i64 x52 ∧ (x51).length = (a).length ∧ St w0 wd48 [(Ty.sl (Ty.i .i64)).at v_a x51, R] := hq49
    replace h : (_ : Option _) = _ := h
    dsimp only at h
    obtain ⟨hf53, hr54, hL55, hS56⟩ := hq49
    show W _ _ _ _ _ _
    refine W.seq ?_
    refine W.region ?_
    refine WL.val (Value.int .i64 x52) _ (op_move hf53) rfl ?_
    refine WL.val (Value.int .i64 x52) _ (op_assign rfl) rfl ?_
    refine WL.nil ?_
    show W _ _ _ _ _ _
    refine W.ret ?_
    obtain rfl := Option.some.inj h
    show FinP _ _ _ _ _ _ _
    exact FinP.ret _ (res1 rfl rfl) ⟨rfl, hr54, (St.pick hS56 [0, 1] rfl)⟩

theorem c_laws_markInt64SS {w : World} {a : (List (List Int))} {v_a : Value} {k1 : Int} {w0 : World} {R : Ent} (hS0 : St w0 w [(Ty.sl (Ty.sl (Ty.i .i64))).at v_a a, R]) (r_k1 : InR .i64 k1) {res : Int × (List (List Int))} (h : p_laws_markInt64SS a k1  = some res) :
    Ret Try.prog 90 #[v_a, (Value.int .i64 k1)] w (fun v w' => v = Value.int .i64 res.1 ∧ InR .i64 res.1 ∧ St w0 w' [(Ty.sl (Ty.sl (Ty.i .i64))).at v_a res.2, R]) := by
  unfold p_laws_markInt64SS at h
  refine Ret.start (fn := Try.f90) Try.func90 rfl 19 rfl rfl ?_
  refine W.seq ?_
  refine W.region ?_
  refine WL.val (Value.int .i64 (0 : Int)) _ (op_assign rfl) rfl ?_
  refine WL.nil ?_
  show W _ _ _ _ _ _
  refine W.seq ?_
  refine W.seq ?_
  refine W.region ?_
  refine WL.val (Value.int .i64 (0 : Int)) _ (op_assign rfl) rfl ?_
  refine WL.nil ?_
  show W _ _ _ _ _ _
  obtain ⟨res1, hres2, h⟩ := bs h
  refine W.blockLoop (fun fq wq => ∃ s, res1 = Res.fin s ∧ fq 1 = Value.int .i64 s.2 ∧ InR .i64 s.2 ∧ (s.1).length = (a).length ∧ St w0 wq [(Ty.sl (Ty.sl (Ty.i .i64))).at v_a s.1, R]) ?_ ?_
  · refine W.forN (fun k (s : (List (List Int)) × Int) fq wq => fq 0 = v_a ∧ fq 1 = Value.int .i64 s.2 ∧ InR .i64 s.2 ∧ fq 5 = Value.int .i64 (k : Int) ∧ InR .i64 (k : Int) ∧ (s.1).length = (a).length ∧ St w0 wq [(Ty.sl (Ty.sl (Ty.i .i64))).at v_a s.1, R]) hres2 ⟨rfl, rfl, r_k1, rfl, (inR_i64.2 (show (-9223372036854775808 : Int) ≤ 0 ∧ (0 : Int) ≤ 9223372036854775807 from by decide)), rfl, hS0⟩ ?_ ?_
    · intro k3 s40 ct6 f7 wd8 hk9 hb10 hI11 hbrk12 hret13
      obtain ⟨x4, x5⟩ := s40
      replace hI11 : f7 0 = v_a ∧ f7 1 = Value.int .i64 x5 ∧ InR .i64 x5 ∧ f7 5 = Value.int .i64 (k3 : Int) ∧ InR .i64 (k3 : Int) ∧ (x4).length = (a).length ∧ St w0 wd8 [(Ty.sl (Ty.sl (Ty.i .i64))).at v_a x4, R] := hI11
      replace hb10 : p_laws_markInt64SS_L1  k3 x4 x5 = some ct6 := hb10
      unfold p_laws_markInt64SS_L1 at hb10
      obtain ⟨hf14, hf15, hr16, hf17, hr18, hL19, hS20⟩ := hI11
      refine W.seq ?_
      refine W.seq ?_
      refine W.region ?_
      refine WL.val (Value.int .i64 (k3 : Int)) _ (op_move hf17) rfl ?_
      refine WL.val v_a _ (op_move hf14) rfl ?_
      have hr21 := inR_len (St.rep (t := (Ty.sl (Ty.sl (Ty.i .i64)))) hS20 0 rfl)
      refine WL.val (Value.int .i64 ((x4).length : Int)) _ (op_lenL sl_65 (St.rep (t := (Ty.sl (Ty.sl (Ty.i .i64)))) hS20 0 rfl) rfl) rfl ?_
      refine WL.val (Value.bool (decide ((k3 : Int) < ((x4).length : Int)))) _ (op_lss rfl rfl) rfl ?_
      have hl22 : (k3 : Int) < ((x4).length : Int) := by omega
      refine WL.nil ?_
      show W _ _ _ _ _ _
      refine W.condT (decide ((k3 : Int) < ((x4).length : Int))) rfl (decide_eq_true hl22) ?_
      refine W.skip ?_
      show W _ _ _ _ _ _
      refine W.seq ?_
      refine W.block ?_
      refine W.region ?_
      refine WL.val v_a _ (op_move hf14) rfl ?_
      refine WL.val (Value.int .i64 (k3 : Int)) _ (op_move hf17) rfl ?_
      obtain ⟨x24, hx27, hb10⟩ := bs hb10
      obtain ⟨ha25, hb26, hx27⟩ := idx_some hx27
      refine WL.val (Value.pointer (some (elA v_a ((k3 : Int)).toNat))) _ (op_idx sl_65 (St.rep (t := (Ty.sl (Ty.sl (Ty.i .i64)))) hS20 0 rfl) rfl rfl ha25 hb26) rfl ?_
      obtain ⟨u28, hc29, hr30⟩ := repSl.el (St.rep (t := (Ty.sl (Ty.sl (Ty.i .i64)))) hS20 0 rfl) hx27
      refine WL.val u28 _ (op_load one_25 rfl hc29) rfl ?_
      refine WL.val (Value.int .i64 x5) _ (op_move hf15) rfl ?_
      have hS31 := St.unrow (k := 0) hS20 rfl hx27 hc29
      replace hS31 : St w0 wd8 [holeAt (Ty.sl (Ty.i .i64)) v_a x4 ((k3 : Int)).toNat u28, R, (Ty.sl (Ty.i .i64)).at u28 x24] := hS31
      obtain ⟨x32, hx33, hb10⟩ := bs hb10
      have hS34 := St.fold [(Ty.sl (Ty.i .i64)).at u28 x24] [holeAt (Ty.sl (Ty.i .i64)) v_a x4 ((k3 : Int)).toNat u28, R] (St.pick hS31 [2, 0, 1] rfl)
      refine WL.call _ (op_call fn_32 (args2 rfl rfl)) (c_laws_markInt64S hS34 hr16 hx33) rfl ?_
      rintro _ wd37 ⟨rfl, hr38, hS35⟩
      have hS36 := St.pick (St.unfold [(Ty.sl (Ty.i .i64)).at u28 x32.2] [holeAt (Ty.sl (Ty.i .i64)) v_a x4 ((k3 : Int)).toNat u28, R] hS35) [1, 2, 0] rfl
      replace hS36 : St w0 wd37 [holeAt (Ty.sl (Ty.i .i64)) v_a x4 ((k3 : Int)).toNat u28, R, (Ty.sl (Ty.i .i64)).at u28 x32.2] := hS36
      have hS39 := St.rerow (k := 0) (k2 := 2) hS36 rfl rfl rfl
      replace hS39 : St w0 wd37 [(Ty.sl (Ty.sl (Ty.i .i64))).at v_a ((x4).set ((k3 : Int)).toNat x32.2), R, emp] := hS39
      refine WL.val (Value.int .i64 x32.1) _ (op_assign rfl) rfl ?_
      refine WL.nil ?_
      show W _ _ _ _ _ _
      refine W.region ?_
      refine WL.val (Value.int .i64 (k3 : Int)) _ (op_move hf17) rfl ?_
      refine WL.val (Value.int .i64 (w64 ((k3 : Int) + (1 : Int)))) _ (op_add rfl rfl) rfl ?_
      refine WL.val (Value.int .i64 (w64 ((k3 : Int) + (1 : Int)))) _ (op_assign rfl) rfl ?_
      refine WL.nil ?_
      obtain rfl := Option.some.inj hb10
      show ∃ s, _ = Ctl.next s ∧ _
      exact ⟨_, rfl, hf14, rfl, hr38, (ctr_next hl22 hr21), (ctr_rng hl22 hr21), (by first | exact hL19 | (simp only [List.length_set]; exact hL19)), (St.pick hS39 [0, 1] rfl)⟩
    · intro s45 f41 wd42 hs43 hI44
      obtain ⟨x46, x47⟩ := s45
      replace hI44 : f41 0 = v_a ∧ f41 1 = Value.int .i64 x47 ∧ InR .i64 x47 ∧ f41 5 = Value.int .i64 (((a).length : Nat) : Int) ∧ InR .i64 (((a).length : Nat) : Int) ∧ (x46).length = (a).length ∧ St w0 wd42 [(Ty.sl (Ty.sl (Ty.i .i64))).at v_a x46, R] := hI44
      obtain ⟨hf48, hf49, hr50, hf51, hr52, hL53, hS54⟩ := hI44
      refine W.seq ?_
      refine W.seq ?_
      refine W.region ?_
      refine WL.val (Value.int .i64 (((a).length : Nat) : Int)) _ (op_move hf51) rfl ?_
      refine WL.val v_a _ (op_move hf48) rfl ?_
      have hr55 := inR_len (St.rep (t := (Ty.sl (Ty.sl (Ty.i .i64)))) hS54 0 rfl)
      refine WL.val (Value.int .i64 ((x46).length : Int)) _ (op_lenL sl_65 (St.rep (t := (Ty.sl (Ty.sl (Ty.i .i64)))) hS54 0 rfl) rfl) rfl ?_
      refine WL.val (Value.bool (decide ((((a).length : Nat) : Int) < ((x46).length : Int)))) _ (op_lss rfl rfl) rfl ?_
      have hl56 : ¬ (((a).length : Nat) : Int) < ((x46).length : Int) := by omega
      refine WL.nil ?_
      show W _ _ _ _ _ _
      refine W.condF (decide ((((a).length : Nat) : Int) < ((x46).length : Int))) rfl (decide_eq_false hl56) ?_
      refine W.exit ?_
      show _ = _ ∧ _
      exact ⟨rfl, _, hs43, hf49, hr50, (by first | exact hL53 | (simp only [List.length_set]; exact hL53)), hS54⟩
  · rintro f57 wd58 ⟨s60, rfl, hq59⟩
    replace h := onRes_fin h
    obtain ⟨x61, x62⟩ := s60
    replace hq59 : f57 1 = Value.int .i64 x62 ∧ InR .i64 x62 ∧ (x61).length = (a).length ∧ St w0 wd58 [(Ty.sl (Ty.sl (Ty.i .i64))).at v_a x61, R] := hq59
    replace h : (_ : Option _) = _ := h
    dsimp only at h
    obtain ⟨hf63, hr64, hL65, hS66⟩ := hq59
    show W _ _ _ _ _ _
    refine W.seq ?_
    refine W.region ?_
    refine WL.val (Value.int .i64 x62) _ (op_move hf63) rfl ?_
    refine WL.val (Value.int .i64 x62) _ (op_assign rfl) rfl ?_
    refine WL.nil ?_
    show W _ _ _ _ _ _
    refine W.ret ?_
    obtain rfl := Option.some.inj h
    show FinP _ _ _ _ _ _ _
    exact FinP.ret _ (res1 rfl rfl) ⟨rfl, hr64, (St.pick hS66 [0, 1] rfl)⟩

theorem c_laws_markInt64SSS {w : World} {a : (List (List (List Int)))} {v_a : Value} {k1 : Int} {w0 : World} {R : Ent} (hS0 : St w0 w [(Ty.sl (Ty.sl (Ty.sl (Ty.i .i64)))).at v_a a, R]) (r_k1 : InR .i64 k1) {res : Int × (List (List (List Int)))} (h : p_laws_markInt64SSS a k1  = some res) :
    Ret Try.prog 62 #[v_a, (Value.int .i64 k1)] w (fun v w' => v = Value.int .i64 res.1 ∧ InR .i64 res.1 ∧ St w0 w' [(Ty.sl (Ty.sl (Ty.sl (Ty.i .i64)))).at v_a res.2, R]) := by
  unfold p_laws_markInt64SSS at h
  refine Ret.start (fn := Try.f62) Try.func62 rfl 19 rfl rfl ?_
  refine W.seq ?_
  refine W.region ?_
  refine WL.val (Value.int .i64 (0 : Int)) _ (op_assign rfl) rfl ?_
  refine WL.nil ?_
  show W _ _ _ _ _ _
  refine W.seq ?_
  refine W.seq ?_
  refine W.region ?_
  refine WL.val (Value.int .i64 (0 : Int)) _ (op_assign rfl) rfl ?_
  refine WL.nil ?_
  show W _ _ _ _ _ _
  obtain ⟨res1, hres2, h⟩ := bs h
  refine W.blockLoop (fun fq wq => ∃ s, res1 = Res.fin s ∧ fq 1 = Value.int .i64 s.2 ∧ InR .i64 s.2 ∧ (s.1).length = (a).length ∧ St w0 wq [(Ty.sl (Ty.sl (Ty.sl (Ty.i .i64)))).at v_a s.1, R]) ?_ ?_
  · refine W.forN (fun k (s : (List (List (List Int))) × Int) fq wq => fq 0 = v_a ∧ fq 1 = Value.int .i64 s.2 ∧ InR .i64 s.2 ∧ fq 5 = Value.int .i64 (k : Int) ∧ InR .i64 (k : Int) ∧ (s.1).length = (a).length ∧ St w0 wq [(Ty.sl (Ty.sl (Ty.sl (Ty.i .i64)))).at v_a s.1, R]) hres2 ⟨rfl, rfl, r_k1, rfl, (inR_i64.2 (show (-9223372036854775808 : Int) ≤ 0 ∧ (0 : Int) ≤ 9223372036854775807 from by decide)), rfl, hS0⟩ ?_ ?_
    · intro k3 s40 ct6 f7 wd8 hk9 hb10 hI11 hbrk12 hret13
      obtain ⟨x4, x5⟩ := s40
      replace hI11 : f7 0 = v_a ∧ f7 1 = Value.int .i64 x5 ∧ InR .i64 x5 ∧ f7 5 = Value.int .i64 (k3 : Int) ∧ InR .i64 (k3 : Int) ∧ (x4).length = (a).length ∧ St w0 wd8 [(Ty.sl (Ty.sl (Ty.sl (Ty.i .i64)))).at v_a x4, R] := hI11
      replace hb10 : p_laws_markInt64SSS_L1  k3 x4 x5 = some ct6 := hb10
      unfold p_laws_markInt64SSS_L1 at hb10
      obtain ⟨hf14, hf15, hr16, hf17, hr18, hL19, hS20⟩ := hI11
      refine W.seq ?_
      refine W.seq ?_
      refine W.region ?_
      refine WL.val (Value.int .i64 (k3 : Int)) _ (op_move hf17) rfl ?_
      refine WL.val v_a _ (op_move hf14) rfl ?_
      have hr21 := inR_len (St.rep (t := (Ty.sl (Ty.sl (Ty.sl (Ty.i .i64))))) hS20 0 rfl)
      refine WL.val (Value.int .i64 ((x4).length : Int)) _ (op_lenL sl_22 (St.rep (t := (Ty.sl (Ty.sl (Ty.sl (Ty.i .i64))))) hS20 0 rfl) rfl) rfl ?_
      refine WL.val (Value.bool (decide ((k3 : Int) < ((x4).length : Int)))) _ (op_lss rfl rfl) rfl ?_
      have hl22 : (k3 : Int) < ((x4).length : Int) := by omega
      refine WL.nil ?_
      show W _ _ _ _ _ _
      refine W.condT (decide ((k3 : Int) < ((x4).length : Int))) rfl (decide_eq_true hl22) ?_
      refine W.skip ?_
      show W _ _ _ _ _ _
      refine W.seq ?_
      refine W.block ?_
      refine W.region ?_
      refine WL.val v_a _ (op_move hf14) rfl ?_
      refine WL.val (Value.int .i64 (k3 : Int)) _ (op_move hf17) rfl ?_
      obtain ⟨x24, hx27, hb10⟩ := bs hb10
      obtain ⟨ha25, hb26, hx27⟩ := idx_some hx27
      refine WL.val (Value.pointer (some (elA v_a ((k3 : Int)).toNat))) _ (op_idx sl_22 (St.rep (t := (Ty.sl (Ty.sl (Ty.sl (Ty.i .i64))))) hS20 0 rfl) rfl rfl ha25 hb26) rfl ?_
      obtain ⟨u28, hc29, hr30⟩ := repSl.el (St.rep (t := (Ty.sl (Ty.sl (Ty.sl (Ty.i .i64))))) hS20 0 rfl) hx27
      refine WL.val u28 _ (op_load one_65 rfl hc29) rfl ?_
      refine WL.val (Value.int .i64 x5) _ (op_move hf15) rfl ?_
      have hS31 := St.unrow (k := 0) hS20 rfl hx27 hc29
      replace hS31 : St w0 wd8 [holeAt (Ty.sl (Ty.sl (Ty.i .i64))) v_a x4 ((k3 : Int)).toNat u28, R, (Ty.sl (Ty.sl (Ty.i .i64))).at u28 x24] := hS31
      obtain ⟨x32, hx33, hb10⟩ := bs hb10
      have hS34 := St.fold [(Ty.sl (Ty.sl (Ty.i .i64))).at u28 x24] [holeAt (Ty.sl (Ty.sl (Ty.i .i64))) v_a x4 ((k3 : Int)).toNat u28, R] (St.pick hS31 [2, 0, 1] rfl)
      refine WL.call _ (op_call fn_90 (args2 rfl rfl)) (c_laws_markInt64SS hS34 hr16 hx33) rfl ?_
      rintro _ wd37 ⟨rfl, hr38, hS35⟩
      have hS36 := St.pick (St.unfold [(Ty.sl (Ty.sl (Ty.i .i64))).at u28 x32.2] [holeAt (Ty.sl (Ty.sl (Ty.i .i64))) v_a x4 ((k3 : Int)).toNat u28, R] hS35) [1, 2, 0] rfl
      replace hS36 : St w0 wd37 [holeAt (Ty.sl (Ty.sl (Ty.i .i64))) v_a x4 ((k3 : Int)).toNat u28, R, (Ty.sl (Ty.sl (Ty.i .i64))).at u28 x32.2] := hS36
      have hS39 := St.rerow (k := 0) (k2 := 2) hS36 rfl rfl rfl
      replace hS39 : St w0 wd37 [(Ty.sl (Ty.sl (Ty.sl (Ty.i .i64)))).at v_a ((x4).set ((k3 : Int)).toNat x32.2), R, emp] := hS39
      refine WL.val (Value.int .i64 x32.1) _ (op_assign rfl) rfl ?_
      refine WL.nil ?_
      show W _ _ _ _ _ _
      refine W.region ?_
      refine WL.val (Value.int .i64 (k3 : Int)) _ (op_move hf17) rfl ?_
      refine WL.val (Value.int .i64 (w64 ((k3 : Int) + (1 : Int)))) _ (op_add rfl rfl) rfl ?_
      refine WL.val (Value.int .i64 (w64 ((k3 : Int) + (1 : Int)))) _ (op_assign rfl) rfl ?_
      refine WL.nil ?_
      obtain rfl := Option.some.inj hb10
      show ∃ s, _ = Ctl.next s ∧ _
      exact ⟨_, rfl, hf14, rfl, hr38, (ctr_next hl22 hr21), (ctr_rng hl22 hr21), (by first | exact hL19 | (simp only [List.length_set]; exact hL19)), (St.pick hS39 [0, 1] rfl)⟩
    · intro s45 f41 wd42 hs43 hI44
      obtain ⟨x46, x47⟩ := s45
      replace hI44 : f41 0 = v_a ∧ f41 1 = Value.int .i64 x47 ∧ InR .i64 x47 ∧ f41 5 = Value.int .i64 (((a).length : Nat) : Int) ∧ InR .i64 (((a).length : Nat) : Int) ∧ (x46).length = (a).length ∧ St w0 wd42 [(Ty.sl (Ty.sl (Ty.sl (Ty.i .i64)))).at v_a x46, R] := hI44
      obtain ⟨hf48, hf49, hr50, hf51, hr52, hL53, hS54⟩ := hI44
      refine W.seq ?_
      refine W.seq ?_
      refine W.region ?_
      refine WL.val (Value.int .i64 (((a).length : Nat) : Int)) _ (op_move hf51) rfl ?_
      refine WL.val v_a _ (op_move hf48) rfl ?_
      have hr55 := inR_len (St.rep (t := (Ty.sl (Ty.sl (Ty.sl (Ty.i .i64))))) hS54 0 rfl)
      refine WL.val (Value.int .i64 ((x46).length : Int)) _ (op_lenL sl_22 (St.rep (t := (Ty.sl (Ty.sl (Ty.sl (Ty.i .i64))))) hS54 0 rfl) rfl) rfl ?_
      refine WL.val (Value.bool (decide ((((a).length : Nat) : Int) < ((x46).length : Int)))) _ (op_lss rfl rfl) rfl ?_
      have hl56 : ¬ (((a).length : Nat) : Int) < ((x46).length : Int) := by omega
      refine WL.nil ?_
      show W _ _ _ _ _ _
      refine W.condF (decide ((((a).length : Nat) : Int) < ((x46).length : Int))) rfl (decide_eq_false hl56) ?_
      refine W.exit ?_
      show _ = _ ∧ _
      exact ⟨rfl, _, hs43, hf49, hr50, (by first | exact hL53 | (simp only [List.length_set]; exact hL53)), hS54⟩
  · rintro f57 wd58 ⟨s60, rfl, hq59⟩
    replace h := onRes_fin h
    obtain ⟨x61, x62⟩ := s60
    replace hq59 : f57 1 = Value.int .i64 x62 ∧ InR .i64 x62 ∧ (x61).length = (a).length ∧ St w0 wd58 [(Ty.sl (Ty.sl (Ty.sl (Ty.i .i64)))).at v_a x61, R] := hq59
    replace h : (_ : Option _) = _ := h
    dsimp only at h
    obtain ⟨hf63, hr64, hL65, hS66⟩ := hq59
    show W _ _ _ _ _ _
    refine W.seq ?_
    refine W.region ?_
    refine WL.val (Value.int .i64 x62) _ (op_move hf63) rfl ?_
    refine WL.val (Value.int .i64 x62) _ (op_assign rfl) rfl ?_
    refine WL.nil ?_
    show W _ _ _ _ _ _
    refine W.ret ?_
    obtain rfl := Option.some.inj h
    show FinP _ _ _ _ _ _ _
    exact FinP.ret _ (res1 rfl rfl) ⟨rfl, hr64, (St.pick hS66 [0, 1] rfl)⟩

theorem c_laws_markRing {w : World} {a_Table : (List (List (List Int)))} {v_a_Table : Value} {k1 : Int} {w0 : World} {R : Ent} (hS0 : St w0 w [(Ty.sl (Ty.sl (Ty.sl (Ty.i .i64)))).at v_a_Table a_Table, R]) (r_k1 : InR .i64 k1) {res : Int × (List (List (List Int)))} (h : p_laws_markRing a_Table k1  = some res) :
    Ret Try.prog 27 #[(Value.agg #[v_a_Table]), (Value.int .i64 k1)] w (fun v w' => v = Value.int .i64 res.1 ∧ InR .i64 res.1 ∧ St w0 w' [(Ty.sl (Ty.sl (Ty.sl (Ty.i .i64)))).at v_a_Table res.2, R]) := by
  unfold p_laws_markRing at h
  refine Ret.start (fn := Try.f27) Try.func27 rfl 10 rfl rfl ?_
  refine W.seq ?_
  refine W.region ?_
  refine WL.box hS0 rfl (cs := [v_a_Table]) rfl rfl ?_
  intro b1 wd2 hS3 he4 hx5
  replace hS3 : St w0 wd2 [(Ty.sl (Ty.sl (Ty.sl (Ty.i .i64)))).at v_a_Table a_Table, R, bx b1 [v_a_Table]] := hS3
  refine WL.val (Value.int .i64 (0 : Int)) _ (op_assign rfl) rfl ?_
  refine WL.nil ?_
  show W _ _ _ _ _ _
  refine W.seq ?_
  refine W.region ?_
  refine WL.val (Value.pointer (some ⟨b1, 0, none⟩)) _ (op_fieldAddr fd_29_0 rfl) rfl ?_
  refine WL.val v_a_Table _ (op_load one_22 rfl (BoxAt.cell (St.boxAt hS3 2 rfl) rfl)) rfl ?_
  refine WL.val (Value.int .i64 k1) _ (op_move rfl) rfl ?_
  obtain ⟨x6, hx7, h⟩ := bs h
  have hS8 := St.fold [(Ty.sl (Ty.sl (Ty.sl (Ty.i .i64)))).at v_a_Table a_Table] [R, bx b1 [v_a_Table]] (St.pick hS3 [0, 1, 2] rfl)
  refine WL.call _ (op_call fn_62 (args2 rfl rfl)) (c_laws_markInt64SSS hS8 r_k1 hx7) rfl ?_
  rintro _ wd11 ⟨rfl, hr12, hS9⟩
  have hS10 := St.pick (St.unfold [(Ty.sl (Ty.sl (Ty.sl (Ty.i .i64)))).at v_a_Table x6.2] [R, bx b1 [v_a_Table]] hS9) [0, 1, 2] rfl
  replace hS10 : St w0 wd11 [(Ty.sl (Ty.sl (Ty.sl (Ty.i .i64)))).at v_a_Table x6.2, R, bx b1 [v_a_Table]] := hS10
  refine WL.val (Value.int .i64 x6.1) _ (op_assign rfl) rfl ?_
  refine WL.nil ?_
  show W _ _ _ _ _ _
  refine W.seq ?_
  refine W.region ?_
  refine WL.val (Value.int .i64 x6.1) _ (op_move rfl) rfl ?_
  refine WL.val (Value.int .i64 x6.1) _ (op_assign rfl) rfl ?_
  refine WL.nil ?_
  show W _ _ _ _ _ _
  refine W.ret ?_
  obtain rfl := Option.some.inj h
  show FinP _ _ _ _ _ _ _
  exact FinP.ret _ (res1 rfl rfl) ⟨rfl, hr12, (St.pick hS10 [0, 1] rfl)⟩

theorem c_laws_markAction {w : World} {a_Matrices : (List (List (List Int)))} {v_a_Matrices : Value} {k1 : Int} {w0 : World} {R : Ent} (hS0 : St w0 w [(Ty.sl (Ty.sl (Ty.sl (Ty.i .i64)))).at v_a_Matrices a_Matrices, R]) (r_k1 : InR .i64 k1) {res : Int × (List (List (List Int)))} (h : p_laws_markAction a_Matrices k1  = some res) :
    Ret Try.prog 28 #[(Value.agg #[v_a_Matrices]), (Value.int .i64 k1)] w (fun v w' => v = Value.int .i64 res.1 ∧ InR .i64 res.1 ∧ St w0 w' [(Ty.sl (Ty.sl (Ty.sl (Ty.i .i64)))).at v_a_Matrices res.2, R]) := by
  unfold p_laws_markAction at h
  refine Ret.start (fn := Try.f28) Try.func28 rfl 10 rfl rfl ?_
  refine W.seq ?_
  refine W.region ?_
  refine WL.box hS0 rfl (cs := [v_a_Matrices]) rfl rfl ?_
  intro b1 wd2 hS3 he4 hx5
  replace hS3 : St w0 wd2 [(Ty.sl (Ty.sl (Ty.sl (Ty.i .i64)))).at v_a_Matrices a_Matrices, R, bx b1 [v_a_Matrices]] := hS3
  refine WL.val (Value.int .i64 (0 : Int)) _ (op_assign rfl) rfl ?_
  refine WL.nil ?_
  show W _ _ _ _ _ _
  refine W.seq ?_
  refine W.region ?_
  refine WL.val (Value.pointer (some ⟨b1, 0, none⟩)) _ (op_fieldAddr fd_42_0 rfl) rfl ?_
  refine WL.val v_a_Matrices _ (op_load one_22 rfl (BoxAt.cell (St.boxAt hS3 2 rfl) rfl)) rfl ?_
  refine WL.val (Value.int .i64 k1) _ (op_move rfl) rfl ?_
  obtain ⟨x6, hx7, h⟩ := bs h
  have hS8 := St.fold [(Ty.sl (Ty.sl (Ty.sl (Ty.i .i64)))).at v_a_Matrices a_Matrices] [R, bx b1 [v_a_Matrices]] (St.pick hS3 [0, 1, 2] rfl)
  refine WL.call _ (op_call fn_62 (args2 rfl rfl)) (c_laws_markInt64SSS hS8 r_k1 hx7) rfl ?_
  rintro _ wd11 ⟨rfl, hr12, hS9⟩
  have hS10 := St.pick (St.unfold [(Ty.sl (Ty.sl (Ty.sl (Ty.i .i64)))).at v_a_Matrices x6.2] [R, bx b1 [v_a_Matrices]] hS9) [0, 1, 2] rfl
  replace hS10 : St w0 wd11 [(Ty.sl (Ty.sl (Ty.sl (Ty.i .i64)))).at v_a_Matrices x6.2, R, bx b1 [v_a_Matrices]] := hS10
  refine WL.val (Value.int .i64 x6.1) _ (op_assign rfl) rfl ?_
  refine WL.nil ?_
  show W _ _ _ _ _ _
  refine W.seq ?_
  refine W.region ?_
  refine WL.val (Value.int .i64 x6.1) _ (op_move rfl) rfl ?_
  refine WL.val (Value.int .i64 x6.1) _ (op_assign rfl) rfl ?_
  refine WL.nil ?_
  show W _ _ _ _ _ _
  refine W.ret ?_
  obtain rfl := Option.some.inj h
  show FinP _ _ _ _ _ _ _
  exact FinP.ret _ (res1 rfl rfl) ⟨rfl, hr12, (St.pick hS10 [0, 1] rfl)⟩

theorem c_laws_heldInt64S {w : World} {a : (List Int)} {v_a : Value} {k1 : Int} (r_a : (Ty.sl (Ty.i .i64)).rep w v_a a) (r_k1 : InR .i64 k1) {res : Int} (h : p_laws_heldInt64S a k1  = some res) :
    Ret Try.prog 33 #[v_a, (Value.int .i64 k1)] w (fun v w' => v = Value.int .i64 res ∧ InR .i64 res ∧ Ext w w') := by
  unfold p_laws_heldInt64S at h
  have hS0 : St w w [] := St.start w
  refine Ret.start (fn := Try.f33) Try.func33 rfl 21 rfl rfl ?_
  refine W.seq ?_
  refine W.region ?_
  refine WL.val (Value.int .i64 (0 : Int)) _ (op_assign rfl) rfl ?_
  refine WL.nil ?_
  show W _ _ _ _ _ _
  refine W.seq ?_
  refine W.seq ?_
  refine W.region ?_
  refine WL.val (Value.int .i64 (0 : Int)) _ (op_assign rfl) rfl ?_
  refine WL.nil ?_
  show W _ _ _ _ _ _
  obtain ⟨res1, hres2, h⟩ := bs h
  refine W.blockLoop (fun fq wq => ∃ s, res1 = Res.fin s ∧ fq 1 = Value.int .i64 s ∧ InR .i64 s ∧ St w wq []) ?_ ?_
  · refine W.forN (fun k (s : Int) fq wq => fq 0 = v_a ∧ fq 1 = Value.int .i64 s ∧ InR .i64 s ∧ fq 5 = Value.int .i64 (k : Int) ∧ InR .i64 (k : Int) ∧ St w wq []) hres2 ⟨rfl, rfl, r_k1, rfl, (inR_i64.2 (show (-9223372036854775808 : Int) ≤ 0 ∧ (0 : Int) ≤ 9223372036854775807 from by decide)), hS0⟩ ?_ ?_
    · intro k3 x4 ct5 f6 wd7 hk8 hb9 hI10 hbrk11 hret12
      replace hI10 : f6 0 = v_a ∧ f6 1 = Value.int .i64 x4 ∧ InR .i64 x4 ∧ f6 5 = Value.int .i64 (k3 : Int) ∧ InR .i64 (k3 : Int) ∧ St w wd7 [] := hI10
      replace hb9 : p_laws_heldInt64S_L1 a k3 x4 = some ct5 := hb9
      unfold p_laws_heldInt64S_L1 at hb9
      obtain ⟨hf13, hf14, hr15, hf16, hr17, hS18⟩ := hI10
      refine W.seq ?_
      refine W.seq ?_
      refine W.region ?_
      refine WL.val (Value.int .i64 (k3 : Int)) _ (op_move hf16) rfl ?_
      refine WL.val v_a _ (op_move hf13) rfl ?_
      have hr19 := inR_len (Ty.lift _ hS18.ext r_a)
      refine WL.val (Value.int .i64 ((a).length : Int)) _ (op_lenL sl_25 (Ty.lift _ hS18.ext r_a) rfl) rfl ?_
      refine WL.val (Value.bool (decide ((k3 : Int) < ((a).length : Int)))) _ (op_lss rfl rfl) rfl ?_
      have hl20 : (k3 : Int) < ((a).length : Int) := by omega
      refine WL.nil ?_
      show W _ _ _ _ _ _
      refine W.condT (decide ((k3 : Int) < ((a).length : Int))) rfl (decide_eq_true hl20) ?_
      refine W.skip ?_
      show W _ _ _ _ _ _
      refine W.seq ?_
      refine W.block ?_
      refine W.seq ?_
      refine W.seq ?_
      refine W.region ?_
      refine WL.val v_a _ (op_move hf13) rfl ?_
      refine WL.val (Value.int .i64 (k3 : Int)) _ (op_move hf16) rfl ?_
      obtain ⟨x22, hx25, hb9⟩ := bs hb9
      obtain ⟨ha23, hb24, hx25⟩ := idx_some hx25
      refine WL.val (Value.pointer (some (elA v_a ((k3 : Int)).toNat))) _ (op_idx sl_25 (Ty.lift _ hS18.ext r_a) rfl rfl ha23 hb24) rfl ?_
      obtain ⟨u26, hc27, hr28⟩ := repSl.el r_a hx25
      obtain ⟨rfl, hr28⟩ := hr28
      refine WL.val (Value.int .i64 x22) _ (op_load one_2 rfl (Ext.cell hS18.ext hc27)) rfl ?_
      refine WL.val (Value.int .i64 x4) _ (op_move hf14) rfl ?_
      refine WL.val (Value.bool (x22 != x4)) _ (op_neq rfl rfl) rfl ?_
      refine WL.nil ?_
      show W _ _ _ _ _ _
      refine W.cond (x22 != x4) rfl (fun hc29 => ?_) (fun hc29 => ?_)
      · replace hb9 := ip hb9 hc29
        refine W.seq ?_
        refine W.region ?_
        refine WL.val (Value.int .i64 (-1 : Int)) _ (op_assign rfl) rfl ?_
        refine WL.nil ?_
        show W _ _ _ _ _ _
        refine W.ret ?_
        obtain rfl := Option.some.inj hb9
        obtain rfl := hret12 _ rfl
        replace h := onRes_ret h
        obtain rfl := Option.some.inj h
        show FinP _ _ _ _ _ _ _
        exact FinP.ret _ (res1 rfl rfl) ⟨rfl, (inR_i64.2 (show (-9223372036854775808 : Int) ≤ -1 ∧ (-1 : Int) ≤ 9223372036854775807 from by decide)), hS18.ext⟩
      · replace hb9 := inegb hb9 hc29
        refine W.skip ?_
        show W _ _ _ _ _ _
        refine W.region ?_
        refine WL.val (Value.int .i64 x4) _ (op_move hf14) rfl ?_
        refine WL.val (Value.int .i64 (w64 (x4 + (1 : Int)))) _ (op_add rfl rfl) rfl ?_
        refine WL.val (Value.int .i64 (w64 (x4 + (1 : Int)))) _ (op_assign rfl) rfl ?_
        refine WL.nil ?_
        show W _ _ _ _ _ _
        refine W.region ?_
        refine WL.val (Value.int .i64 (k3 : Int)) _ (op_move hf16) rfl ?_
        refine WL.val (Value.int .i64 (w64 ((k3 : Int) + (1 : Int)))) _ (op_add rfl rfl) rfl ?_
        refine WL.val (Value.int .i64 (w64 ((k3 : Int) + (1 : Int)))) _ (op_assign rfl) rfl ?_
        refine WL.nil ?_
        obtain rfl := Option.some.inj hb9
        show ∃ s, _ = Ctl.next s ∧ _
        exact ⟨_, rfl, hf13, rfl, (inR_wrap _ _), (ctr_next hl20 hr19), (ctr_rng hl20 hr19), hS18⟩
    · intro x37 f32 wd33 hs34 hI35
      replace hI35 : f32 0 = v_a ∧ f32 1 = Value.int .i64 x37 ∧ InR .i64 x37 ∧ f32 5 = Value.int .i64 (((a).length : Nat) : Int) ∧ InR .i64 (((a).length : Nat) : Int) ∧ St w wd33 [] := hI35
      obtain ⟨hf38, hf39, hr40, hf41, hr42, hS43⟩ := hI35
      refine W.seq ?_
      refine W.seq ?_
      refine W.region ?_
      refine WL.val (Value.int .i64 (((a).length : Nat) : Int)) _ (op_move hf41) rfl ?_
      refine WL.val v_a _ (op_move hf38) rfl ?_
      have hr44 := inR_len (Ty.lift _ hS43.ext r_a)
      refine WL.val (Value.int .i64 ((a).length : Int)) _ (op_lenL sl_25 (Ty.lift _ hS43.ext r_a) rfl) rfl ?_
      refine WL.val (Value.bool (decide ((((a).length : Nat) : Int) < ((a).length : Int)))) _ (op_lss rfl rfl) rfl ?_
      have hl45 : ¬ (((a).length : Nat) : Int) < ((a).length : Int) := by omega
      refine WL.nil ?_
      show W _ _ _ _ _ _
      refine W.condF (decide ((((a).length : Nat) : Int) < ((a).length : Int))) rfl (decide_eq_false hl45) ?_
      refine W.exit ?_
      show _ = _ ∧ _
      exact ⟨rfl, _, hs34, hf39, hr40, hS43⟩
  · rintro f46 wd47 ⟨x50, rfl, hq48⟩
    replace h := onRes_fin h
    replace hq48 : f46 1 = Value.int .i64 x50 ∧ InR .i64 x50 ∧ St w wd47 [] := hq48
    obtain ⟨hf51, hr52, hS53⟩ := hq48
    show W _ _ _ _ _ _
    refine W.seq ?_
    refine W.region ?_
    refine WL.val (Value.int .i64 x50) _ (op_move hf51) rfl ?_
    refine WL.val (Value.int .i64 x50) _ (op_assign rfl) rfl ?_
    refine WL.nil ?_
    show W _ _ _ _ _ _
    refine W.ret ?_
    obtain rfl := Option.some.inj h
    show FinP _ _ _ _ _ _ _
    exact FinP.ret _ (res1 rfl rfl) ⟨rfl, hr52, hS53.ext⟩

theorem c_laws_heldInt64SS {w : World} {a : (List (List Int))} {v_a : Value} {k1 : Int} (r_a : (Ty.sl (Ty.sl (Ty.i .i64))).rep w v_a a) (r_k1 : InR .i64 k1) {res : Int} (h : p_laws_heldInt64SS a k1  = some res) :
    Ret Try.prog 91 #[v_a, (Value.int .i64 k1)] w (fun v w' => v = Value.int .i64 res ∧ InR .i64 res ∧ Ext w w') := by
  unfold p_laws_heldInt64SS at h
  have hS0 : St w w [] := St.start w
  refine Ret.start (fn := Try.f91) Try.func91 rfl 21 rfl rfl ?_
  refine W.seq ?_
  refine W.region ?_
  refine WL.val (Value.int .i64 (0 : Int)) _ (op_assign rfl) rfl ?_
  refine WL.nil ?_
  show W _ _ _ _ _ _
  refine W.seq ?_
  refine W.seq ?_
  refine W.region ?_
  refine WL.val (Value.int .i64 (0 : Int)) _ (op_assign rfl) rfl ?_
  refine WL.nil ?_
  show W _ _ _ _ _ _
  obtain ⟨res1, hres2, h⟩ := bs h
  refine W.blockLoop (fun fq wq => ∃ s, res1 = Res.fin s ∧ fq 1 = Value.int .i64 s ∧ InR .i64 s ∧ St w wq []) ?_ ?_
  · refine W.forN (fun k (s : Int) fq wq => fq 0 = v_a ∧ fq 1 = Value.int .i64 s ∧ InR .i64 s ∧ fq 5 = Value.int .i64 (k : Int) ∧ InR .i64 (k : Int) ∧ St w wq []) hres2 ⟨rfl, rfl, r_k1, rfl, (inR_i64.2 (show (-9223372036854775808 : Int) ≤ 0 ∧ (0 : Int) ≤ 9223372036854775807 from by decide)), hS0⟩ ?_ ?_
    · intro k3 x4 ct5 f6 wd7 hk8 hb9 hI10 hbrk11 hret12
      replace hI10 : f6 0 = v_a ∧ f6 1 = Value.int .i64 x4 ∧ InR .i64 x4 ∧ f6 5 = Value.int .i64 (k3 : Int) ∧ InR .i64 (k3 : Int) ∧ St w wd7 [] := hI10
      replace hb9 : p_laws_heldInt64SS_L1 a k3 x4 = some ct5 := hb9
      unfold p_laws_heldInt64SS_L1 at hb9
      obtain ⟨hf13, hf14, hr15, hf16, hr17, hS18⟩ := hI10
      refine W.seq ?_
      refine W.seq ?_
      refine W.region ?_
      refine WL.val (Value.int .i64 (k3 : Int)) _ (op_move hf16) rfl ?_
      refine WL.val v_a _ (op_move hf13) rfl ?_
      have hr19 := inR_len (Ty.lift _ hS18.ext r_a)
      refine WL.val (Value.int .i64 ((a).length : Int)) _ (op_lenL sl_65 (Ty.lift _ hS18.ext r_a) rfl) rfl ?_
      refine WL.val (Value.bool (decide ((k3 : Int) < ((a).length : Int)))) _ (op_lss rfl rfl) rfl ?_
      have hl20 : (k3 : Int) < ((a).length : Int) := by omega
      refine WL.nil ?_
      show W _ _ _ _ _ _
      refine W.condT (decide ((k3 : Int) < ((a).length : Int))) rfl (decide_eq_true hl20) ?_
      refine W.skip ?_
      show W _ _ _ _ _ _
      refine W.seq ?_
      refine W.block ?_
      refine W.seq ?_
      refine W.region ?_
      refine WL.val v_a _ (op_move hf13) rfl ?_
      refine WL.val (Value.int .i64 (k3 : Int)) _ (op_move hf16) rfl ?_
      obtain ⟨x22, hx25, hb9⟩ := bs hb9
      obtain ⟨ha23, hb24, hx25⟩ := idx_some hx25
      refine WL.val (Value.pointer (some (elA v_a ((k3 : Int)).toNat))) _ (op_idx sl_65 (Ty.lift _ hS18.ext r_a) rfl rfl ha23 hb24) rfl ?_
      obtain ⟨u26, hc27, hr28⟩ := repSl.el r_a hx25
      refine WL.val u26 _ (op_load one_25 rfl (Ext.cell hS18.ext hc27)) rfl ?_
      refine WL.val (Value.int .i64 x4) _ (op_move hf14) rfl ?_
      obtain ⟨x29, hx30, hb9⟩ := bs hb9
      refine WL.call _ (op_call fn_33 (args2 rfl rfl)) (c_laws_heldInt64S (Ty.lift _ hS18.ext hr28) hr15 hx30) rfl ?_
      rintro _ wd32 ⟨rfl, hr31, he33⟩
      have hS35 := St.extend hS18 he33
      replace hS35 : St w wd32 [] := hS35
      refine WL.val (Value.int .i64 x29) _ (op_assign rfl) rfl ?_
      refine WL.nil ?_
      show W _ _ _ _ _ _
      refine W.seq ?_
      refine W.region ?_
      refine WL.val (Value.int .i64 x29) _ (op_move rfl) rfl ?_
      refine WL.val (Value.bool (decide (x29 < (0 : Int)))) _ (op_lss rfl rfl) rfl ?_
      refine WL.nil ?_
      show W _ _ _ _ _ _
      refine W.cond (decide (x29 < (0 : Int))) rfl (fun hc36 => ?_) (fun hc36 => ?_)
      · replace hb9 := ip hb9 hc36
        refine W.seq ?_
        refine W.region ?_
        refine WL.val (Value.int .i64 (-1 : Int)) _ (op_assign rfl) rfl ?_
        refine WL.nil ?_
        show W _ _ _ _ _ _
        refine W.ret ?_
        obtain rfl := Option.some.inj hb9
        obtain rfl := hret12 _ rfl
        replace h := onRes_ret h
        obtain rfl := Option.some.inj h
        show FinP _ _ _ _ _ _ _
        exact FinP.ret _ (res1 rfl rfl) ⟨rfl, (inR_i64.2 (show (-9223372036854775808 : Int) ≤ -1 ∧ (-1 : Int) ≤ 9223372036854775807 from by decide)), hS35.ext⟩
      · replace hb9 := inegb hb9 hc36
        refine W.skip ?_
        show W _ _ _ _ _ _
        refine W.region ?_
        refine WL.val (Value.int .i64 (k3 : Int)) _ (op_move hf16) rfl ?_
        refine WL.val (Value.int .i64 (w64 ((k3 : Int) + (1 : Int)))) _ (op_add rfl rfl) rfl ?_
        refine WL.val (Value.int .i64 (w64 ((k3 : Int) + (1 : Int)))) _ (op_assign rfl) rfl ?_
        refine WL.nil ?_
        obtain rfl := Option.some.inj hb9
        show ∃ s, _ = Ctl.next s ∧ _
        exact ⟨_, rfl, hf13, rfl, hr31, (ctr_next hl20 hr19), (ctr_rng hl20 hr19), hS35⟩
    · intro x44 f39 wd40 hs41 hI42
      replace hI42 : f39 0 = v_a ∧ f39 1 = Value.int .i64 x44 ∧ InR .i64 x44 ∧ f39 5 = Value.int .i64 (((a).length : Nat) : Int) ∧ InR .i64 (((a).length : Nat) : Int) ∧ St w wd40 [] := hI42
      obtain ⟨hf45, hf46, hr47, hf48, hr49, hS50⟩ := hI42
      refine W.seq ?_
      refine W.seq ?_
      refine W.region ?_
      refine WL.val (Value.int .i64 (((a).length : Nat) : Int)) _ (op_move hf48) rfl ?_
      refine WL.val v_a _ (op_move hf45) rfl ?_
      have hr51 := inR_len (Ty.lift _ hS50.ext r_a)
      refine WL.val (Value.int .i64 ((a).length : Int)) _ (op_lenL sl_65 (Ty.lift _ hS50.ext r_a) rfl) rfl ?_
      refine WL.val (Value.bool (decide ((((a).length : Nat) : Int) < ((a).length : Int)))) _ (op_lss rfl rfl) rfl ?_
      have hl52 : ¬ (((a).length : Nat) : Int) < ((a).length : Int) := by omega
      refine WL.nil ?_
      show W _ _ _ _ _ _
      refine W.condF (decide ((((a).length : Nat) : Int) < ((a).length : Int))) rfl (decide_eq_false hl52) ?_
      refine W.exit ?_
      show _ = _ ∧ _
      exact ⟨rfl, _, hs41, hf46, hr47, hS50⟩
  · rintro f53 wd54 ⟨x57, rfl, hq55⟩
    replace h := onRes_fin h
    replace hq55 : f53 1 = Value.int .i64 x57 ∧ InR .i64 x57 ∧ St w wd54 [] := hq55
    obtain ⟨hf58, hr59, hS60⟩ := hq55
    show W _ _ _ _ _ _
    refine W.seq ?_
    refine W.region ?_
    refine WL.val (Value.int .i64 x57) _ (op_move hf58) rfl ?_
    refine WL.val (Value.int .i64 x57) _ (op_assign rfl) rfl ?_
    refine WL.nil ?_
    show W _ _ _ _ _ _
    refine W.ret ?_
    obtain rfl := Option.some.inj h
    show FinP _ _ _ _ _ _ _
    exact FinP.ret _ (res1 rfl rfl) ⟨rfl, hr59, hS60.ext⟩

theorem c_laws_heldInt64SSS {w : World} {a : (List (List (List Int)))} {v_a : Value} {k1 : Int} (r_a : (Ty.sl (Ty.sl (Ty.sl (Ty.i .i64)))).rep w v_a a) (r_k1 : InR .i64 k1) {res : Int} (h : p_laws_heldInt64SSS a k1  = some res) :
    Ret Try.prog 63 #[v_a, (Value.int .i64 k1)] w (fun v w' => v = Value.int .i64 res ∧ InR .i64 res ∧ Ext w w') := by
  unfold p_laws_heldInt64SSS at h
  have hS0 : St w w [] := St.start w
  refine Ret.start (fn := Try.f63) Try.func63 rfl 21 rfl rfl ?_
  refine W.seq ?_
  refine W.region ?_
  refine WL.val (Value.int .i64 (0 : Int)) _ (op_assign rfl) rfl ?_
  refine WL.nil ?_
  show W _ _ _ _ _ _
  refine W.seq ?_
  refine W.seq ?_
  refine W.region ?_
  refine WL.val (Value.int .i64 (0 : Int)) _ (op_assign rfl) rfl ?_
  refine WL.nil ?_
  show W _ _ _ _ _ _
  obtain ⟨res1, hres2, h⟩ := bs h
  refine W.blockLoop (fun fq wq => ∃ s, res1 = Res.fin s ∧ fq 1 = Value.int .i64 s ∧ InR .i64 s ∧ St w wq []) ?_ ?_
  · refine W.forN (fun k (s : Int) fq wq => fq 0 = v_a ∧ fq 1 = Value.int .i64 s ∧ InR .i64 s ∧ fq 5 = Value.int .i64 (k : Int) ∧ InR .i64 (k : Int) ∧ St w wq []) hres2 ⟨rfl, rfl, r_k1, rfl, (inR_i64.2 (show (-9223372036854775808 : Int) ≤ 0 ∧ (0 : Int) ≤ 9223372036854775807 from by decide)), hS0⟩ ?_ ?_
    · intro k3 x4 ct5 f6 wd7 hk8 hb9 hI10 hbrk11 hret12
      replace hI10 : f6 0 = v_a ∧ f6 1 = Value.int .i64 x4 ∧ InR .i64 x4 ∧ f6 5 = Value.int .i64 (k3 : Int) ∧ InR .i64 (k3 : Int) ∧ St w wd7 [] := hI10
      replace hb9 : p_laws_heldInt64SSS_L1 a k3 x4 = some ct5 := hb9
      unfold p_laws_heldInt64SSS_L1 at hb9
      obtain ⟨hf13, hf14, hr15, hf16, hr17, hS18⟩ := hI10
      refine W.seq ?_
      refine W.seq ?_
      refine W.region ?_
      refine WL.val (Value.int .i64 (k3 : Int)) _ (op_move hf16) rfl ?_
      refine WL.val v_a _ (op_move hf13) rfl ?_
      have hr19 := inR_len (Ty.lift _ hS18.ext r_a)
      refine WL.val (Value.int .i64 ((a).length : Int)) _ (op_lenL sl_22 (Ty.lift _ hS18.ext r_a) rfl) rfl ?_
      refine WL.val (Value.bool (decide ((k3 : Int) < ((a).length : Int)))) _ (op_lss rfl rfl) rfl ?_
      have hl20 : (k3 : Int) < ((a).length : Int) := by omega
      refine WL.nil ?_
      show W _ _ _ _ _ _
      refine W.condT (decide ((k3 : Int) < ((a).length : Int))) rfl (decide_eq_true hl20) ?_
      refine W.skip ?_
      show W _ _ _ _ _ _
      refine W.seq ?_
      refine W.block ?_
      refine W.seq ?_
      refine W.region ?_
      refine WL.val v_a _ (op_move hf13) rfl ?_
      refine WL.val (Value.int .i64 (k3 : Int)) _ (op_move hf16) rfl ?_
      obtain ⟨x22, hx25, hb9⟩ := bs hb9
      obtain ⟨ha23, hb24, hx25⟩ := idx_some hx25
      refine WL.val (Value.pointer (some (elA v_a ((k3 : Int)).toNat))) _ (op_idx sl_22 (Ty.lift _ hS18.ext r_a) rfl rfl ha23 hb24) rfl ?_
      obtain ⟨u26, hc27, hr28⟩ := repSl.el r_a hx25
      refine WL.val u26 _ (op_load one_65 rfl (Ext.cell hS18.ext hc27)) rfl ?_
      refine WL.val (Value.int .i64 x4) _ (op_move hf14) rfl ?_
      obtain ⟨x29, hx30, hb9⟩ := bs hb9
      refine WL.call _ (op_call fn_91 (args2 rfl rfl)) (c_laws_heldInt64SS (Ty.lift _ hS18.ext hr28) hr15 hx30) rfl ?_
      rintro _ wd32 ⟨rfl, hr31, he33⟩
      have hS35 := St.extend hS18 he33
      replace hS35 : St w wd32 [] := hS35
      refine WL.val (Value.int .i64 x29) _ (op_assign rfl) rfl ?_
      refine WL.nil ?_
      show W _ _ _ _ _ _
      refine W.seq ?_
      refine W.region ?_
      refine WL.val (Value.int .i64 x29) _ (op_move rfl) rfl ?_
      refine WL.val (Value.bool (decide (x29 < (0 : Int)))) _ (op_lss rfl rfl) rfl ?_
      refine WL.nil ?_
      show W _ _ _ _ _ _
      refine W.cond (decide (x29 < (0 : Int))) rfl (fun hc36 => ?_) (fun hc36 => ?_)
      · replace hb9 := ip hb9 hc36
        refine W.seq ?_
        refine W.region ?_
        refine WL.val (Value.int .i64 (-1 : Int)) _ (op_assign rfl) rfl ?_
        refine WL.nil ?_
        show W _ _ _ _ _ _
        refine W.ret ?_
        obtain rfl := Option.some.inj hb9
        obtain rfl := hret12 _ rfl
        replace h := onRes_ret h
        obtain rfl := Option.some.inj h
        show FinP _ _ _ _ _ _ _
        exact FinP.ret _ (res1 rfl rfl) ⟨rfl, (inR_i64.2 (show (-9223372036854775808 : Int) ≤ -1 ∧ (-1 : Int) ≤ 9223372036854775807 from by decide)), hS35.ext⟩
      · replace hb9 := inegb hb9 hc36
        refine W.skip ?_
        show W _ _ _ _ _ _
        refine W.region ?_
        refine WL.val (Value.int .i64 (k3 : Int)) _ (op_move hf16) rfl ?_
        refine WL.val (Value.int .i64 (w64 ((k3 : Int) + (1 : Int)))) _ (op_add rfl rfl) rfl ?_
        refine WL.val (Value.int .i64 (w64 ((k3 : Int) + (1 : Int)))) _ (op_assign rfl) rfl ?_
        refine WL.nil ?_
        obtain rfl := Option.some.inj hb9
        show ∃ s, _ = Ctl.next s ∧ _
        exact ⟨_, rfl, hf13, rfl, hr31, (ctr_next hl20 hr19), (ctr_rng hl20 hr19), hS35⟩
    · intro x44 f39 wd40 hs41 hI42
      replace hI42 : f39 0 = v_a ∧ f39 1 = Value.int .i64 x44 ∧ InR .i64 x44 ∧ f39 5 = Value.int .i64 (((a).length : Nat) : Int) ∧ InR .i64 (((a).length : Nat) : Int) ∧ St w wd40 [] := hI42
      obtain ⟨hf45, hf46, hr47, hf48, hr49, hS50⟩ := hI42
      refine W.seq ?_
      refine W.seq ?_
      refine W.region ?_
      refine WL.val (Value.int .i64 (((a).length : Nat) : Int)) _ (op_move hf48) rfl ?_
      refine WL.val v_a _ (op_move hf45) rfl ?_
      have hr51 := inR_len (Ty.lift _ hS50.ext r_a)
      refine WL.val (Value.int .i64 ((a).length : Int)) _ (op_lenL sl_22 (Ty.lift _ hS50.ext r_a) rfl) rfl ?_
      refine WL.val (Value.bool (decide ((((a).length : Nat) : Int) < ((a).length : Int)))) _ (op_lss rfl rfl) rfl ?_
      have hl52 : ¬ (((a).length : Nat) : Int) < ((a).length : Int) := by omega
      refine WL.nil ?_
      show W _ _ _ _ _ _
      refine W.condF (decide ((((a).length : Nat) : Int) < ((a).length : Int))) rfl (decide_eq_false hl52) ?_
      refine W.exit ?_
      show _ = _ ∧ _
      exact ⟨rfl, _, hs41, hf46, hr47, hS50⟩
  · rintro f53 wd54 ⟨x57, rfl, hq55⟩
    replace h := onRes_fin h
    replace hq55 : f53 1 = Value.int .i64 x57 ∧ InR .i64 x57 ∧ St w wd54 [] := hq55
    obtain ⟨hf58, hr59, hS60⟩ := hq55
    show W _ _ _ _ _ _
    refine W.seq ?_
    refine W.region ?_
    refine WL.val (Value.int .i64 x57) _ (op_move hf58) rfl ?_
    refine WL.val (Value.int .i64 x57) _ (op_assign rfl) rfl ?_
    refine WL.nil ?_
    show W _ _ _ _ _ _
    refine W.ret ?_
    obtain rfl := Option.some.inj h
    show FinP _ _ _ _ _ _ _
    exact FinP.ret _ (res1 rfl rfl) ⟨rfl, hr59, hS60.ext⟩

theorem c_laws_heldAction {w : World} {a_Matrices : (List (List (List Int)))} {v_a_Matrices : Value} {k1 : Int} (r_a_Matrices : (Ty.sl (Ty.sl (Ty.sl (Ty.i .i64)))).rep w v_a_Matrices a_Matrices) (r_k1 : InR .i64 k1) {res : Int} (h : p_laws_heldAction a_Matrices k1  = some res) :
    Ret Try.prog 29 #[(Value.agg #[v_a_Matrices]), (Value.int .i64 k1)] w (fun v w' => v = Value.int .i64 res ∧ InR .i64 res ∧ Ext w w') := by
  unfold p_laws_heldAction at h
  have hS0 : St w w [] := St.start w
  refine Ret.start (fn := Try.f29) Try.func29 rfl 12 rfl rfl ?_
  refine W.seq ?_
  refine W.region ?_
  refine WL.box hS0 rfl (cs := [v_a_Matrices]) rfl rfl ?_
  intro b1 wd2 hS3 he4 hx5
  replace hS3 : St w wd2 [bx b1 [v_a_Matrices]] := hS3
  have hx6 := St.boxAt hS3 0 rfl
  have hE7 : Ext w wd2 := hS3.ext
  have hS8 : St wd2 wd2 [] := St.start wd2
  refine WL.val (Value.int .i64 (0 : Int)) _ (op_assign rfl) rfl ?_
  refine WL.nil ?_
  show W _ _ _ _ _ _
  refine W.seq ?_
  refine W.region ?_
  refine WL.val (Value.pointer (some ⟨b1, 0, none⟩)) _ (op_fieldAddr fd_42_0 rfl) rfl ?_
  refine WL.val v_a_Matrices _ (op_load one_22 rfl (BoxAt.cell (BoxAt.lift hS8.ext hx6) rfl)) rfl ?_
  refine WL.val (Value.int .i64 k1) _ (op_move rfl) rfl ?_
  obtain ⟨x9, hx10, h⟩ := bs h
  refine WL.call _ (op_call fn_63 (args2 rfl rfl)) (c_laws_heldInt64SSS (Ty.lift _ (Ext.trans hE7 hS8.ext) r_a_Matrices) r_k1 hx10) rfl ?_
  rintro _ wd12 ⟨rfl, hr11, he13⟩
  have hS15 := St.extend hS8 he13
  replace hS15 : St wd2 wd12 [] := hS15
  refine WL.val (Value.int .i64 x9) _ (op_assign rfl) rfl ?_
  refine WL.nil ?_
  show W _ _ _ _ _ _
  refine W.seq ?_
  refine W.seq ?_
  refine W.region ?_
  refine WL.val (Value.int .i64 x9) _ (op_move rfl) rfl ?_
  refine WL.val (Value.bool (decide (x9 < (0 : Int)))) _ (op_lss rfl rfl) rfl ?_
  refine WL.nil ?_
  show W _ _ _ _ _ _
  refine W.cond (decide (x9 < (0 : Int))) rfl (fun hc16 => ?_) (fun hc16 => ?_)
  · replace h := ip h hc16
    refine W.seq ?_
    refine W.region ?_
    refine WL.val (Value.int .i64 (-1 : Int)) _ (op_assign rfl) rfl ?_
    refine WL.nil ?_
    show W _ _ _ _ _ _
    refine W.ret ?_
    obtain rfl := Option.some.inj h
    show FinP _ _ _ _ _ _ _
    exact FinP.ret _ (res1 rfl rfl) ⟨rfl, (inR_i64.2 (show (-9223372036854775808 : Int) ≤ -1 ∧ (-1 : Int) ≤ 9223372036854775807 from by decide)), (Ext.trans hE7 hS15.ext)⟩
  · replace h := inegb h hc16
    refine W.skip ?_
    show W _ _ _ _ _ _
    refine W.seq ?_
    refine W.region ?_
    refine WL.val (Value.int .i64 x9) _ (op_move rfl) rfl ?_
    refine WL.val (Value.int .i64 x9) _ (op_assign rfl) rfl ?_
    refine WL.nil ?_
    show W _ _ _ _ _ _
    refine W.ret ?_
    obtain rfl := Option.some.inj h
    show FinP _ _ _ _ _ _ _
    exact FinP.ret _ (res1 rfl rfl) ⟨rfl, hr11, (Ext.trans hE7 hS15.ext)⟩

theorem c_laws_FnExactRegularAction {w : World} {aR_Table : (List (List (List Int)))} {v_aR_Table : Value} (r_aR_Table : (Ty.sl (Ty.sl (Ty.sl (Ty.i .i64)))).rep w v_aR_Table aR_Table) {res : Bool} (h : p_laws_FnExactRegularAction aR_Table  = some res) :
    Ret Try.prog 7 #[(Value.agg #[v_aR_Table])] w (fun v w' => v = Value.bool res ∧ Ext w w') := by
  unfold p_laws_FnExactRegularAction at h
  have hS0 : St w w [] := St.start w
  refine Ret.start (fn := Try.f7) Try.func7 rfl 96 rfl rfl ?_
  refine W.seq ?_
  refine W.region ?_
  refine WL.box hS0 rfl (cs := [v_aR_Table]) rfl rfl ?_
  intro b1 wd2 hS3 he4 hx5
  replace hS3 : St w wd2 [bx b1 [v_aR_Table]] := hS3
  have hx6 := St.boxAt hS3 0 rfl
  have hE7 : Ext w wd2 := hS3.ext
  have hS8 : St wd2 wd2 [] := St.start wd2
  refine WL.val (Value.bool false) _ (op_assign rfl) rfl ?_
  refine WL.nil ?_
  show W _ _ _ _ _ _
  refine W.seq ?_
  refine W.region ?_
  refine WL.val (Value.int .i64 (1048576 : Int)) _ (op_assign rfl) rfl ?_
  refine WL.nil ?_
  show W _ _ _ _ _ _
  refine W.seq ?_
  refine W.region ?_
  refine WL.val (Value.agg #[v_aR_Table]) _ (op_loadBox st_24 rfl (BoxAt.lift hS8.ext hx6) rfl rfl) rfl ?_
  refine WL.val (Value.int .i64 (1048576 : Int)) _ (op_move rfl) rfl ?_
  obtain ⟨x9, hx10, h⟩ := bs h
  refine WL.call _ (op_call fn_9 (args2 rfl rfl)) (c_laws_szRing (Ty.lift _ (Ext.trans hE7 hS8.ext) r_aR_Table) (inR_i64.2 (show (-9223372036854775808 : Int) ≤ 1048576 ∧ (1048576 : Int) ≤ 9223372036854775807 from by decide)) hx10) rfl ?_
  rintro _ wd12 ⟨rfl, hr11, he13⟩
  have hS15 := St.extend hS8 he13
  replace hS15 : St wd2 wd12 [] := hS15
  refine WL.val (Value.int .i64 x9) _ (op_assign rfl) rfl ?_
  refine WL.nil ?_
  show W _ _ _ _ _ _
  refine W.seq ?_
  refine W.seq ?_
  refine W.region ?_
  refine WL.val (Value.int .i64 x9) _ (op_move rfl) rfl ?_
  refine WL.val (Value.bool (decide (x9 < (0 : Int)))) _ (op_lss rfl rfl) rfl ?_
  refine WL.nil ?_
  show W _ _ _ _ _ _
  refine W.cond (decide (x9 < (0 : Int))) rfl (fun hc16 => ?_) (fun hc16 => ?_)
  · replace h := ip h hc16
    refine W.seq ?_
    refine W.region ?_
    refine WL.val (Value.bool true) _ (op_assign rfl) rfl ?_
    refine WL.nil ?_
    show W _ _ _ _ _ _
    refine W.ret ?_
    obtain rfl := Option.some.inj h
    show FinP _ _ _ _ _ _ _
    exact FinP.ret _ (res1 rfl rfl) ⟨rfl, (Ext.trans hE7 hS15.ext)⟩
  · replace h := inegb h hc16
    refine W.skip ?_
    show W _ _ _ _ _ _
    refine W.seq ?_
    refine W.region ?_
    refine WL.val (Value.agg #[v_aR_Table]) _ (op_loadBox st_24 rfl (BoxAt.lift hS15.ext hx6) rfl rfl) rfl ?_
    obtain ⟨x18, hx19, h⟩ := bs h
    refine WL.call _ (op_call fn_11 (args1 rfl)) (c_laws_toRing (Ty.lift _ (Ext.trans hE7 hS15.ext) r_aR_Table) hx19) rfl ?_
    rintro _ wd21 ⟨u20, rfl, he22, hs23⟩
    have hS24 := St.join hS15 he22 hs23
    replace hS24 : St wd2 wd21 [(Ty.sl (Ty.sl (Ty.sl (Ty.i .i64)))).at u20 x18] := hS24
    have hb25 := St.rep (t := (Ty.sl (Ty.sl (Ty.sl (Ty.i .i64))))) hS24 0 rfl
    have hE26 : Ext w wd21 := (Ext.trans hE7 hS24.ext)
    have hE27 : Ext wd2 wd21 := hS24.ext
    have hS28 : St wd21 wd21 [] := St.start wd21
    obtain ⟨x29, hx30, h⟩ := bs h
    refine WL.call _ (op_call fn_25 (args1 rfl)) (c_spec_RegularAction (Ty.lift _ hS28.ext hb25) hx30) rfl ?_
    rintro _ wd33 ⟨u31, rfl, hr32, he34, hs35⟩
    have hS36 := St.join hS28 he34 hs35
    replace hS36 : St wd21 wd33 [(Ty.sl (Ty.sl (Ty.sl (Ty.i .i64)))).at u31 x29.1] := hS36
    refine WL.val (Value.tuple #[(Value.agg #[u31]), (Value.int .i64 x29.2)]) _ (op_move rfl) rfl ?_
    refine WL.val (Value.agg #[u31]) _ (op_extract rfl rfl) rfl ?_
    refine WL.val (Value.int .i64 x29.2) _ (op_extract rfl rfl) rfl ?_
    refine WL.alloc hS36 ze_42 (cs := [(Value.slice none 0 0)]) rfl rfl ?_
    intro b37 wd38 hS39 he40
    replace hS39 : St wd21 wd38 [(Ty.sl (Ty.sl (Ty.sl (Ty.i .i64)))).at u31 x29.1, bx b37 [(Value.slice none 0 0)]] := hS39
    refine WL.storeBox [u31] hS39 (k := 1) rfl rfl rfl (us := [u31]) rfl sz_42 rfl rfl (all_rep (St.rep (t := (Ty.sl (Ty.sl (Ty.sl (Ty.i .i64))))) hS39 0 rfl) all_nil) rfl ?_
    intro wd41 hS42
    replace hS42 : St wd21 wd41 [(Ty.sl (Ty.sl (Ty.sl (Ty.i .i64)))).at u31 x29.1, bx b37 [u31]] := hS42
    refine WL.val (Value.int .i64 x29.2) _ (op_assign rfl) rfl ?_
    refine WL.nil ?_
    show W _ _ _ _ _ _
    refine W.seq ?_
    refine W.region ?_
    refine WL.val (Value.agg #[v_aR_Table]) _ (op_loadBox st_24 rfl (BoxAt.lift (Ext.trans hE27 hS42.ext) hx6) rfl rfl) rfl ?_
    obtain ⟨x43, hx44, h⟩ := bs h
    refine WL.call _ (op_call fn_11 (args1 rfl)) (c_laws_toRing (Ty.lift _ (Ext.trans hE26 hS42.ext) r_aR_Table) hx44) rfl ?_
    rintro _ wd46 ⟨u45, rfl, he47, hs48⟩
    have hS49 := St.join hS42 he47 hs48
    replace hS49 : St wd21 wd46 [(Ty.sl (Ty.sl (Ty.sl (Ty.i .i64)))).at u31 x29.1, bx b37 [u31], (Ty.sl (Ty.sl (Ty.sl (Ty.i .i64)))).at u45 x43] := hS49
    refine WL.alloc hS49 ze_29 (cs := [(Value.slice none 0 0)]) rfl rfl ?_
    intro b50 wd51 hS52 he53
    replace hS52 : St wd21 wd51 [(Ty.sl (Ty.sl (Ty.sl (Ty.i .i64)))).at u31 x29.1, bx b37 [u31], (Ty.sl (Ty.sl (Ty.sl (Ty.i .i64)))).at u45 x43, bx b50 [(Value.slice none 0 0)]] := hS52
    refine WL.storeBox [u45] hS52 (k := 3) rfl rfl rfl (us := [u45]) rfl sz_29 rfl rfl (all_rep (St.rep (t := (Ty.sl (Ty.sl (Ty.sl (Ty.i .i64))))) hS52 2 rfl) all_nil) rfl ?_
    intro wd54 hS55
    replace hS55 : St wd21 wd54 [(Ty.sl (Ty.sl (Ty.sl (Ty.i .i64)))).at u31 x29.1, bx b37 [u31], (Ty.sl (Ty.sl (Ty.sl (Ty.i .i64)))).at u45 x43, bx b50 [u45]] := hS55
    refine WL.nil ?_
    show W _ _ _ _ _ _
    refine W.seq ?_
    refine W.region ?_
    refine WL.val (Value.agg #[u45]) _ (op_loadBox st_29 rfl (St.boxAt hS55 3 rfl) rfl rfl) rfl ?_
    obtain ⟨x56, hx57, h⟩ := bs h
    refine WL.call _ (op_call fn_26 (args1 rfl)) (c_impl_RegularAction (St.rep (t := (Ty.sl (Ty.sl (Ty.sl (Ty.i .i64))))) hS55 2 rfl) hx57) rfl ?_
    rintro _ wd60 ⟨u58, rfl, hr59, he61, hs62⟩
    have hS63 := St.join hS55 he61 hs62
    replace hS63 : St wd21 wd60 [(Ty.sl (Ty.sl (Ty.sl (Ty.i .i64)))).at u31 x29.1, bx b37 [u31], (Ty.sl (Ty.sl (Ty.sl (Ty.i .i64)))).at u45 x43, bx b50 [u45], (Ty.sl (Ty.sl (Ty.sl (Ty.i .i64)))).at u58 x56.1] := hS63
    refine WL.val (Value.tuple #[(Value.agg #[u58]), (Value.int .i64 x56.2)]) _ (op_move rfl) rfl ?_
    refine WL.val (Value.agg #[u58]) _ (op_extract rfl rfl) rfl ?_
    refine WL.val (Value.int .i64 x56.2) _ (op_extract rfl rfl) rfl ?_
    refine WL.alloc hS63 ze_42 (cs := [(Value.slice none 0 0)]) rfl rfl ?_
    intro b64 wd65 hS66 he67
    replace hS66 : St wd21 wd65 [(Ty.sl (Ty.sl (Ty.sl (Ty.i .i64)))).at u31 x29.1, bx b37 [u31], (Ty.sl (Ty.sl (Ty.sl (Ty.i .i64)))).at u45 x43, bx b50 [u45], (Ty.sl (Ty.sl (Ty.sl (Ty.i .i64)))).at u58 x56.1, bx b64 [(Value.slice none 0 0)]] := hS66
    refine WL.storeBox [u58] hS66 (k := 5) rfl rfl rfl (us := [u58]) rfl sz_42 rfl rfl (all_rep (St.rep (t := (Ty.sl (Ty.sl (Ty.sl (Ty.i .i64))))) hS66 4 rfl) all_nil) rfl ?_
    intro wd68 hS69
    replace hS69 : St wd21 wd68 [(Ty.sl (Ty.sl (Ty.sl (Ty.i .i64)))).at u31 x29.1, bx b37 [u31], (Ty.sl (Ty.sl (Ty.sl (Ty.i .i64)))).at u45 x43, bx b50 [u45], (Ty.sl (Ty.sl (Ty.sl (Ty.i .i64)))).at u58 x56.1, bx b64 [u58]] := hS69
    refine WL.val (Value.int .i64 x56.2) _ (op_assign rfl) rfl ?_
    refine WL.nil ?_
    show W _ _ _ _ _ _
    refine W.seq ?_
    refine W.seq ?_
    refine W.region ?_
    refine WL.val (Value.agg #[u58]) _ (op_loadBox st_42 rfl (St.boxAt hS69 5 rfl) rfl rfl) rfl ?_
    refine WL.val (Value.agg #[u31]) _ (op_loadBox st_42 rfl (St.boxAt hS69 1 rfl) rfl rfl) rfl ?_
    obtain ⟨x70, hx71, h⟩ := bs h
    refine WL.call _ (op_call fn_22 (args2 rfl rfl)) (c_laws_eqAction (St.rep (t := (Ty.sl (Ty.sl (Ty.sl (Ty.i .i64))))) hS69 4 rfl) (St.rep (t := (Ty.sl (Ty.sl (Ty.sl (Ty.i .i64))))) hS69 0 rfl) hx71) rfl ?_
    rintro _ wd72 ⟨rfl, he73⟩
    have hS75 := St.extend hS69 he73
    replace hS75 : St wd21 wd72 [(Ty.sl (Ty.sl (Ty.sl (Ty.i .i64)))).at u31 x29.1, bx b37 [u31], (Ty.sl (Ty.sl (Ty.sl (Ty.i .i64)))).at u45 x43, bx b50 [u45], (Ty.sl (Ty.sl (Ty.sl (Ty.i .i64)))).at u58 x56.1, bx b64 [u58]] := hS75
    refine WL.val (Value.bool (!x70)) _ (op_not rfl) rfl ?_
    refine WL.val (Value.bool (!x70)) _ (op_move rfl) rfl ?_
    refine WL.cut 4 (fun fq wq => fq 1 = (Value.pointer (some ⟨b1, 0, none⟩)) ∧ fq 4 = (Value.pointer (some ⟨b37, 0, none⟩)) ∧ fq 5 = (Value.int .i64 x29.2) ∧ fq 6 = (Value.pointer (some ⟨b50, 0, none⟩)) ∧ fq 7 = (Value.pointer (some ⟨b64, 0, none⟩)) ∧ fq 8 = (Value.int .i64 x56.2) ∧ fq 40 = (Value.bool ((!x70) || (x56.2 != x29.2))) ∧ St wd21 wq [(Ty.sl (Ty.sl (Ty.sl (Ty.i .i64)))).at u31 x29.1, bx b37 [u31], (Ty.sl (Ty.sl (Ty.sl (Ty.i .i64)))).at u45 x43, bx b50 [u45], (Ty.sl (Ty.sl (Ty.sl (Ty.i .i64)))).at u58 x56.1, bx b64 [u58]]) ?_ ?_
    · rcases Bool.eq_false_or_eq_true (!x70) with hc76 | hc76
      · refine WL.gskip rfl (bool_of rfl hc76) rfl ?_
        refine WL.gskip rfl (bool_of rfl hc76) rfl ?_
        refine WL.gskip rfl (bool_of rfl hc76) rfl ?_
        refine WL.val (Value.bool true) _ (op_pick_t (evb_of rfl hc76) rfl) rfl ?_
        refine WL.nil ?_
        exact ⟨rfl, rfl, rfl, rfl, rfl, rfl, rfl, (orT hc76), hS75⟩
      · refine WL.grun rfl (bool_of rfl hc76) ?_
        refine WL.val (Value.int .i64 x56.2) _ (op_move rfl) rfl ?_
        refine WL.grun rfl (bool_of rfl hc76) ?_
        refine WL.val (Value.int .i64 x29.2) _ (op_move rfl) rfl ?_
        refine WL.grun rfl (bool_of rfl hc76) ?_
        refine WL.val (Value.bool (x56.2 != x29.2)) _ (op_neq rfl rfl) rfl ?_
        refine WL.val (Value.bool (x56.2 != x29.2)) _ (op_pick_f (evb_of rfl hc76) rfl) rfl ?_
        refine WL.nil ?_
        exact ⟨rfl, rfl, rfl, rfl, rfl, rfl, rfl, (orF hc76), hS75⟩
    · intro f77 wd78 hq79
      obtain ⟨hf80, hf81, hf82, hf83, hf84, hf85, hf86, hS87⟩ := hq79
      refine WL.nil ?_
      show W _ _ _ _ _ _
      refine W.cond ((!x70) || (x56.2 != x29.2)) hf86 (fun hc88 => ?_) (fun hc88 => ?_)
      · replace h := ip h hc88
        refine W.seq ?_
        refine W.region ?_
        refine WL.val (Value.bool false) _ (op_assign rfl) rfl ?_
        refine WL.nil ?_
        show W _ _ _ _ _ _
        refine W.ret ?_
        obtain rfl := Option.some.inj h
        show FinP _ _ _ _ _ _ _
        exact FinP.ret _ (res1 rfl rfl) ⟨rfl, (Ext.trans hE26 hS87.ext)⟩
      · replace h := inegb h hc88
        refine W.skip ?_
        show W _ _ _ _ _ _
        refine W.seq ?_
        refine W.seq ?_
        obtain ⟨x116, hx117, h⟩ := bs h
        refine W.drawR mixo 3 [] [fun _ v S w' => ∃ (uu0 : Value), v = (Value.agg #[uu0]) ∧ (Ty.sl (Ty.sl (Ty.sl (Ty.i .i64)))).rep w' uu0 x43, fun _ v S w' => ∃ (uu0 : Value), v = (Value.agg #[uu0]) ∧ (Ty.sl (Ty.sl (Ty.sl (Ty.i .i64)))).rep w' uu0 aR_Table, fun _ v S w' => ∃ (uu0 : Value), v = (Value.agg #[uu0]) ∧ SepS S w' [(Ty.sl (Ty.sl (Ty.sl (Ty.i .i64)))).at uu0 x116]] (by kernel_rfl) (by kernel_rfl) ⟨⟨fun _ _ _ _ _ he ⟨uu0, h0, r0⟩ => ⟨uu0, h0, Ty.lift _ he r0⟩, fun _ _ _ _ _ _ h => h⟩, ⟨fun _ _ _ _ _ he ⟨uu0, h0, r0⟩ => ⟨uu0, h0, Ty.lift _ he r0⟩, fun _ _ _ _ _ _ h => h⟩, ⟨fun _ _ _ _ _ he ⟨uu0, h0, r0⟩ => ⟨uu0, h0, SepS.extend he r0⟩, fun _ _ _ _ _ _ h => h⟩, trivial⟩ ⟨?_, ?_, ?_, trivial⟩ ?_
        · refine ObX.op rfl ?_
          intro f90 wd91 he92 hout93 hphi94
          have hS95 : St wd21 wd91 [(Ty.sl (Ty.sl (Ty.sl (Ty.i .i64)))).at u31 x29.1, bx b37 [u31], (Ty.sl (Ty.sl (Ty.sl (Ty.i .i64)))).at u45 x43, bx b50 [u45], (Ty.sl (Ty.sl (Ty.sl (Ty.i .i64)))).at u58 x56.1, bx b64 [u58]] := St.extend hS87 he92
          have e96 : f90 6 = (Value.pointer (some ⟨b50, 0, none⟩)) := (hout93 6 rfl).trans hf83
          exact OpX.val (Value.agg #[u45]) wd91 rfl (op_loadBox st_29 e96 (St.boxAt hS95 3 rfl) rfl rfl) (Ext.refl _) ⟨u45, rfl, (St.rep (t := (Ty.sl (Ty.sl (Ty.sl (Ty.i .i64))))) hS95 2 rfl)⟩
        · refine ObX.op rfl ?_
          intro f97 wd98 he99 hout100 hphi101
          have hS102 : St wd21 wd98 [(Ty.sl (Ty.sl (Ty.sl (Ty.i .i64)))).at u31 x29.1, bx b37 [u31], (Ty.sl (Ty.sl (Ty.sl (Ty.i .i64)))).at u45 x43, bx b50 [u45], (Ty.sl (Ty.sl (Ty.sl (Ty.i .i64)))).at u58 x56.1, bx b64 [u58]] := St.extend hS87 he99
          have e103 : f97 1 = (Value.pointer (some ⟨b1, 0, none⟩)) := (hout100 1 rfl).trans hf80
          exact OpX.val (Value.agg #[v_aR_Table]) wd98 rfl (op_loadBox st_24 e103 (BoxAt.lift (Ext.trans hE27 hS102.ext) hx6) rfl rfl) (Ext.refl _) ⟨v_aR_Table, rfl, (Ty.lift _ (Ext.trans hE26 hS102.ext) r_aR_Table)⟩
        · refine ObX.op rfl ?_
          intro f104 wd105 he106 hout107 hphi108
          have hS109 : St wd21 wd105 [(Ty.sl (Ty.sl (Ty.sl (Ty.i .i64)))).at u31 x29.1, bx b37 [u31], (Ty.sl (Ty.sl (Ty.sl (Ty.i .i64)))).at u45 x43, bx b50 [u45], (Ty.sl (Ty.sl (Ty.sl (Ty.i .i64)))).at u58 x56.1, bx b64 [u58]] := St.extend hS87 he106
          obtain ⟨S110, hS111, hf112⟩ := hphi108 1 42 _ rfl rfl rfl
          obtain ⟨u114, e113, hr115⟩ := hf112
          refine OpX.call rfl (op_call fn_11 (args1 e113)) (Ret.mono (c_laws_toRing hr115 hx117) ?_)
          rintro _ wd119 ⟨u118, rfl, he120, hs121⟩
          exact ⟨he120, _, newS _ _, ⟨u118, rfl, (Sep.new hs121)⟩⟩
        · intro f122 wd123 Ss124 he125 hout126 hSn127 hSd128 hphi129
          show WL _ _ _ _ _ _ _
          have hS130 : St wd21 wd123 [(Ty.sl (Ty.sl (Ty.sl (Ty.i .i64)))).at u31 x29.1, bx b37 [u31], (Ty.sl (Ty.sl (Ty.sl (Ty.i .i64)))).at u45 x43, bx b50 [u45], (Ty.sl (Ty.sl (Ty.sl (Ty.i .i64)))).at u58 x56.1, bx b64 [u58]] := St.extend hS87 he125
          obtain ⟨u132, e131, hr133⟩ := hphi129 0 41 _ (by decide) rfl rfl
          obtain ⟨u135, e134, e134s⟩ := hphi129 2 43 _ (by decide) rfl rfl
          have e136 : f122 1 = (Value.pointer (some ⟨b1, 0, none⟩)) := (hout126 1 rfl).trans hf80
          have e137 : f122 4 = (Value.pointer (some ⟨b37, 0, none⟩)) := (hout126 4 rfl).trans hf81
          have e138 : f122 5 = (Value.int .i64 x29.2) := (hout126 5 rfl).trans hf82
          have e139 : f122 6 = (Value.pointer (some ⟨b50, 0, none⟩)) := (hout126 6 rfl).trans hf83
          have e140 : f122 7 = (Value.pointer (some ⟨b64, 0, none⟩)) := (hout126 7 rfl).trans hf84
          have e141 : f122 8 = (Value.int .i64 x56.2) := (hout126 8 rfl).trans hf85
          have hS142 := St.joinS hS87 he125 hSn127 (SepS.consS hSd128 rfl e134s SepS.nilS)
          replace hS142 : St wd21 wd123 [(Ty.sl (Ty.sl (Ty.sl (Ty.i .i64)))).at u31 x29.1, bx b37 [u31], (Ty.sl (Ty.sl (Ty.sl (Ty.i .i64)))).at u45 x43, bx b50 [u45], (Ty.sl (Ty.sl (Ty.sl (Ty.i .i64)))).at u58 x56.1, bx b64 [u58], (Ty.sl (Ty.sl (Ty.sl (Ty.i .i64)))).at u135 x116] := hS142
          obtain ⟨x143, hx144, h⟩ := bs h
          refine WL.call _ (op_call fn_14 (args2 e131 e134)) (c_laws_eqRing hr133 (St.rep (t := (Ty.sl (Ty.sl (Ty.sl (Ty.i .i64))))) hS142 6 rfl) hx144) rfl ?_
          rintro _ wd145 ⟨rfl, he146⟩
          have hS148 := St.extend hS142 he146
          replace hS148 : St wd21 wd145 [(Ty.sl (Ty.sl (Ty.sl (Ty.i .i64)))).at u31 x29.1, bx b37 [u31], (Ty.sl (Ty.sl (Ty.sl (Ty.i .i64)))).at u45 x43, bx b50 [u45], (Ty.sl (Ty.sl (Ty.sl (Ty.i .i64)))).at u58 x56.1, bx b64 [u58], (Ty.sl (Ty.sl (Ty.sl (Ty.i .i64)))).at u135 x116] := hS148
          refine WL.val (Value.bool (!x143)) _ (op_not rfl) rfl ?_
          refine WL.nil ?_
          show W _ _ _ _ _ _
          refine W.cond (!x143) rfl (fun hc149 => ?_) (fun hc149 => ?_)
          · replace h := ip h hc149
            refine W.seq ?_
            refine W.region ?_
            refine WL.val (Value.bool false) _ (op_assign rfl) rfl ?_
            refine WL.nil ?_
            show W _ _ _ _ _ _
            refine W.ret ?_
            obtain rfl := Option.some.inj h
            show FinP _ _ _ _ _ _ _
            exact FinP.ret _ (res1 rfl rfl) ⟨rfl, (Ext.trans hE26 hS148.ext)⟩
          · replace h := inegb h hc149
            refine W.skip ?_
            show W _ _ _ _ _ _
            refine W.seq ?_
            refine W.region ?_
            refine WL.val (Value.int .i64 (1 : Int)) _ (op_assign rfl) rfl ?_
            refine WL.nil ?_
            show W _ _ _ _ _ _
            refine W.seq ?_
            refine W.region ?_
            refine WL.val (Value.agg #[u45]) _ (op_loadBox st_29 e139 (St.boxAt hS148 3 rfl) rfl rfl) rfl ?_
            refine WL.val (Value.int .i64 (1 : Int)) _ (op_move rfl) rfl ?_
            obtain ⟨x151, hx152, h⟩ := bs h
            have hS153 := St.fold [(Ty.sl (Ty.sl (Ty.sl (Ty.i .i64)))).at u45 x43] [(Ty.sl (Ty.sl (Ty.sl (Ty.i .i64)))).at u31 x29.1, bx b37 [u31], bx b50 [u45], (Ty.sl (Ty.sl (Ty.sl (Ty.i .i64)))).at u58 x56.1, bx b64 [u58], (Ty.sl (Ty.sl (Ty.sl (Ty.i .i64)))).at u135 x116] (St.pick hS148 [2, 0, 1, 3, 4, 5, 6] rfl)
            refine WL.call _ (op_call fn_27 (args2 rfl rfl)) (c_laws_markRing hS153 (inR_i64.2 (show (-9223372036854775808 : Int) ≤ 1 ∧ (1 : Int) ≤ 9223372036854775807 from by decide)) hx152) rfl ?_
            rintro _ wd156 ⟨rfl, hr157, hS154⟩
            have hS155 := St.pick (St.unfold [(Ty.sl (Ty.sl (Ty.sl (Ty.i .i64)))).at u45 x151.2] [(Ty.sl (Ty.sl (Ty.sl (Ty.i .i64)))).at u31 x29.1, bx b37 [u31], bx b50 [u45], (Ty.sl (Ty.sl (Ty.sl (Ty.i .i64)))).at u58 x56.1, bx b64 [u58], (Ty.sl (Ty.sl (Ty.sl (Ty.i .i64)))).at u135 x116] hS154) [1, 2, 0, 3, 4, 5, 6] rfl
            replace hS155 : St wd21 wd156 [(Ty.sl (Ty.sl (Ty.sl (Ty.i .i64)))).at u31 x29.1, bx b37 [u31], (Ty.sl (Ty.sl (Ty.sl (Ty.i .i64)))).at u45 x151.2, bx b50 [u45], (Ty.sl (Ty.sl (Ty.sl (Ty.i .i64)))).at u58 x56.1, bx b64 [u58], (Ty.sl (Ty.sl (Ty.sl (Ty.i .i64)))).at u135 x116] := hS155
            refine WL.val (Value.int .i64 x151.1) _ (op_assign rfl) rfl ?_
            refine WL.nil ?_
            show W _ _ _ _ _ _
            refine W.seq ?_
            refine W.seq ?_
            refine W.region ?_
            refine WL.val (Value.int .i64 x151.1) _ (op_move rfl) rfl ?_
            refine WL.val (Value.bool (decide (x151.1 < (0 : Int)))) _ (op_lss rfl rfl) rfl ?_
            refine WL.val (Value.bool (decide (x151.1 < (0 : Int)))) _ (op_move rfl) rfl ?_
            obtain ⟨x159, hj160, h⟩ := bs h
            refine WL.cut 5 (fun fq wq => fq 1 = (Value.pointer (some ⟨b1, 0, none⟩)) ∧ fq 4 = (Value.pointer (some ⟨b37, 0, none⟩)) ∧ fq 5 = (Value.int .i64 x29.2) ∧ fq 7 = (Value.pointer (some ⟨b64, 0, none⟩)) ∧ fq 8 = (Value.int .i64 x56.2) ∧ fq 56 = Value.bool x159 ∧ St wd21 wq [(Ty.sl (Ty.sl (Ty.sl (Ty.i .i64)))).at u31 x29.1, bx b37 [u31], (Ty.sl (Ty.sl (Ty.sl (Ty.i .i64)))).at u58 x56.1, bx b64 [u58]]) ?_ ?_
            · rcases Bool.eq_false_or_eq_true (decide (x151.1 < (0 : Int))) with hc158 | hc158
              · replace hj160 := ip hj160 hc158
                refine WL.gskip rfl (bool_of rfl hc158) rfl ?_
                refine WL.gskip rfl (bool_of rfl hc158) rfl ?_
                refine WL.gskip rfl (bool_of rfl hc158) rfl ?_
                refine WL.gskip rfl (bool_of rfl hc158) rfl ?_
                refine WL.val (Value.bool true) _ (op_pick_t (evb_of rfl hc158) rfl) rfl ?_
                refine WL.nil ?_
                obtain rfl := Option.some.inj hj160
                exact ⟨rfl, e136, e137, e138, e140, e141, rfl, (St.pick hS155 [0, 1, 4, 5] rfl)⟩
              · replace hj160 := inegb hj160 hc158
                refine WL.grun rfl (bool_of rfl hc158) ?_
                refine WL.val (Value.agg #[u58]) _ (op_loadBox st_42 e140 (St.boxAt hS155 5 rfl) rfl rfl) rfl ?_
                refine WL.grun rfl (bool_of rfl hc158) ?_
                refine WL.val (Value.agg #[u31]) _ (op_loadBox st_42 e137 (St.boxAt hS155 1 rfl) rfl rfl) rfl ?_
                refine WL.grun rfl (bool_of rfl hc158) ?_
                obtain ⟨x164, hx165, hj160⟩ := bs hj160
                refine WL.call _ (op_call fn_22 (args2 rfl rfl)) (c_laws_eqAction (St.rep (t := (Ty.sl (Ty.sl (Ty.sl (Ty.i .i64))))) hS155 4 rfl) (St.rep (t := (Ty.sl (Ty.sl (Ty.sl (Ty.i .i64))))) hS155 0 rfl) hx165) rfl ?_
                rintro _ wd166 ⟨rfl, he167⟩
                have hS169 := St.extend hS155 he167
                replace hS169 : St wd21 wd166 [(Ty.sl (Ty.sl (Ty.sl (Ty.i .i64)))).at u31 x29.1, bx b37 [u31], (Ty.sl (Ty.sl (Ty.sl (Ty.i .i64)))).at u45 x151.2, bx b50 [u45], (Ty.sl (Ty.sl (Ty.sl (Ty.i .i64)))).at u58 x56.1, bx b64 [u58], (Ty.sl (Ty.sl (Ty.sl (Ty.i .i64)))).at u135 x116] := hS169
                refine WL.grun rfl (bool_of rfl hc158) ?_
                refine WL.val (Value.bool (!x164)) _ (op_not rfl) rfl ?_
                refine WL.val (Value.bool (!x164)) _ (op_pick_f (evb_of rfl hc158) rfl) rfl ?_
                refine WL.nil ?_
                obtain rfl := Option.some.inj hj160
                exact ⟨rfl, e136, e137, e138, e140, e141, rfl, (St.pick hS169 [0, 1, 4, 5] rfl)⟩
            · intro f161 wd162 hq163
              obtain ⟨hf170, hf171, hf172, hf173, hf174, hf175, hS176⟩ := hq163
              refine WL.val (Value.bool x159) _ (op_move hf175) rfl ?_
              refine WL.cut 4 (fun fq wq => fq 1 = (Value.pointer (some ⟨b1, 0, none⟩)) ∧ fq 4 = (Value.pointer (some ⟨b37, 0, none⟩)) ∧ fq 5 = (Value.int .i64 x29.2) ∧ fq 7 = (Value.pointer (some ⟨b64, 0, none⟩)) ∧ fq 61 = (Value.bool (x159 || (x56.2 != x29.2))) ∧ St wd21 wq [(Ty.sl (Ty.sl (Ty.sl (Ty.i .i64)))).at u31 x29.1, bx b37 [u31], (Ty.sl (Ty.sl (Ty.sl (Ty.i .i64)))).at u58 x56.1, bx b64 [u58]]) ?_ ?_
              · rcases Bool.eq_false_or_eq_true x159 with hc177 | hc177
                · refine WL.gskip rfl (bool_of rfl hc177) rfl ?_
                  refine WL.gskip rfl (bool_of rfl hc177) rfl ?_
                  refine WL.gskip rfl (bool_of rfl hc177) rfl ?_
                  refine WL.val (Value.bool true) _ (op_pick_t (evb_of rfl hc177) rfl) rfl ?_
                  refine WL.nil ?_
                  exact ⟨rfl, hf170, hf171, hf172, hf173, (orT hc177), hS176⟩
                · refine WL.grun rfl (bool_of rfl hc177) ?_
                  refine WL.val (Value.int .i64 x56.2) _ (op_move hf174) rfl ?_
                  refine WL.grun rfl (bool_of rfl hc177) ?_
                  refine WL.val (Value.int .i64 x29.2) _ (op_move hf172) rfl ?_
                  refine WL.grun rfl (bool_of rfl hc177) ?_
                  refine WL.val (Value.bool (x56.2 != x29.2)) _ (op_neq rfl rfl) rfl ?_
                  refine WL.val (Value.bool (x56.2 != x29.2)) _ (op_pick_f (evb_of rfl hc177) rfl) rfl ?_
                  refine WL.nil ?_
                  exact ⟨rfl, hf170, hf171, hf172, hf173, (orF hc177), hS176⟩
              · intro f178 wd179 hq180
                obtain ⟨hf181, hf182, hf183, hf184, hf185, hS186⟩ := hq180
                refine WL.nil ?_
                show W _ _ _ _ _ _
                refine W.cond (x159 || (x56.2 != x29.2)) hf185 (fun hc187 => ?_) (fun hc187 => ?_)
                · replace h := ip h hc187
                  refine W.seq ?_
                  refine W.region ?_
                  refine WL.val (Value.bool false) _ (op_assign rfl) rfl ?_
                  refine WL.nil ?_
                  show W _ _ _ _ _ _
                  refine W.ret ?_
                  obtain rfl := Option.some.inj h
                  show FinP _ _ _ _ _ _ _
                  exact FinP.ret _ (res1 rfl rfl) ⟨rfl, (Ext.trans hE26 hS186.ext)⟩
                · replace h := inegb h hc187
                  refine W.skip ?_
                  show W _ _ _ _ _ _
                  refine W.seq ?_
                  refine W.region ?_
                  refine WL.val (Value.int .i64 (1 : Int)) _ (op_assign rfl) rfl ?_
                  refine WL.nil ?_
                  show W _ _ _ _ _ _
                  refine W.seq ?_
                  refine W.region ?_
                  refine WL.val (Value.agg #[u58]) _ (op_loadBox st_42 hf184 (St.boxAt hS186 3 rfl) rfl rfl) rfl ?_
                  refine WL.val (Value.int .i64 (1 : Int)) _ (op_move rfl) rfl ?_
                  obtain ⟨x189, hx190, h⟩ := bs h
                  have hS191 := St.fold [(Ty.sl (Ty.sl (Ty.sl (Ty.i .i64)))).at u58 x56.1] [(Ty.sl (Ty.sl (Ty.sl (Ty.i .i64)))).at u31 x29.1, bx b37 [u31], bx b64 [u58]] (St.pick hS186 [2, 0, 1, 3] rfl)
                  refine WL.call _ (op_call fn_28 (args2 rfl rfl)) (c_laws_markAction hS191 (inR_i64.2 (show (-9223372036854775808 : Int) ≤ 1 ∧ (1 : Int) ≤ 9223372036854775807 from by decide)) hx190) rfl ?_
                  rintro _ wd194 ⟨rfl, hr195, hS192⟩
                  have hS193 := St.pick (St.unfold [(Ty.sl (Ty.sl (Ty.sl (Ty.i .i64)))).at u58 x189.2] [(Ty.sl (Ty.sl (Ty.sl (Ty.i .i64)))).at u31 x29.1, bx b37 [u31], bx b64 [u58]] hS192) [1, 2, 0, 3] rfl
                  replace hS193 : St wd21 wd194 [(Ty.sl (Ty.sl (Ty.sl (Ty.i .i64)))).at u31 x29.1, bx b37 [u31], (Ty.sl (Ty.sl (Ty.sl (Ty.i .i64)))).at u58 x189.2, bx b64 [u58]] := hS193
                  refine WL.val (Value.int .i64 x189.1) _ (op_assign rfl) rfl ?_
                  refine WL.nil ?_
                  show W _ _ _ _ _ _
                  refine W.seq ?_
                  refine W.region ?_
                  refine WL.val (Value.int .i64 (1 : Int)) _ (op_assign rfl) rfl ?_
                  refine WL.nil ?_
                  show W _ _ _ _ _ _
                  refine W.seq ?_
                  refine W.region ?_
                  refine WL.val (Value.agg #[u58]) _ (op_loadBox st_42 hf184 (St.boxAt hS193 3 rfl) rfl rfl) rfl ?_
                  refine WL.val (Value.int .i64 (1 : Int)) _ (op_move rfl) rfl ?_
                  obtain ⟨x196, hx197, h⟩ := bs h
                  refine WL.call _ (op_call fn_29 (args2 rfl rfl)) (c_laws_heldAction (St.rep (t := (Ty.sl (Ty.sl (Ty.sl (Ty.i .i64))))) hS193 2 rfl) (inR_i64.2 (show (-9223372036854775808 : Int) ≤ 1 ∧ (1 : Int) ≤ 9223372036854775807 from by decide)) hx197) rfl ?_
                  rintro _ wd199 ⟨rfl, hr198, he200⟩
                  have hS202 := St.extend hS193 he200
                  replace hS202 : St wd21 wd199 [(Ty.sl (Ty.sl (Ty.sl (Ty.i .i64)))).at u31 x29.1, bx b37 [u31], (Ty.sl (Ty.sl (Ty.sl (Ty.i .i64)))).at u58 x189.2, bx b64 [u58]] := hS202
                  refine WL.val (Value.int .i64 x196) _ (op_assign rfl) rfl ?_
                  refine WL.nil ?_
                  show W _ _ _ _ _ _
                  refine W.seq ?_
                  refine W.seq ?_
                  refine W.region ?_
                  refine WL.val (Value.int .i64 x196) _ (op_move rfl) rfl ?_
                  refine WL.val (Value.bool (decide (x196 < (0 : Int)))) _ (op_lss rfl rfl) rfl ?_
                  refine WL.nil ?_
                  show W _ _ _ _ _ _
                  refine W.cond (decide (x196 < (0 : Int))) rfl (fun hc203 => ?_) (fun hc203 => ?_)
                  · replace h := ip h hc203
                    refine W.seq ?_
                    refine W.region ?_
                    refine WL.val (Value.bool false) _ (op_assign rfl) rfl ?_
                    refine WL.nil ?_
                    show W _ _ _ _ _ _
                    refine W.ret ?_
                    obtain rfl := Option.some.inj h
                    show FinP _ _ _ _ _ _ _
                    exact FinP.ret _ (res1 rfl rfl) ⟨rfl, (Ext.trans hE26 hS202.ext)⟩
                  · replace h := inegb h hc203
                    refine W.skip ?_
                    show W _ _ _ _ _ _
                    refine W.seq ?_
                    refine W.seq ?_
                    refine W.region ?_
                    refine WL.val (Value.int .i64 x196) _ (op_move rfl) rfl ?_
                    refine WL.val (Value.int .i64 x189.1) _ (op_move rfl) rfl ?_
                    refine WL.val (Value.bool (x196 != x189.1)) _ (op_neq rfl rfl) rfl ?_
                    refine WL.nil ?_
                    show W _ _ _ _ _ _
                    refine W.cond (x196 != x189.1) rfl (fun hc205 => ?_) (fun hc205 => ?_)
                    · replace h := ip h hc205
                      refine W.seq ?_
                      refine W.region ?_
                      refine WL.val (Value.bool false) _ (op_assign rfl) rfl ?_
                      refine WL.nil ?_
                      show W _ _ _ _ _ _
                      refine W.ret ?_
                      obtain rfl := Option.some.inj h
                      show FinP _ _ _ _ _ _ _
                      exact FinP.ret _ (res1 rfl rfl) ⟨rfl, (Ext.trans hE26 hS202.ext)⟩
                    · replace h := inegb h hc205
                      refine W.skip ?_
                      show W _ _ _ _ _ _
                      refine W.seq ?_
                      refine W.region ?_
                      refine WL.val (Value.agg #[v_aR_Table]) _ (op_loadBox st_24 hf181 (BoxAt.lift (Ext.trans hE27 hS202.ext) hx6) rfl rfl) rfl ?_
                      obtain ⟨x207, hx208, h⟩ := bs h
                      refine WL.call _ (op_call fn_11 (args1 rfl)) (c_laws_toRing (Ty.lift _ (Ext.trans hE26 hS202.ext) r_aR_Table) hx208) rfl ?_
                      rintro _ wd210 ⟨u209, rfl, he211, hs212⟩
                      have hS213 := St.join hS202 he211 hs212
                      replace hS213 : St wd21 wd210 [(Ty.sl (Ty.sl (Ty.sl (Ty.i .i64)))).at u31 x29.1, bx b37 [u31], (Ty.sl (Ty.sl (Ty.sl (Ty.i .i64)))).at u58 x189.2, bx b64 [u58], (Ty.sl (Ty.sl (Ty.sl (Ty.i .i64)))).at u209 x207] := hS213
                      obtain ⟨x214, hx215, h⟩ := bs h
                      refine WL.call _ (op_call fn_26 (args1 rfl)) (c_impl_RegularAction (St.rep (t := (Ty.sl (Ty.sl (Ty.sl (Ty.i .i64))))) hS213 4 rfl) hx215) rfl ?_
                      rintro _ wd218 ⟨u216, rfl, hr217, he219, hs220⟩
                      have hS221 := St.join hS213 he219 hs220
                      replace hS221 : St wd21 wd218 [(Ty.sl (Ty.sl (Ty.sl (Ty.i .i64)))).at u31 x29.1, bx b37 [u31], (Ty.sl (Ty.sl (Ty.sl (Ty.i .i64)))).at u58 x189.2, bx b64 [u58], (Ty.sl (Ty.sl (Ty.sl (Ty.i .i64)))).at u209 x207, (Ty.sl (Ty.sl (Ty.sl (Ty.i .i64)))).at u216 x214.1] := hS221
                      refine WL.val (Value.tuple #[(Value.agg #[u216]), (Value.int .i64 x214.2)]) _ (op_move rfl) rfl ?_
                      refine WL.val (Value.agg #[u216]) _ (op_extract rfl rfl) rfl ?_
                      refine WL.val (Value.int .i64 x214.2) _ (op_extract rfl rfl) rfl ?_
                      refine WL.alloc hS221 ze_42 (cs := [(Value.slice none 0 0)]) rfl rfl ?_
                      intro b222 wd223 hS224 he225
                      replace hS224 : St wd21 wd223 [(Ty.sl (Ty.sl (Ty.sl (Ty.i .i64)))).at u31 x29.1, bx b37 [u31], (Ty.sl (Ty.sl (Ty.sl (Ty.i .i64)))).at u58 x189.2, bx b64 [u58], (Ty.sl (Ty.sl (Ty.sl (Ty.i .i64)))).at u209 x207, (Ty.sl (Ty.sl (Ty.sl (Ty.i .i64)))).at u216 x214.1, bx b222 [(Value.slice none 0 0)]] := hS224
                      refine WL.storeBox [u216] hS224 (k := 6) rfl rfl rfl (us := [u216]) rfl sz_42 rfl rfl (all_rep (St.rep (t := (Ty.sl (Ty.sl (Ty.sl (Ty.i .i64))))) hS224 5 rfl) all_nil) rfl ?_
                      intro wd226 hS227
                      replace hS227 : St wd21 wd226 [(Ty.sl (Ty.sl (Ty.sl (Ty.i .i64)))).at u31 x29.1, bx b37 [u31], (Ty.sl (Ty.sl (Ty.sl (Ty.i .i64)))).at u58 x189.2, bx b64 [u58], (Ty.sl (Ty.sl (Ty.sl (Ty.i .i64)))).at u209 x207, (Ty.sl (Ty.sl (Ty.sl (Ty.i .i64)))).at u216 x214.1, bx b222 [u216]] := hS227
                      refine WL.val (Value.int .i64 x214.2) _ (op_assign rfl) rfl ?_
                      refine WL.nil ?_
                      show W _ _ _ _ _ _
                      refine W.seq ?_
                      refine W.seq ?_
                      refine W.region ?_
                      refine WL.val (Value.agg #[u216]) _ (op_loadBox st_42 rfl (St.boxAt hS227 6 rfl) rfl rfl) rfl ?_
                      refine WL.val (Value.agg #[u31]) _ (op_loadBox st_42 hf182 (St.boxAt hS227 1 rfl) rfl rfl) rfl ?_
                      obtain ⟨x228, hx229, h⟩ := bs h
                      refine WL.call _ (op_call fn_22 (args2 rfl rfl)) (c_laws_eqAction (St.rep (t := (Ty.sl (Ty.sl (Ty.sl (Ty.i .i64))))) hS227 5 rfl) (St.rep (t := (Ty.sl (Ty.sl (Ty.sl (Ty.i .i64))))) hS227 0 rfl) hx229) rfl ?_
                      rintro _ wd230 ⟨rfl, he231⟩
                      have hS233 := St.extend hS227 he231
                      replace hS233 : St wd21 wd230 [(Ty.sl (Ty.sl (Ty.sl (Ty.i .i64)))).at u31 x29.1, bx b37 [u31], (Ty.sl (Ty.sl (Ty.sl (Ty.i .i64)))).at u58 x189.2, bx b64 [u58], (Ty.sl (Ty.sl (Ty.sl (Ty.i .i64)))).at u209 x207, (Ty.sl (Ty.sl (Ty.sl (Ty.i .i64)))).at u216 x214.1, bx b222 [u216]] := hS233
                      refine WL.val (Value.bool (!x228)) _ (op_not rfl) rfl ?_
                      refine WL.val (Value.bool (!x228)) _ (op_move rfl) rfl ?_
                      refine WL.cut 4 (fun fq wq => fq 7 = (Value.pointer (some ⟨b64, 0, none⟩)) ∧ fq 10 = (Value.int .i64 x189.1) ∧ fq 87 = (Value.bool ((!x228) || (x214.2 != x29.2))) ∧ St wd21 wq [(Ty.sl (Ty.sl (Ty.sl (Ty.i .i64)))).at u58 x189.2, bx b64 [u58]]) ?_ ?_
                      · rcases Bool.eq_false_or_eq_true (!x228) with hc234 | hc234
                        · refine WL.gskip rfl (bool_of rfl hc234) rfl ?_
                          refine WL.gskip rfl (bool_of rfl hc234) rfl ?_
                          refine WL.gskip rfl (bool_of rfl hc234) rfl ?_
                          refine WL.val (Value.bool true) _ (op_pick_t (evb_of rfl hc234) rfl) rfl ?_
                          refine WL.nil ?_
                          exact ⟨rfl, hf184, rfl, (orT hc234), (St.pick hS233 [2, 3] rfl)⟩
                        · refine WL.grun rfl (bool_of rfl hc234) ?_
                          refine WL.val (Value.int .i64 x214.2) _ (op_move rfl) rfl ?_
                          refine WL.grun rfl (bool_of rfl hc234) ?_
                          refine WL.val (Value.int .i64 x29.2) _ (op_move hf183) rfl ?_
                          refine WL.grun rfl (bool_of rfl hc234) ?_
                          refine WL.val (Value.bool (x214.2 != x29.2)) _ (op_neq rfl rfl) rfl ?_
                          refine WL.val (Value.bool (x214.2 != x29.2)) _ (op_pick_f (evb_of rfl hc234) rfl) rfl ?_
                          refine WL.nil ?_
                          exact ⟨rfl, hf184, rfl, (orF hc234), (St.pick hS233 [2, 3] rfl)⟩
                      · intro f235 wd236 hq237
                        obtain ⟨hf238, hf239, hf240, hS241⟩ := hq237
                        refine WL.nil ?_
                        show W _ _ _ _ _ _
                        refine W.cond ((!x228) || (x214.2 != x29.2)) hf240 (fun hc242 => ?_) (fun hc242 => ?_)
                        · replace h := ip h hc242
                          refine W.seq ?_
                          refine W.region ?_
                          refine WL.val (Value.bool false) _ (op_assign rfl) rfl ?_
                          refine WL.nil ?_
                          show W _ _ _ _ _ _
                          refine W.ret ?_
                          obtain rfl := Option.some.inj h
                          show FinP _ _ _ _ _ _ _
                          exact FinP.ret _ (res1 rfl rfl) ⟨rfl, (Ext.trans hE26 hS241.ext)⟩
                        · replace h := inegb h hc242
                          refine W.skip ?_
                          show W _ _ _ _ _ _
                          refine W.seq ?_
                          refine W.region ?_
                          refine WL.val (Value.int .i64 (1 : Int)) _ (op_assign rfl) rfl ?_
                          refine WL.nil ?_
                          show W _ _ _ _ _ _
                          refine W.seq ?_
                          refine W.region ?_
                          refine WL.val (Value.agg #[u58]) _ (op_loadBox st_42 hf238 (St.boxAt hS241 1 rfl) rfl rfl) rfl ?_
                          refine WL.val (Value.int .i64 (1 : Int)) _ (op_move rfl) rfl ?_
                          obtain ⟨x244, hx245, h⟩ := bs h
                          refine WL.call _ (op_call fn_29 (args2 rfl rfl)) (c_laws_heldAction (St.rep (t := (Ty.sl (Ty.sl (Ty.sl (Ty.i .i64))))) hS241 0 rfl) (inR_i64.2 (show (-9223372036854775808 : Int) ≤ 1 ∧ (1 : Int) ≤ 9223372036854775807 from by decide)) hx245) rfl ?_
                          rintro _ wd247 ⟨rfl, hr246, he248⟩
                          have hS250 := St.extend hS241 he248
                          replace hS250 : St wd21 wd247 [(Ty.sl (Ty.sl (Ty.sl (Ty.i .i64)))).at u58 x189.2, bx b64 [u58]] := hS250
                          refine WL.val (Value.int .i64 x244) _ (op_assign rfl) rfl ?_
                          refine WL.nil ?_
                          show W _ _ _ _ _ _
                          refine W.seq ?_
                          refine W.seq ?_
                          refine W.region ?_
                          refine WL.val (Value.int .i64 x244) _ (op_move rfl) rfl ?_
                          refine WL.val (Value.bool (decide (x244 < (0 : Int)))) _ (op_lss rfl rfl) rfl ?_
                          refine WL.nil ?_
                          show W _ _ _ _ _ _
                          refine W.cond (decide (x244 < (0 : Int))) rfl (fun hc251 => ?_) (fun hc251 => ?_)
                          · replace h := ip h hc251
                            refine W.seq ?_
                            refine W.region ?_
                            refine WL.val (Value.bool false) _ (op_assign rfl) rfl ?_
                            refine WL.nil ?_
                            show W _ _ _ _ _ _
                            refine W.ret ?_
                            obtain rfl := Option.some.inj h
                            show FinP _ _ _ _ _ _ _
                            exact FinP.ret _ (res1 rfl rfl) ⟨rfl, (Ext.trans hE26 hS250.ext)⟩
                          · replace h := inegb h hc251
                            refine W.skip ?_
                            show W _ _ _ _ _ _
                            refine W.seq ?_
                            refine W.seq ?_
                            refine W.region ?_
                            refine WL.val (Value.int .i64 x244) _ (op_move rfl) rfl ?_
                            refine WL.val (Value.int .i64 x189.1) _ (op_move hf239) rfl ?_
                            refine WL.val (Value.bool (x244 != x189.1)) _ (op_neq rfl rfl) rfl ?_
                            refine WL.nil ?_
                            show W _ _ _ _ _ _
                            refine W.cond (x244 != x189.1) rfl (fun hc253 => ?_) (fun hc253 => ?_)
                            · replace h := ip h hc253
                              refine W.seq ?_
                              refine W.region ?_
                              refine WL.val (Value.bool false) _ (op_assign rfl) rfl ?_
                              refine WL.nil ?_
                              show W _ _ _ _ _ _
                              refine W.ret ?_
                              obtain rfl := Option.some.inj h
                              show FinP _ _ _ _ _ _ _
                              exact FinP.ret _ (res1 rfl rfl) ⟨rfl, (Ext.trans hE26 hS250.ext)⟩
                            · replace h := inegb h hc253
                              refine W.skip ?_
                              show W _ _ _ _ _ _
                              refine W.seq ?_
                              refine W.region ?_
                              refine WL.val (Value.bool true) _ (op_assign rfl) rfl ?_
                              refine WL.nil ?_
                              show W _ _ _ _ _ _
                              refine W.ret ?_
                              obtain rfl := Option.some.inj h
                              show FinP _ _ _ _ _ _ _
                              exact FinP.ret _ (res1 rfl rfl) ⟨rfl, (Ext.trans hE26 hS250.ext)⟩

end Go.VG
