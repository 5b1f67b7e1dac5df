/- The walks, part 3: each Go function returns what its plain twin returns. No condition beyond what each names. -/
import Derived.Test.YtlcedidbkhedjaaGWalk2
set_option linter.all false
namespace Go.VG
open Go.Proofs
attribute [local irreducible] W WL Sep FinP

theorem c_laws_eqInt64SS {w : World} {a : (List (List Int))} {v_a : Value} {b : (List (List Int))} {v_b : Value} (r_a : (Ty.sl (Ty.sl (Ty.i .i64))).rep w v_a a) (r_b : (Ty.sl (Ty.sl (Ty.i .i64))).rep w v_b b) {res : Bool} (h : p_laws_eqInt64SS a b  = some res) :
    Ret Try.prog 68 #[v_a, v_b] w (fun v w' => v = Value.bool res ∧ Ext w w') := by
  unfold p_laws_eqInt64SS at h
  have hS0 : St w w [] := St.start w
  refine Ret.start (fn := Try.f68) Try.func68 rfl 27 rfl rfl ?_
  refine W.seq (W.region ?_)
  refine WL.val (Value.bool false) _ (op_assign rfl) rfl ?_
  refine WL.nil ?_
  show W _ _ _ _ _ _
  refine W.seq (W.seq (W.region ?_))
  refine WL.val v_a _ (op_move rfl) rfl ?_
  have hr1 := inR_len (Ty.lift _ hS0.ext r_a)
  refine WL.val (Value.int .i64 ((a).length : Int)) _ (op_lenL sl_57 (Ty.lift _ hS0.ext r_a) rfl) rfl ?_
  refine WL.val v_b _ (op_move rfl) rfl ?_
  have hr2 := inR_len (Ty.lift _ hS0.ext r_b)
  refine WL.val (Value.int .i64 ((b).length : Int)) _ (op_lenL sl_57 (Ty.lift _ hS0.ext r_b) rfl) rfl ?_
  refine WL.val (Value.bool (((a).length : Int) != ((b).length : Int))) _ (op_neq rfl rfl) rfl ?_
  refine WL.nil ?_
  show W _ _ _ _ _ _
  refine W.cond (((a).length : Int) != ((b).length : Int)) rfl (fun hc3 => ?_) (fun hc3 => ?_)
  · replace h := ip h hc3
    refine W.seq (W.region ?_)
    refine WL.val (Value.bool false) _ (op_assign rfl) rfl ?_
    refine WL.nil ?_
    show W _ _ _ _ _ _
    refine W.ret ?_
    obtain rfl := Option.some.inj h
    show FinP _ _ _ _ _ _ _
    exact FinP.ret _ (res1 rfl rfl) ⟨rfl, hS0.ext⟩
  · replace h := inegb h hc3
    refine W.skip ?_
    show W _ _ _ _ _ _
    refine W.seq (W.seq (W.region ?_))
    refine WL.val (Value.int .i64 (0 : Int)) _ (op_assign rfl) rfl ?_
    refine WL.nil ?_
    show W _ _ _ _ _ _
    obtain ⟨res5, hres6, h⟩ := bs h
    refine W.blockLoop (fun fq wq => ∃ s, res5 = Res.fin s ∧ St w wq []) ?_ ?_
    · refine W.forN (fun k (s : Unit) fq wq => fq 0 = v_a ∧ fq 1 = v_b ∧ fq 5 = Value.int .i64 (k : Int) ∧ InR .i64 (k : Int) ∧ St w wq []) hres6 ⟨rfl, rfl, rfl, (inR_i64.2 (show (-9223372036854775808 : Int) ≤ 0 ∧ (0 : Int) ≤ 9223372036854775807 from by decide)), hS0⟩ ?_ ?_
      · intro k7 s138 ct8 f9 wd10 hk11 hb12 hI13 hbrk14 hret15
        obtain ⟨⟩ := s138
        replace hI13 : f9 0 = v_a ∧ f9 1 = v_b ∧ f9 5 = Value.int .i64 (k7 : Int) ∧ InR .i64 (k7 : Int) ∧ St w wd10 [] := hI13
        replace hb12 : p_laws_eqInt64SS_L1 a b k7  = some ct8 := hb12
        unfold p_laws_eqInt64SS_L1 at hb12
        obtain ⟨hf16, hf17, hf18, hr19, hS20⟩ := hI13
        refine W.seq (W.seq (W.region ?_))
        refine WL.val (Value.int .i64 (k7 : Int)) _ (op_move hf18) rfl ?_
        refine WL.val v_a _ (op_move hf16) rfl ?_
        have hr21 := inR_len (Ty.lift _ hS20.ext r_a)
        refine WL.val (Value.int .i64 ((a).length : Int)) _ (op_lenL sl_57 (Ty.lift _ hS20.ext r_a) rfl) rfl ?_
        refine WL.val (Value.bool (decide ((k7 : Int) < ((a).length : Int)))) _ (op_lss rfl rfl) rfl ?_
        have hl22 : (k7 : Int) < ((a).length : Int) := by omega
        refine WL.nil ?_
        show W _ _ _ _ _ _
        refine W.condT (decide ((k7 : Int) < ((a).length : Int))) rfl (decide_eq_true hl22) ?_
        refine W.skip ?_
        show W _ _ _ _ _ _
        refine W.seq ?_
        refine W.block ?_
        refine W.seq ?_
        obtain ⟨x53, hx56, hb12⟩ := bs hb12
        obtain ⟨ha54, hb55, hx56⟩ := idx_some hx56
        obtain ⟨u67, hc68, hr69⟩ := repSl.el r_a hx56
        obtain ⟨x99, hx102, hb12⟩ := bs hb12
        obtain ⟨ha100, hb101, hx102⟩ := idx_some hx102
        obtain ⟨u113, hc114, hr115⟩ := repSl.el r_b hx102
        refine W.drawR mixo 8 [] [fun _ v _ _ => v = v_a, fun _ v _ _ => v = (Value.int .i64 (k7 : Int)) ∧ InR .i64 (k7 : Int), fun _ v _ _ => v = (Value.pointer (some (elA v_a ((k7 : Int)).toNat))), fun _ v _ _ => v = u67, fun _ v _ _ => v = v_b, fun _ v _ _ => v = (Value.int .i64 (k7 : Int)) ∧ InR .i64 (k7 : Int), fun _ v _ _ => v = (Value.pointer (some (elA v_b ((k7 : Int)).toNat))), fun _ v _ _ => v = u113] (by kernel_rfl) (by kernel_rfl) ⟨⟨fun _ _ _ _ _ _ h => h, fun _ _ _ _ _ _ h => h⟩, ⟨fun _ _ _ _ _ _ h => h, fun _ _ _ _ _ _ h => h⟩, ⟨fun _ _ _ _ _ _ h => h, fun _ _ _ _ _ _ h => h⟩, ⟨fun _ _ _ _ _ _ h => h, fun _ _ _ _ _ _ h => h⟩, ⟨fun _ _ _ _ _ _ h => h, fun _ _ _ _ _ _ h => h⟩, ⟨fun _ _ _ _ _ _ h => h, fun _ _ _ _ _ _ h => h⟩, ⟨fun _ _ _ _ _ _ h => h, fun _ _ _ _ _ _ h => h⟩, ⟨fun _ _ _ _ _ _ h => h, fun _ _ _ _ _ _ h => h⟩, trivial⟩ ⟨?_, ?_, ?_, ?_, ?_, ?_, ?_, ?_, trivial⟩ ?_
        · refine ObX.op rfl ?_
          intro f24 wd25 he26 hout27 hphi28
          have hS29 : St w wd25 [] := St.extend hS20 he26
          have e30 : f24 0 = v_a := (hout27 0 rfl).trans hf16
          exact OpX.val v_a wd25 rfl (op_move e30) (Ext.refl _) rfl
        · refine ObX.op rfl ?_
          intro f31 wd32 he33 hout34 hphi35
          have hS36 : St w wd32 [] := St.extend hS20 he33
          have e37 : f31 5 = (Value.int .i64 (k7 : Int)) := (hout34 5 rfl).trans hf18
          exact OpX.val (Value.int .i64 (k7 : Int)) wd32 rfl (op_move e37) (Ext.refl _) ⟨rfl, hr19⟩
        · refine ObX.op rfl ?_
          intro f38 wd39 he40 hout41 hphi42
          have hS43 : St w wd39 [] := St.extend hS20 he40
          obtain ⟨S44, hS45, hf46⟩ := hphi42 0 17 _ rfl rfl rfl
          have e47 : f38 17 = v_a := hf46
          obtain ⟨S48, hS49, hf50⟩ := hphi42 1 18 _ rfl rfl rfl
          obtain ⟨e51, hr52⟩ : f38 18 = (Value.int .i64 (k7 : Int)) ∧ InR .i64 (k7 : Int) := hf50
          exact OpX.val (Value.pointer (some (elA v_a ((k7 : Int)).toNat))) wd39 rfl (op_idx sl_57 (Ty.lift _ hS43.ext r_a) e47 e51 ha54 hb55) (Ext.refl _) rfl
        · refine ObX.op rfl ?_
          intro f57 wd58 he59 hout60 hphi61
          have hS62 : St w wd58 [] := St.extend hS20 he59
          obtain ⟨S63, hS64, hf65⟩ := hphi61 2 19 _ rfl rfl rfl
          have e66 : f57 19 = (Value.pointer (some (elA v_a ((k7 : Int)).toNat))) := hf65
          exact OpX.val u67 wd58 rfl (op_load one_35 e66 (Ext.cell hS62.ext hc68)) (Ext.refl _) rfl
        · refine ObX.op rfl ?_
          intro f70 wd71 he72 hout73 hphi74
          have hS75 : St w wd71 [] := St.extend hS20 he72
          have e76 : f70 1 = v_b := (hout73 1 rfl).trans hf17
          exact OpX.val v_b wd71 rfl (op_move e76) (Ext.refl _) rfl
        · refine ObX.op rfl ?_
          intro f77 wd78 he79 hout80 hphi81
          have hS82 : St w wd78 [] := St.extend hS20 he79
          have e83 : f77 5 = (Value.int .i64 (k7 : Int)) := (hout80 5 rfl).trans hf18
          exact OpX.val (Value.int .i64 (k7 : Int)) wd78 rfl (op_move e83) (Ext.refl _) ⟨rfl, hr19⟩
        · refine ObX.op rfl ?_
          intro f84 wd85 he86 hout87 hphi88
          have hS89 : St w wd85 [] := St.extend hS20 he86
          obtain ⟨S90, hS91, hf92⟩ := hphi88 4 21 _ rfl rfl rfl
          have e93 : f84 21 = v_b := hf92
          obtain ⟨S94, hS95, hf96⟩ := hphi88 5 22 _ rfl rfl rfl
          obtain ⟨e97, hr98⟩ : f84 22 = (Value.int .i64 (k7 : Int)) ∧ InR .i64 (k7 : Int) := hf96
          exact OpX.val (Value.pointer (some (elA v_b ((k7 : Int)).toNat))) wd85 rfl (op_idx sl_57 (Ty.lift _ hS89.ext r_b) e93 e97 ha100 hb101) (Ext.refl _) rfl
        · refine ObX.op rfl ?_
          intro f103 wd104 he105 hout106 hphi107
          have hS108 : St w wd104 [] := St.extend hS20 he105
          obtain ⟨S109, hS110, hf111⟩ := hphi107 6 23 _ rfl rfl rfl
          have e112 : f103 23 = (Value.pointer (some (elA v_b ((k7 : Int)).toNat))) := hf111
          exact OpX.val u113 wd104 rfl (op_load one_35 e112 (Ext.cell hS108.ext hc114)) (Ext.refl _) rfl
        · intro f116 wd117 Ss118 he119 hout120 hSn121 hSd122 hphi123
          show WL _ _ _ _ _ _ _
          have hS124 : St w wd117 [] := St.extend hS20 he119
          have e125 : f116 20 = u67 := hphi123 3 20 _ (by decide) rfl rfl
          have e126 : f116 24 = u113 := hphi123 7 24 _ (by decide) rfl rfl
          have e127 : f116 0 = v_a := (hout120 0 rfl).trans hf16
          have e128 : f116 1 = v_b := (hout120 1 rfl).trans hf17
          have e129 : f116 5 = (Value.int .i64 (k7 : Int)) := (hout120 5 rfl).trans hf18
          obtain ⟨x130, hx131, hb12⟩ := bs hb12
          refine WL.call _ (op_call fn_21 (args2 e125 e126)) (c_laws_eqInt64S (Ty.lift _ hS124.ext hr69) (Ty.lift _ hS124.ext hr115) hx131) rfl ?_
          rintro _ wd132 ⟨rfl, he133⟩
          have hS135 := St.extend hS124 he133
          replace hS135 : St w wd132 [] := hS135
          refine WL.val (Value.bool (!x130)) _ (op_not rfl) rfl ?_
          refine WL.nil ?_
          show W _ _ _ _ _ _
          refine W.cond (!x130) rfl (fun hc136 => ?_) (fun hc136 => ?_)
          · replace hb12 := ip hb12 hc136
            refine W.seq (W.region ?_)
            refine WL.val (Value.bool false) _ (op_assign rfl) rfl ?_
            refine WL.nil ?_
            show W _ _ _ _ _ _
            refine W.ret ?_
            obtain rfl := Option.some.inj hb12
            obtain rfl := hret15 _ rfl
            replace h := onRes_ret h
            obtain rfl := Option.some.inj h
            show FinP _ _ _ _ _ _ _
            exact FinP.ret _ (res1 rfl rfl) ⟨rfl, hS135.ext⟩
          · replace hb12 := inegb hb12 hc136
            refine W.skip ?_
            show W _ _ _ _ _ _
            refine W.region ?_
            refine WL.val (Value.int .i64 (k7 : Int)) _ (op_move e129) rfl ?_
            refine WL.val (Value.int .i64 (w64 ((k7 : Int) + (1 : Int)))) _ (op_add rfl rfl) rfl ?_
            refine WL.val (Value.int .i64 (w64 ((k7 : Int) + (1 : Int)))) _ (op_assign rfl) rfl ?_
            refine WL.nil ?_
            obtain rfl := Option.some.inj hb12
            show ∃ s, _ = Ctl.next s ∧ _
            exact ⟨_, rfl, e127, e128, (ctr_next hl22 hr21), (ctr_rng hl22 hr21), hS135⟩
      · intro s143 f139 wd140 hs141 hI142
        obtain ⟨⟩ := s143
        replace hI142 : f139 0 = v_a ∧ f139 1 = v_b ∧ f139 5 = Value.int .i64 (((a).length : Nat) : Int) ∧ InR .i64 (((a).length : Nat) : Int) ∧ St w wd140 [] := hI142
        obtain ⟨hf144, hf145, hf146, hr147, hS148⟩ := hI142
        refine W.seq (W.seq (W.region ?_))
        refine WL.val (Value.int .i64 (((a).length : Nat) : Int)) _ (op_move hf146) rfl ?_
        refine WL.val v_a _ (op_move hf144) rfl ?_
        have hr149 := inR_len (Ty.lift _ hS148.ext r_a)
        refine WL.val (Value.int .i64 ((a).length : Int)) _ (op_lenL sl_57 (Ty.lift _ hS148.ext r_a) rfl) rfl ?_
        refine WL.val (Value.bool (decide ((((a).length : Nat) : Int) < ((a).length : Int)))) _ (op_lss rfl rfl) rfl ?_
        have hl150 : ¬ (((a).length : Nat) : Int) < ((a).length : Int) := by omega
        refine WL.nil ?_
        show W _ _ _ _ _ _
        refine W.condF (decide ((((a).length : Nat) : Int) < ((a).length : Int))) rfl (decide_eq_false hl150) ?_
        refine W.exit ?_
        show _ = _ ∧ _
        exact ⟨rfl, _, hs141, hS148⟩
    · rintro f151 wd152 ⟨s154, rfl, hq153⟩
      replace h := onRes_fin h
      obtain ⟨⟩ := s154
      replace hq153 : St w wd152 [] := hq153
      have hS155 := hq153
      show W _ _ _ _ _ _
      refine W.seq (W.region ?_)
      refine WL.val (Value.bool true) _ (op_assign rfl) rfl ?_
      refine WL.nil ?_
      show W _ _ _ _ _ _
      refine W.ret ?_
      obtain rfl := Option.some.inj h
      show FinP _ _ _ _ _ _ _
      exact FinP.ret _ (res1 rfl rfl) ⟨rfl, hS155.ext⟩

theorem c_laws_eqInt64SSS {w : World} {a : (List (List (List Int)))} {v_a : Value} {b : (List (List (List Int)))} {v_b : Value} (r_a : (Ty.sl (Ty.sl (Ty.sl (Ty.i .i64)))).rep w v_a a) (r_b : (Ty.sl (Ty.sl (Ty.sl (Ty.i .i64)))).rep w v_b b) {res : Bool} (h : p_laws_eqInt64SSS a b  = some res) :
    Ret Try.prog 40 #[v_a, v_b] w (fun v w' => v = Value.bool res ∧ Ext w w') := by
  unfold p_laws_eqInt64SSS at h
  have hS0 : St w w [] := St.start w
  refine Ret.start (fn := Try.f40) Try.func40 rfl 27 rfl rfl ?_
  refine W.seq (W.region ?_)
  refine WL.val (Value.bool false) _ (op_assign rfl) rfl ?_
  refine WL.nil ?_
  show W _ _ _ _ _ _
  refine W.seq (W.seq (W.region ?_))
  refine WL.val v_a _ (op_move rfl) rfl ?_
  have hr1 := inR_len (Ty.lift _ hS0.ext r_a)
  refine WL.val (Value.int .i64 ((a).length : Int)) _ (op_lenL sl_22 (Ty.lift _ hS0.ext r_a) rfl) rfl ?_
  refine WL.val v_b _ (op_move rfl) rfl ?_
  have hr2 := inR_len (Ty.lift _ hS0.ext r_b)
  refine WL.val (Value.int .i64 ((b).length : Int)) _ (op_lenL sl_22 (Ty.lift _ hS0.ext r_b) rfl) rfl ?_
  refine WL.val (Value.bool (((a).length : Int) != ((b).length : Int))) _ (op_neq rfl rfl) rfl ?_
  refine WL.nil ?_
  show W _ _ _ _ _ _
  refine W.cond (((a).length : Int) != ((b).length : Int)) rfl (fun hc3 => ?_) (fun hc3 => ?_)
  · replace h := ip h hc3
    refine W.seq (W.region ?_)
    refine WL.val (Value.bool false) _ (op_assign rfl) rfl ?_
    refine WL.nil ?_
    show W _ _ _ _ _ _
    refine W.ret ?_
    obtain rfl := Option.some.inj h
    show FinP _ _ _ _ _ _ _
    exact FinP.ret _ (res1 rfl rfl) ⟨rfl, hS0.ext⟩
  · replace h := inegb h hc3
    refine W.skip ?_
    show W _ _ _ _ _ _
    refine W.seq (W.seq (W.region ?_))
    refine WL.val (Value.int .i64 (0 : Int)) _ (op_assign rfl) rfl ?_
    refine WL.nil ?_
    show W _ _ _ _ _ _
    obtain ⟨res5, hres6, h⟩ := bs h
    refine W.blockLoop (fun fq wq => ∃ s, res5 = Res.fin s ∧ St w wq []) ?_ ?_
    · refine W.forN (fun k (s : Unit) fq wq => fq 0 = v_a ∧ fq 1 = v_b ∧ fq 5 = Value.int .i64 (k : Int) ∧ InR .i64 (k : Int) ∧ St w wq []) hres6 ⟨rfl, rfl, rfl, (inR_i64.2 (show (-9223372036854775808 : Int) ≤ 0 ∧ (0 : Int) ≤ 9223372036854775807 from by decide)), hS0⟩ ?_ ?_
      · intro k7 s138 ct8 f9 wd10 hk11 hb12 hI13 hbrk14 hret15
        obtain ⟨⟩ := s138
        replace hI13 : f9 0 = v_a ∧ f9 1 = v_b ∧ f9 5 = Value.int .i64 (k7 : Int) ∧ InR .i64 (k7 : Int) ∧ St w wd10 [] := hI13
        replace hb12 : p_laws_eqInt64SSS_L1 a b k7  = some ct8 := hb12
        unfold p_laws_eqInt64SSS_L1 at hb12
        obtain ⟨hf16, hf17, hf18, hr19, hS20⟩ := hI13
        refine W.seq (W.seq (W.region ?_))
        refine WL.val (Value.int .i64 (k7 : Int)) _ (op_move hf18) rfl ?_
        refine WL.val v_a _ (op_move hf16) rfl ?_
        have hr21 := inR_len (Ty.lift _ hS20.ext r_a)
        refine WL.val (Value.int .i64 ((a).length : Int)) _ (op_lenL sl_22 (Ty.lift _ hS20.ext r_a) rfl) rfl ?_
        refine WL.val (Value.bool (decide ((k7 : Int) < ((a).length : Int)))) _ (op_lss rfl rfl) rfl ?_
        have hl22 : (k7 : Int) < ((a).length : Int) := by omega
        refine WL.nil ?_
        show W _ _ _ _ _ _
        refine W.condT (decide ((k7 : Int) < ((a).length : Int))) rfl (decide_eq_true hl22) ?_
        refine W.skip ?_
        show W _ _ _ _ _ _
        refine W.seq ?_
        refine W.block ?_
        refine W.seq ?_
        obtain ⟨x53, hx56, hb12⟩ := bs hb12
        obtain ⟨ha54, hb55, hx56⟩ := idx_some hx56
        obtain ⟨u67, hc68, hr69⟩ := repSl.el r_a hx56
        obtain ⟨x99, hx102, hb12⟩ := bs hb12
        obtain ⟨ha100, hb101, hx102⟩ := idx_some hx102
        obtain ⟨u113, hc114, hr115⟩ := repSl.el r_b hx102
        refine W.drawR mixo 8 [] [fun _ v _ _ => v = v_a, fun _ v _ _ => v = (Value.int .i64 (k7 : Int)) ∧ InR .i64 (k7 : Int), fun _ v _ _ => v = (Value.pointer (some (elA v_a ((k7 : Int)).toNat))), fun _ v _ _ => v = u67, fun _ v _ _ => v = v_b, fun _ v _ _ => v = (Value.int .i64 (k7 : Int)) ∧ InR .i64 (k7 : Int), fun _ v _ _ => v = (Value.pointer (some (elA v_b ((k7 : Int)).toNat))), fun _ v _ _ => v = u113] (by kernel_rfl) (by kernel_rfl) ⟨⟨fun _ _ _ _ _ _ h => h, fun _ _ _ _ _ _ h => h⟩, ⟨fun _ _ _ _ _ _ h => h, fun _ _ _ _ _ _ h => h⟩, ⟨fun _ _ _ _ _ _ h => h, fun _ _ _ _ _ _ h => h⟩, ⟨fun _ _ _ _ _ _ h => h, fun _ _ _ _ _ _ h => h⟩, ⟨fun _ _ _ _ _ _ h => h, fun _ _ _ _ _ _ h => h⟩, ⟨fun _ _ _ _ _ _ h => h, fun _ _ _ _ _ _ h => h⟩, ⟨fun _ _ _ _ _ _ h => h, fun _ _ _ _ _ _ h => h⟩, ⟨fun _ _ _ _ _ _ h => h, fun _ _ _ _ _ _ h => h⟩, trivial⟩ ⟨?_, ?_, ?_, ?_, ?_, ?_, ?_, ?_, trivial⟩ ?_
        · refine ObX.op rfl ?_
          intro f24 wd25 he26 hout27 hphi28
          have hS29 : St w wd25 [] := St.extend hS20 he26
          have e30 : f24 0 = v_a := (hout27 0 rfl).trans hf16
          exact OpX.val v_a wd25 rfl (op_move e30) (Ext.refl _) rfl
        · refine ObX.op rfl ?_
          intro f31 wd32 he33 hout34 hphi35
          have hS36 : St w wd32 [] := St.extend hS20 he33
          have e37 : f31 5 = (Value.int .i64 (k7 : Int)) := (hout34 5 rfl).trans hf18
          exact OpX.val (Value.int .i64 (k7 : Int)) wd32 rfl (op_move e37) (Ext.refl _) ⟨rfl, hr19⟩
        · refine ObX.op rfl ?_
          intro f38 wd39 he40 hout41 hphi42
          have hS43 : St w wd39 [] := St.extend hS20 he40
          obtain ⟨S44, hS45, hf46⟩ := hphi42 0 17 _ rfl rfl rfl
          have e47 : f38 17 = v_a := hf46
          obtain ⟨S48, hS49, hf50⟩ := hphi42 1 18 _ rfl rfl rfl
          obtain ⟨e51, hr52⟩ : f38 18 = (Value.int .i64 (k7 : Int)) ∧ InR .i64 (k7 : Int) := hf50
          exact OpX.val (Value.pointer (some (elA v_a ((k7 : Int)).toNat))) wd39 rfl (op_idx sl_22 (Ty.lift _ hS43.ext r_a) e47 e51 ha54 hb55) (Ext.refl _) rfl
        · refine ObX.op rfl ?_
          intro f57 wd58 he59 hout60 hphi61
          have hS62 : St w wd58 [] := St.extend hS20 he59
          obtain ⟨S63, hS64, hf65⟩ := hphi61 2 19 _ rfl rfl rfl
          have e66 : f57 19 = (Value.pointer (some (elA v_a ((k7 : Int)).toNat))) := hf65
          exact OpX.val u67 wd58 rfl (op_load one_57 e66 (Ext.cell hS62.ext hc68)) (Ext.refl _) rfl
        · refine ObX.op rfl ?_
          intro f70 wd71 he72 hout73 hphi74
          have hS75 : St w wd71 [] := St.extend hS20 he72
          have e76 : f70 1 = v_b := (hout73 1 rfl).trans hf17
          exact OpX.val v_b wd71 rfl (op_move e76) (Ext.refl _) rfl
        · refine ObX.op rfl ?_
          intro f77 wd78 he79 hout80 hphi81
          have hS82 : St w wd78 [] := St.extend hS20 he79
          have e83 : f77 5 = (Value.int .i64 (k7 : Int)) := (hout80 5 rfl).trans hf18
          exact OpX.val (Value.int .i64 (k7 : Int)) wd78 rfl (op_move e83) (Ext.refl _) ⟨rfl, hr19⟩
        · refine ObX.op rfl ?_
          intro f84 wd85 he86 hout87 hphi88
          have hS89 : St w wd85 [] := St.extend hS20 he86
          obtain ⟨S90, hS91, hf92⟩ := hphi88 4 21 _ rfl rfl rfl
          have e93 : f84 21 = v_b := hf92
          obtain ⟨S94, hS95, hf96⟩ := hphi88 5 22 _ rfl rfl rfl
          obtain ⟨e97, hr98⟩ : f84 22 = (Value.int .i64 (k7 : Int)) ∧ InR .i64 (k7 : Int) := hf96
          exact OpX.val (Value.pointer (some (elA v_b ((k7 : Int)).toNat))) wd85 rfl (op_idx sl_22 (Ty.lift _ hS89.ext r_b) e93 e97 ha100 hb101) (Ext.refl _) rfl
        · refine ObX.op rfl ?_
          intro f103 wd104 he105 hout106 hphi107
          have hS108 : St w wd104 [] := St.extend hS20 he105
          obtain ⟨S109, hS110, hf111⟩ := hphi107 6 23 _ rfl rfl rfl
          have e112 : f103 23 = (Value.pointer (some (elA v_b ((k7 : Int)).toNat))) := hf111
          exact OpX.val u113 wd104 rfl (op_load one_57 e112 (Ext.cell hS108.ext hc114)) (Ext.refl _) rfl
        · intro f116 wd117 Ss118 he119 hout120 hSn121 hSd122 hphi123
          show WL _ _ _ _ _ _ _
          have hS124 : St w wd117 [] := St.extend hS20 he119
          have e125 : f116 20 = u67 := hphi123 3 20 _ (by decide) rfl rfl
          have e126 : f116 24 = u113 := hphi123 7 24 _ (by decide) rfl rfl
          have e127 : f116 0 = v_a := (hout120 0 rfl).trans hf16
          have e128 : f116 1 = v_b := (hout120 1 rfl).trans hf17
          have e129 : f116 5 = (Value.int .i64 (k7 : Int)) := (hout120 5 rfl).trans hf18
          obtain ⟨x130, hx131, hb12⟩ := bs hb12
          refine WL.call _ (op_call fn_68 (args2 e125 e126)) (c_laws_eqInt64SS (Ty.lift _ hS124.ext hr69) (Ty.lift _ hS124.ext hr115) hx131) rfl ?_
          rintro _ wd132 ⟨rfl, he133⟩
          have hS135 := St.extend hS124 he133
          replace hS135 : St w wd132 [] := hS135
          refine WL.val (Value.bool (!x130)) _ (op_not rfl) rfl ?_
          refine WL.nil ?_
          show W _ _ _ _ _ _
          refine W.cond (!x130) rfl (fun hc136 => ?_) (fun hc136 => ?_)
          · replace hb12 := ip hb12 hc136
            refine W.seq (W.region ?_)
            refine WL.val (Value.bool false) _ (op_assign rfl) rfl ?_
            refine WL.nil ?_
            show W _ _ _ _ _ _
            refine W.ret ?_
            obtain rfl := Option.some.inj hb12
            obtain rfl := hret15 _ rfl
            replace h := onRes_ret h
            obtain rfl := Option.some.inj h
            show FinP _ _ _ _ _ _ _
            exact FinP.ret _ (res1 rfl rfl) ⟨rfl, hS135.ext⟩
          · replace hb12 := inegb hb12 hc136
            refine W.skip ?_
            show W _ _ _ _ _ _
            refine W.region ?_
            refine WL.val (Value.int .i64 (k7 : Int)) _ (op_move e129) rfl ?_
            refine WL.val (Value.int .i64 (w64 ((k7 : Int) + (1 : Int)))) _ (op_add rfl rfl) rfl ?_
            refine WL.val (Value.int .i64 (w64 ((k7 : Int) + (1 : Int)))) _ (op_assign rfl) rfl ?_
            refine WL.nil ?_
            obtain rfl := Option.some.inj hb12
            show ∃ s, _ = Ctl.next s ∧ _
            exact ⟨_, rfl, e127, e128, (ctr_next hl22 hr21), (ctr_rng hl22 hr21), hS135⟩
      · intro s143 f139 wd140 hs141 hI142
        obtain ⟨⟩ := s143
        replace hI142 : f139 0 = v_a ∧ f139 1 = v_b ∧ f139 5 = Value.int .i64 (((a).length : Nat) : Int) ∧ InR .i64 (((a).length : Nat) : Int) ∧ St w wd140 [] := hI142
        obtain ⟨hf144, hf145, hf146, hr147, hS148⟩ := hI142
        refine W.seq (W.seq (W.region ?_))
        refine WL.val (Value.int .i64 (((a).length : Nat) : Int)) _ (op_move hf146) rfl ?_
        refine WL.val v_a _ (op_move hf144) rfl ?_
        have hr149 := inR_len (Ty.lift _ hS148.ext r_a)
        refine WL.val (Value.int .i64 ((a).length : Int)) _ (op_lenL sl_22 (Ty.lift _ hS148.ext r_a) rfl) rfl ?_
        refine WL.val (Value.bool (decide ((((a).length : Nat) : Int) < ((a).length : Int)))) _ (op_lss rfl rfl) rfl ?_
        have hl150 : ¬ (((a).length : Nat) : Int) < ((a).length : Int) := by omega
        refine WL.nil ?_
        show W _ _ _ _ _ _
        refine W.condF (decide ((((a).length : Nat) : Int) < ((a).length : Int))) rfl (decide_eq_false hl150) ?_
        refine W.exit ?_
        show _ = _ ∧ _
        exact ⟨rfl, _, hs141, hS148⟩
    · rintro f151 wd152 ⟨s154, rfl, hq153⟩
      replace h := onRes_fin h
      obtain ⟨⟩ := s154
      replace hq153 : St w wd152 [] := hq153
      have hS155 := hq153
      show W _ _ _ _ _ _
      refine W.seq (W.region ?_)
      refine WL.val (Value.bool true) _ (op_assign rfl) rfl ?_
      refine WL.nil ?_
      show W _ _ _ _ _ _
      refine W.ret ?_
      obtain rfl := Option.some.inj h
      show FinP _ _ _ _ _ _ _
      exact FinP.ret _ (res1 rfl rfl) ⟨rfl, hS155.ext⟩

theorem c_laws_eqRing {w : World} {a_Table : (List (List (List Int)))} {v_a_Table : Value} {b_Table : (List (List (List Int)))} {v_b_Table : Value} (r_a_Table : (Ty.sl (Ty.sl (Ty.sl (Ty.i .i64)))).rep w v_a_Table a_Table) (r_b_Table : (Ty.sl (Ty.sl (Ty.sl (Ty.i .i64)))).rep w v_b_Table b_Table) {res : Bool} (h : p_laws_eqRing a_Table b_Table  = some res) :
    Ret Try.prog 14 #[(Value.agg #[v_a_Table]), (Value.agg #[v_b_Table])] w (fun v w' => v = Value.bool res ∧ Ext w w') := by
  unfold p_laws_eqRing at h
  have hS0 : St w w [] := St.start w
  refine Ret.start (fn := Try.f14) Try.func14 rfl 11 rfl rfl ?_
  refine W.seq (W.region ?_)
  refine WL.box hS0 rfl (cs := [v_a_Table]) rfl rfl ?_
  intro b1 wd2 hS3 he4 hx5
  replace hS3 : St w wd2 [bx b1 [v_a_Table]] := hS3
  have hx6 := St.boxAt hS3 0 rfl
  have hE7 : Ext w wd2 := hS3.ext
  have hS8 : St wd2 wd2 [] := St.start wd2
  refine WL.box hS8 rfl (cs := [v_b_Table]) rfl rfl ?_
  intro b9 wd10 hS11 he12 hx13
  replace hS11 : St wd2 wd10 [bx b9 [v_b_Table]] := hS11
  have hx14 := St.boxAt hS11 0 rfl
  have hE15 : Ext w wd10 := (Ext.trans hE7 hS11.ext)
  have hE16 : Ext wd2 wd10 := hS11.ext
  have hS17 : St wd10 wd10 [] := St.start wd10
  refine WL.val (Value.bool false) _ (op_assign rfl) rfl ?_
  refine WL.nil ?_
  show W _ _ _ _ _ _
  refine W.seq (W.seq (W.region ?_))
  refine WL.val (Value.pointer (some ⟨b1, 0, none⟩)) _ (op_fieldAddr fd_26_0 rfl) rfl ?_
  refine WL.val v_a_Table _ (op_load one_22 rfl (BoxAt.cell (BoxAt.lift (Ext.trans hE16 hS17.ext) hx6) rfl)) rfl ?_
  refine WL.val (Value.pointer (some ⟨b9, 0, none⟩)) _ (op_fieldAddr fd_26_0 rfl) rfl ?_
  refine WL.val v_b_Table _ (op_load one_22 rfl (BoxAt.cell (BoxAt.lift hS17.ext hx14) rfl)) rfl ?_
  obtain ⟨x18, hx19, h⟩ := bs h
  refine WL.call _ (op_call fn_40 (args2 rfl rfl)) (c_laws_eqInt64SSS (Ty.lift _ (Ext.trans hE15 hS17.ext) r_a_Table) (Ty.lift _ (Ext.trans hE15 hS17.ext) r_b_Table) hx19) rfl ?_
  rintro _ wd20 ⟨rfl, he21⟩
  have hS23 := St.extend hS17 he21
  replace hS23 : St wd10 wd20 [] := hS23
  refine WL.val (Value.bool (!x18)) _ (op_not rfl) rfl ?_
  refine WL.nil ?_
  show W _ _ _ _ _ _
  refine W.cond (!x18) rfl (fun hc24 => ?_) (fun hc24 => ?_)
  · replace h := ip h hc24
    refine W.seq (W.region ?_)
    refine WL.val (Value.bool false) _ (op_assign rfl) rfl ?_
    refine WL.nil ?_
    show W _ _ _ _ _ _
    refine W.ret ?_
    obtain rfl := Option.some.inj h
    show FinP _ _ _ _ _ _ _
    exact FinP.ret _ (res1 rfl rfl) ⟨rfl, (Ext.trans hE15 hS23.ext)⟩
  · replace h := inegb h hc24
    refine W.skip ?_
    show W _ _ _ _ _ _
    refine W.seq (W.region ?_)
    refine WL.val (Value.bool true) _ (op_assign rfl) rfl ?_
    refine WL.nil ?_
    show W _ _ _ _ _ _
    refine W.ret ?_
    obtain rfl := Option.some.inj h
    show FinP _ _ _ _ _ _ _
    exact FinP.ret _ (res1 rfl rfl) ⟨rfl, (Ext.trans hE15 hS23.ext)⟩

theorem c_spec_l04Next {w : World} {r_Table : (List (List (List Int)))} {v_r_Table : Value} {w1 : (List Int)} {v_w1 : Value} (r_r_Table : (Ty.sl (Ty.sl (Ty.sl (Ty.i .i64)))).rep w v_r_Table r_Table) (r_w1 : (Ty.sl (Ty.i .i64)).rep w v_w1 w1) {res : (List Int)} (h : p_spec_l04Next r_Table w1  = some res) :
    Ret Try.prog 76 #[(Value.agg #[v_r_Table]), v_w1] w (fun v w' => ∃ (u0 : Value), v = u0 ∧ Ext w w' ∧ Sep w.heap.size w' [(Ty.sl (Ty.i .i64)).at u0 res]) := by
  unfold p_spec_l04Next at h
  have hS0 : St w w [] := St.start w
  refine Ret.start (fn := Try.f76) Try.func76 rfl 55 rfl rfl ?_
  refine W.seq (W.region ?_)
  refine WL.box hS0 rfl (cs := [v_r_Table]) rfl rfl ?_
  intro b1 wd2 hS3 he4 hx5
  replace hS3 : St w wd2 [bx b1 [v_r_Table]] := hS3
  have hx6 := St.boxAt hS3 0 rfl
  have hE7 : Ext w wd2 := hS3.ext
  have hS8 : St wd2 wd2 [] := St.start wd2
  refine WL.val (Value.slice none 0 0) _ (op_assign rfl) rfl ?_
  refine WL.nil ?_
  show W _ _ _ _ _ _
  refine W.seq (W.region ?_)
  refine WL.val v_w1 _ (op_move rfl) rfl ?_
  have hr9 := inR_len (Ty.lift _ (Ext.trans hE7 hS8.ext) r_w1)
  refine WL.val (Value.int .i64 ((w1).length : Int)) _ (op_lenL sl_35 (Ty.lift _ (Ext.trans hE7 hS8.ext) r_w1) rfl) rfl ?_
  obtain ⟨x10, hx11, h⟩ := bs h
  refine WL.make (t := (Ty.i .i64)) hS8 sl_35 (fun _ _ => ⟨rfl, (inR_i64.2 (show (-9223372036854775808 : Int) ≤ 0 ∧ (0 : Int) ≤ 9223372036854775807 from by decide))⟩) rfl rfl hx11 rfl rfl ?_
  intro u12 wd13 hS14 he15
  replace hS14 : St wd2 wd13 [(Ty.sl (Ty.i .i64)).at u12 x10] := hS14
  refine WL.val u12 _ (op_assign rfl) rfl ?_
  refine WL.nil ?_
  show W _ _ _ _ _ _
  refine W.seq (W.seq (W.region ?_))
  refine WL.val (Value.int .i64 (0 : Int)) _ (op_assign rfl) rfl ?_
  refine WL.nil ?_
  show W _ _ _ _ _ _
  obtain ⟨res16, hres17, h⟩ := bs h
  refine W.blockLoop (fun fq wq => ∃ s, res16 = Res.fin s ∧ fq 5 = u12 ∧ St wd2 wq [(Ty.sl (Ty.i .i64)).at u12 s]) ?_ ?_
  · refine W.forN (fun k (s : (List Int)) fq wq => fq 1 = v_w1 ∧ fq 2 = (Value.pointer (some ⟨b1, 0, none⟩)) ∧ fq 5 = u12 ∧ fq 6 = Value.int .i64 (k : Int) ∧ InR .i64 (k : Int) ∧ St wd2 wq [(Ty.sl (Ty.i .i64)).at u12 s]) hres17 ⟨rfl, rfl, rfl, rfl, (inR_i64.2 (show (-9223372036854775808 : Int) ≤ 0 ∧ (0 : Int) ≤ 9223372036854775807 from by decide)), hS14⟩ ?_ ?_
    · intro k18 x19 ct20 f21 wd22 hk23 hb24 hI25 hbrk26 hret27
      replace hI25 : f21 1 = v_w1 ∧ f21 2 = (Value.pointer (some ⟨b1, 0, none⟩)) ∧ f21 5 = u12 ∧ f21 6 = Value.int .i64 (k18 : Int) ∧ InR .i64 (k18 : Int) ∧ St wd2 wd22 [(Ty.sl (Ty.i .i64)).at u12 x19] := hI25
      replace hb24 : p_spec_l04Next_L1 r_Table w1 k18 x19 = some ct20 := hb24
      unfold p_spec_l04Next_L1 at hb24
      obtain ⟨hf28, hf29, hf30, hf31, hr32, hS33⟩ := hI25
      refine W.seq (W.seq (W.region ?_))
      refine WL.val (Value.int .i64 (k18 : Int)) _ (op_move hf31) rfl ?_
      refine WL.val v_w1 _ (op_move hf28) rfl ?_
      have hr34 := inR_len (Ty.lift _ (Ext.trans hE7 hS33.ext) r_w1)
      refine WL.val (Value.int .i64 ((w1).length : Int)) _ (op_lenL sl_35 (Ty.lift _ (Ext.trans hE7 hS33.ext) r_w1) rfl) rfl ?_
      refine WL.val (Value.bool (decide ((k18 : Int) < ((w1).length : Int)))) _ (op_lss rfl rfl) rfl ?_
      have hl35 : (k18 : Int) < ((w1).length : Int) := by omega
      refine WL.nil ?_
      show W _ _ _ _ _ _
      refine W.condT (decide ((k18 : Int) < ((w1).length : Int))) rfl (decide_eq_true hl35) ?_
      refine W.skip ?_
      show W _ _ _ _ _ _
      refine W.seq ?_
      refine W.block ?_
      refine W.seq (W.region ?_)
      refine WL.val (Value.int .i64 (0 : Int)) _ (op_assign rfl) rfl ?_
      refine WL.nil ?_
      show W _ _ _ _ _ _
      obtain ⟨res37, hres38, hb24⟩ := bs hb24
      refine W.blockLoop (fun fq wq => ∃ s, res37 = Res.fin s ∧ fq 1 = v_w1 ∧ fq 2 = (Value.pointer (some ⟨b1, 0, none⟩)) ∧ fq 5 = u12 ∧ fq 6 = (Value.int .i64 (k18 : Int)) ∧ St wd2 wq [(Ty.sl (Ty.i .i64)).at u12 s]) ?_ ?_
      · refine W.forN (fun k (s : (List Int)) fq wq => fq 1 = v_w1 ∧ fq 2 = (Value.pointer (some ⟨b1, 0, none⟩)) ∧ fq 5 = u12 ∧ fq 6 = (Value.int .i64 (k18 : Int)) ∧ fq 7 = Value.int .i64 (k : Int) ∧ InR .i64 (k : Int) ∧ St wd2 wq [(Ty.sl (Ty.i .i64)).at u12 s]) hres38 ⟨hf28, hf29, hf30, hf31, rfl, (inR_i64.2 (show (-9223372036854775808 : Int) ≤ 0 ∧ (0 : Int) ≤ 9223372036854775807 from by decide)), hS33⟩ ?_ ?_
        · intro k39 x40 ct41 f42 wd43 hk44 hb45 hI46 hbrk47 hret48
          replace hI46 : f42 1 = v_w1 ∧ f42 2 = (Value.pointer (some ⟨b1, 0, none⟩)) ∧ f42 5 = u12 ∧ f42 6 = (Value.int .i64 (k18 : Int)) ∧ f42 7 = Value.int .i64 (k39 : Int) ∧ InR .i64 (k39 : Int) ∧ St wd2 wd43 [(Ty.sl (Ty.i .i64)).at u12 x40] := hI46
          replace hb45 : p_spec_l04Next_L2 r_Table k18 w1 k39 x40 = some ct41 := hb45
          unfold p_spec_l04Next_L2 at hb45
          obtain ⟨hf49, hf50, hf51, hf52, hf53, hr54, hS55⟩ := hI46
          refine W.seq (W.seq (W.region ?_))
          refine WL.val (Value.int .i64 (k39 : Int)) _ (op_move hf53) rfl ?_
          refine WL.val v_w1 _ (op_move hf49) rfl ?_
          have hr56 := inR_len (Ty.lift _ (Ext.trans hE7 hS55.ext) r_w1)
          refine WL.val (Value.int .i64 ((w1).length : Int)) _ (op_lenL sl_35 (Ty.lift _ (Ext.trans hE7 hS55.ext) r_w1) rfl) rfl ?_
          refine WL.val (Value.bool (decide ((k39 : Int) < ((w1).length : Int)))) _ (op_lss rfl rfl) rfl ?_
          have hl57 : (k39 : Int) < ((w1).length : Int) := by omega
          refine WL.nil ?_
          show W _ _ _ _ _ _
          refine W.condT (decide ((k39 : Int) < ((w1).length : Int))) rfl (decide_eq_true hl57) ?_
          refine W.skip ?_
          show W _ _ _ _ _ _
          refine W.seq ?_
          refine W.block ?_
          refine W.seq (W.region ?_)
          refine WL.val (Value.int .i64 (0 : Int)) _ (op_assign rfl) rfl ?_
          refine WL.nil ?_
          show W _ _ _ _ _ _
          obtain ⟨res59, hres60, hb45⟩ := bs hb45
          refine W.blockLoop (fun fq wq => ∃ s, res59 = Res.fin s ∧ fq 1 = v_w1 ∧ fq 2 = (Value.pointer (some ⟨b1, 0, none⟩)) ∧ fq 5 = u12 ∧ fq 6 = (Value.int .i64 (k18 : Int)) ∧ fq 7 = (Value.int .i64 (k39 : Int)) ∧ St wd2 wq [(Ty.sl (Ty.i .i64)).at u12 s]) ?_ ?_
          · refine W.forN (fun k (s : (List Int)) fq wq => fq 1 = v_w1 ∧ fq 2 = (Value.pointer (some ⟨b1, 0, none⟩)) ∧ fq 5 = u12 ∧ fq 6 = (Value.int .i64 (k18 : Int)) ∧ fq 7 = (Value.int .i64 (k39 : Int)) ∧ fq 8 = Value.int .i64 (k : Int) ∧ InR .i64 (k : Int) ∧ St wd2 wq [(Ty.sl (Ty.i .i64)).at u12 s]) hres60 ⟨hf49, hf50, hf51, hf52, hf53, rfl, (inR_i64.2 (show (-9223372036854775808 : Int) ≤ 0 ∧ (0 : Int) ≤ 9223372036854775807 from by decide)), hS55⟩ ?_ ?_
            · intro k61 x62 ct63 f64 wd65 hk66 hb67 hI68 hbrk69 hret70
              replace hI68 : f64 1 = v_w1 ∧ f64 2 = (Value.pointer (some ⟨b1, 0, none⟩)) ∧ f64 5 = u12 ∧ f64 6 = (Value.int .i64 (k18 : Int)) ∧ f64 7 = (Value.int .i64 (k39 : Int)) ∧ f64 8 = Value.int .i64 (k61 : Int) ∧ InR .i64 (k61 : Int) ∧ St wd2 wd65 [(Ty.sl (Ty.i .i64)).at u12 x62] := hI68
              replace hb67 : p_spec_l04Next_L3 k39 r_Table k18 w1 k61 x62 = some ct63 := hb67
              unfold p_spec_l04Next_L3 at hb67
              obtain ⟨hf71, hf72, hf73, hf74, hf75, hf76, hr77, hS78⟩ := hI68
              refine W.seq (W.seq (W.region ?_))
              refine WL.val (Value.int .i64 (k61 : Int)) _ (op_move hf76) rfl ?_
              refine WL.val v_w1 _ (op_move hf71) rfl ?_
              have hr79 := inR_len (Ty.lift _ (Ext.trans hE7 hS78.ext) r_w1)
              refine WL.val (Value.int .i64 ((w1).length : Int)) _ (op_lenL sl_35 (Ty.lift _ (Ext.trans hE7 hS78.ext) r_w1) rfl) rfl ?_
              refine WL.val (Value.bool (decide ((k61 : Int) < ((w1).length : Int)))) _ (op_lss rfl rfl) rfl ?_
              have hl80 : (k61 : Int) < ((w1).length : Int) := by omega
              refine WL.nil ?_
              show W _ _ _ _ _ _
              refine W.condT (decide ((k61 : Int) < ((w1).length : Int))) rfl (decide_eq_true hl80) ?_
              refine W.skip ?_
              show W _ _ _ _ _ _
              refine W.seq ?_
              refine W.block ?_
              obtain ⟨x125, hx128, hb67⟩ := bs hb67
              obtain ⟨ha126, hb127, hx128⟩ := idx_some hx128
              obtain ⟨u139, hc140, hr141⟩ := repSl.el (St.rep (t := (Ty.sl (Ty.i .i64))) hS78 0 rfl) hx128
              obtain ⟨rfl, hr141⟩ := hr141
              obtain ⟨x181, hx184, hb67⟩ := bs hb67
              obtain ⟨ha182, hb183, hx184⟩ := idx_some hx184
              obtain ⟨u195, hc196, hr197⟩ := repSl.el r_r_Table hx184
              obtain ⟨x220, hx223, hb67⟩ := bs hb67
              obtain ⟨ha221, hb222, hx223⟩ := idx_some hx223
              obtain ⟨u234, hc235, hr236⟩ := repSl.el hr197 hx223
              obtain ⟨x259, hx262, hb67⟩ := bs hb67
              obtain ⟨ha260, hb261, hx262⟩ := idx_some hx262
              obtain ⟨u273, hc274, hr275⟩ := repSl.el hr236 hx262
              obtain ⟨rfl, hr275⟩ := hr275
              obtain ⟨x305, hx308, hb67⟩ := bs hb67
              obtain ⟨ha306, hb307, hx308⟩ := idx_some hx308
              obtain ⟨u319, hc320, hr321⟩ := repSl.el r_w1 hx308
              obtain ⟨rfl, hr321⟩ := hr321
              refine W.drawR mixo 23 [] [fun _ v _ _ => v = u12, fun _ v _ _ => v = (Value.int .i64 (k39 : Int)) ∧ InR .i64 (k39 : Int), fun _ v _ _ => v = u12, fun _ v _ _ => v = (Value.int .i64 (k39 : Int)) ∧ InR .i64 (k39 : Int), fun _ v _ _ => v = (Value.pointer (some (elA u12 ((k39 : Int)).toNat))), fun _ v _ _ => v = (Value.int .i64 x125) ∧ InR .i64 x125, fun _ v _ _ => v = (Value.pointer (some ⟨b1, 0, none⟩)), fun _ v _ _ => v = v_r_Table, fun _ v _ _ => v = (Value.int .i64 (k18 : Int)) ∧ InR .i64 (k18 : Int), fun _ v _ _ => v = (Value.pointer (some (elA v_r_Table ((k18 : Int)).toNat))), fun _ v _ _ => v = u195, fun _ v _ _ => v = (Value.int .i64 (k39 : Int)) ∧ InR .i64 (k39 : Int), fun _ v _ _ => v = (Value.pointer (some (elA u195 ((k39 : Int)).toNat))), fun _ v _ _ => v = u234, fun _ v _ _ => v = (Value.int .i64 (k61 : Int)) ∧ InR .i64 (k61 : Int), fun _ v _ _ => v = (Value.pointer (some (elA u234 ((k61 : Int)).toNat))), fun _ v _ _ => v = (Value.int .i64 x259) ∧ InR .i64 x259, fun _ v _ _ => v = v_w1, fun _ v _ _ => v = (Value.int .i64 (k61 : Int)) ∧ InR .i64 (k61 : Int), fun _ v _ _ => v = (Value.pointer (some (elA v_w1 ((k61 : Int)).toNat))), fun _ v _ _ => v = (Value.int .i64 x305) ∧ InR .i64 x305, fun _ v _ _ => v = (Value.int .i64 (w64 (x259 * x305))) ∧ InR .i64 (w64 (x259 * x305)), fun _ v _ _ => v = (Value.int .i64 (w64 (x125 + (w64 (x259 * x305))))) ∧ InR .i64 (w64 (x125 + (w64 (x259 * x305))))] (by kernel_rfl) (by kernel_rfl) ⟨⟨fun _ _ _ _ _ _ h => h, fun _ _ _ _ _ _ h => h⟩, ⟨fun _ _ _ _ _ _ h => h, fun _ _ _ _ _ _ h => h⟩, ⟨fun _ _ _ _ _ _ h => h, fun _ _ _ _ _ _ h => h⟩, ⟨fun _ _ _ _ _ _ h => h, fun _ _ _ _ _ _ h => h⟩, ⟨fun _ _ _ _ _ _ h => h, fun _ _ _ _ _ _ h => h⟩, ⟨fun _ _ _ _ _ _ h => h, fun _ _ _ _ _ _ h => h⟩, ⟨fun _ _ _ _ _ _ h => h, fun _ _ _ _ _ _ h => h⟩, ⟨fun _ _ _ _ _ _ h => h, fun _ _ _ _ _ _ h => h⟩, ⟨fun _ _ _ _ _ _ h => h, fun _ _ _ _ _ _ h => h⟩, ⟨fun _ _ _ _ _ _ h => h, fun _ _ _ _ _ _ h => h⟩, ⟨fun _ _ _ _ _ _ h => h, fun _ _ _ _ _ _ h => h⟩, ⟨fun _ _ _ _ _ _ h => h, fun _ _ _ _ _ _ h => h⟩, ⟨fun _ _ _ _ _ _ h => h, fun _ _ _ _ _ _ h => h⟩, ⟨fun _ _ _ _ _ _ h => h, fun _ _ _ _ _ _ h => h⟩, ⟨fun _ _ _ _ _ _ h => h, fun _ _ _ _ _ _ h => h⟩, ⟨fun _ _ _ _ _ _ h => h, fun _ _ _ _ _ _ h => h⟩, ⟨fun _ _ _ _ _ _ h => h, fun _ _ _ _ _ _ h => h⟩, ⟨fun _ _ _ _ _ _ h => h, fun _ _ _ _ _ _ h => h⟩, ⟨fun _ _ _ _ _ _ h => h, fun _ _ _ _ _ _ h => h⟩, ⟨fun _ _ _ _ _ _ h => h, fun _ _ _ _ _ _ h => h⟩, ⟨fun _ _ _ _ _ _ h => h, fun _ _ _ _ _ _ h => h⟩, ⟨fun _ _ _ _ _ _ h => h, fun _ _ _ _ _ _ h => h⟩, ⟨fun _ _ _ _ _ _ h => h, fun _ _ _ _ _ _ h => h⟩, trivial⟩ ⟨?_, ?_, ?_, ?_, ?_, ?_, ?_, ?_, ?_, ?_, ?_, ?_, ?_, ?_, ?_, ?_, ?_, ?_, ?_, ?_, ?_, ?_, ?_, trivial⟩ ?_
              · refine ObX.op rfl ?_
                intro f82 wd83 he84 hout85 hphi86
                have hS87 : St wd2 wd83 [(Ty.sl (Ty.i .i64)).at u12 x62] := St.extend hS78 he84
                have e88 : f82 5 = u12 := (hout85 5 rfl).trans hf73
                exact OpX.val u12 wd83 rfl (op_move e88) (Ext.refl _) rfl
              · refine ObX.op rfl ?_
                intro f89 wd90 he91 hout92 hphi93
                have hS94 : St wd2 wd90 [(Ty.sl (Ty.i .i64)).at u12 x62] := St.extend hS78 he91
                have e95 : f89 7 = (Value.int .i64 (k39 : Int)) := (hout92 7 rfl).trans hf75
                exact OpX.val (Value.int .i64 (k39 : Int)) wd90 rfl (op_move e95) (Ext.refl _) ⟨rfl, hr54⟩
              · refine ObX.op rfl ?_
                intro f96 wd97 he98 hout99 hphi100
                have hS101 : St wd2 wd97 [(Ty.sl (Ty.i .i64)).at u12 x62] := St.extend hS78 he98
                have e102 : f96 5 = u12 := (hout99 5 rfl).trans hf73
                exact OpX.val u12 wd97 rfl (op_move e102) (Ext.refl _) rfl
              · refine ObX.op rfl ?_
                intro f103 wd104 he105 hout106 hphi107
                have hS108 : St wd2 wd104 [(Ty.sl (Ty.i .i64)).at u12 x62] := St.extend hS78 he105
                have e109 : f103 7 = (Value.int .i64 (k39 : Int)) := (hout106 7 rfl).trans hf75
                exact OpX.val (Value.int .i64 (k39 : Int)) wd104 rfl (op_move e109) (Ext.refl _) ⟨rfl, hr54⟩
              · refine ObX.op rfl ?_
                intro f110 wd111 he112 hout113 hphi114
                have hS115 : St wd2 wd111 [(Ty.sl (Ty.i .i64)).at u12 x62] := St.extend hS78 he112
                obtain ⟨S116, hS117, hf118⟩ := hphi114 2 32 _ rfl rfl rfl
                have e119 : f110 32 = u12 := hf118
                obtain ⟨S120, hS121, hf122⟩ := hphi114 3 33 _ rfl rfl rfl
                obtain ⟨e123, hr124⟩ : f110 33 = (Value.int .i64 (k39 : Int)) ∧ InR .i64 (k39 : Int) := hf122
                exact OpX.val (Value.pointer (some (elA u12 ((k39 : Int)).toNat))) wd111 rfl (op_idx sl_35 (St.rep (t := (Ty.sl (Ty.i .i64))) hS115 0 rfl) e119 e123 ha126 hb127) (Ext.refl _) rfl
              · refine ObX.op rfl ?_
                intro f129 wd130 he131 hout132 hphi133
                have hS134 : St wd2 wd130 [(Ty.sl (Ty.i .i64)).at u12 x62] := St.extend hS78 he131
                obtain ⟨S135, hS136, hf137⟩ := hphi133 4 34 _ rfl rfl rfl
                have e138 : f129 34 = (Value.pointer (some (elA u12 ((k39 : Int)).toNat))) := hf137
                exact OpX.val (Value.int .i64 x125) wd130 rfl (op_load one_2 e138 (Ext.cell he131 hc140)) (Ext.refl _) ⟨rfl, hr141⟩
              · refine ObX.op rfl ?_
                intro f142 wd143 he144 hout145 hphi146
                have hS147 : St wd2 wd143 [(Ty.sl (Ty.i .i64)).at u12 x62] := St.extend hS78 he144
                have e148 : f142 2 = (Value.pointer (some ⟨b1, 0, none⟩)) := (hout145 2 rfl).trans hf72
                exact OpX.val (Value.pointer (some ⟨b1, 0, none⟩)) wd143 rfl (op_fieldAddr fd_26_0 e148) (Ext.refl _) rfl
              · refine ObX.op rfl ?_
                intro f149 wd150 he151 hout152 hphi153
                have hS154 : St wd2 wd150 [(Ty.sl (Ty.i .i64)).at u12 x62] := St.extend hS78 he151
                obtain ⟨S155, hS156, hf157⟩ := hphi153 6 36 _ rfl rfl rfl
                have e158 : f149 36 = (Value.pointer (some ⟨b1, 0, none⟩)) := hf157
                exact OpX.val v_r_Table wd150 rfl (op_load one_22 e158 (BoxAt.cell (BoxAt.lift hS154.ext hx6) rfl)) (Ext.refl _) rfl
              · refine ObX.op rfl ?_
                intro f159 wd160 he161 hout162 hphi163
                have hS164 : St wd2 wd160 [(Ty.sl (Ty.i .i64)).at u12 x62] := St.extend hS78 he161
                have e165 : f159 6 = (Value.int .i64 (k18 : Int)) := (hout162 6 rfl).trans hf74
                exact OpX.val (Value.int .i64 (k18 : Int)) wd160 rfl (op_move e165) (Ext.refl _) ⟨rfl, hr32⟩
              · refine ObX.op rfl ?_
                intro f166 wd167 he168 hout169 hphi170
                have hS171 : St wd2 wd167 [(Ty.sl (Ty.i .i64)).at u12 x62] := St.extend hS78 he168
                obtain ⟨S172, hS173, hf174⟩ := hphi170 7 37 _ rfl rfl rfl
                have e175 : f166 37 = v_r_Table := hf174
                obtain ⟨S176, hS177, hf178⟩ := hphi170 8 38 _ rfl rfl rfl
                obtain ⟨e179, hr180⟩ : f166 38 = (Value.int .i64 (k18 : Int)) ∧ InR .i64 (k18 : Int) := hf178
                exact OpX.val (Value.pointer (some (elA v_r_Table ((k18 : Int)).toNat))) wd167 rfl (op_idx sl_22 (Ty.lift _ (Ext.trans hE7 hS171.ext) r_r_Table) e175 e179 ha182 hb183) (Ext.refl _) rfl
              · refine ObX.op rfl ?_
                intro f185 wd186 he187 hout188 hphi189
                have hS190 : St wd2 wd186 [(Ty.sl (Ty.i .i64)).at u12 x62] := St.extend hS78 he187
                obtain ⟨S191, hS192, hf193⟩ := hphi189 9 39 _ rfl rfl rfl
                have e194 : f185 39 = (Value.pointer (some (elA v_r_Table ((k18 : Int)).toNat))) := hf193
                exact OpX.val u195 wd186 rfl (op_load one_57 e194 (Ext.cell (Ext.trans hE7 hS190.ext) hc196)) (Ext.refl _) rfl
              · refine ObX.op rfl ?_
                intro f198 wd199 he200 hout201 hphi202
                have hS203 : St wd2 wd199 [(Ty.sl (Ty.i .i64)).at u12 x62] := St.extend hS78 he200
                have e204 : f198 7 = (Value.int .i64 (k39 : Int)) := (hout201 7 rfl).trans hf75
                exact OpX.val (Value.int .i64 (k39 : Int)) wd199 rfl (op_move e204) (Ext.refl _) ⟨rfl, hr54⟩
              · refine ObX.op rfl ?_
                intro f205 wd206 he207 hout208 hphi209
                have hS210 : St wd2 wd206 [(Ty.sl (Ty.i .i64)).at u12 x62] := St.extend hS78 he207
                obtain ⟨S211, hS212, hf213⟩ := hphi209 10 40 _ rfl rfl rfl
                have e214 : f205 40 = u195 := hf213
                obtain ⟨S215, hS216, hf217⟩ := hphi209 11 41 _ rfl rfl rfl
                obtain ⟨e218, hr219⟩ : f205 41 = (Value.int .i64 (k39 : Int)) ∧ InR .i64 (k39 : Int) := hf217
                exact OpX.val (Value.pointer (some (elA u195 ((k39 : Int)).toNat))) wd206 rfl (op_idx sl_57 (Ty.lift _ (Ext.trans hE7 hS210.ext) hr197) e214 e218 ha221 hb222) (Ext.refl _) rfl
              · refine ObX.op rfl ?_
                intro f224 wd225 he226 hout227 hphi228
                have hS229 : St wd2 wd225 [(Ty.sl (Ty.i .i64)).at u12 x62] := St.extend hS78 he226
                obtain ⟨S230, hS231, hf232⟩ := hphi228 12 42 _ rfl rfl rfl
                have e233 : f224 42 = (Value.pointer (some (elA u195 ((k39 : Int)).toNat))) := hf232
                exact OpX.val u234 wd225 rfl (op_load one_35 e233 (Ext.cell (Ext.trans hE7 hS229.ext) hc235)) (Ext.refl _) rfl
              · refine ObX.op rfl ?_
                intro f237 wd238 he239 hout240 hphi241
                have hS242 : St wd2 wd238 [(Ty.sl (Ty.i .i64)).at u12 x62] := St.extend hS78 he239
                have e243 : f237 8 = (Value.int .i64 (k61 : Int)) := (hout240 8 rfl).trans hf76
                exact OpX.val (Value.int .i64 (k61 : Int)) wd238 rfl (op_move e243) (Ext.refl _) ⟨rfl, hr77⟩
              · refine ObX.op rfl ?_
                intro f244 wd245 he246 hout247 hphi248
                have hS249 : St wd2 wd245 [(Ty.sl (Ty.i .i64)).at u12 x62] := St.extend hS78 he246
                obtain ⟨S250, hS251, hf252⟩ := hphi248 13 43 _ rfl rfl rfl
                have e253 : f244 43 = u234 := hf252
                obtain ⟨S254, hS255, hf256⟩ := hphi248 14 44 _ rfl rfl rfl
                obtain ⟨e257, hr258⟩ : f244 44 = (Value.int .i64 (k61 : Int)) ∧ InR .i64 (k61 : Int) := hf256
                exact OpX.val (Value.pointer (some (elA u234 ((k61 : Int)).toNat))) wd245 rfl (op_idx sl_35 (Ty.lift _ (Ext.trans hE7 hS249.ext) hr236) e253 e257 ha260 hb261) (Ext.refl _) rfl
              · refine ObX.op rfl ?_
                intro f263 wd264 he265 hout266 hphi267
                have hS268 : St wd2 wd264 [(Ty.sl (Ty.i .i64)).at u12 x62] := St.extend hS78 he265
                obtain ⟨S269, hS270, hf271⟩ := hphi267 15 45 _ rfl rfl rfl
                have e272 : f263 45 = (Value.pointer (some (elA u234 ((k61 : Int)).toNat))) := hf271
                exact OpX.val (Value.int .i64 x259) wd264 rfl (op_load one_2 e272 (Ext.cell (Ext.trans hE7 hS268.ext) hc274)) (Ext.refl _) ⟨rfl, hr275⟩
              · refine ObX.op rfl ?_
                intro f276 wd277 he278 hout279 hphi280
                have hS281 : St wd2 wd277 [(Ty.sl (Ty.i .i64)).at u12 x62] := St.extend hS78 he278
                have e282 : f276 1 = v_w1 := (hout279 1 rfl).trans hf71
                exact OpX.val v_w1 wd277 rfl (op_move e282) (Ext.refl _) rfl
              · refine ObX.op rfl ?_
                intro f283 wd284 he285 hout286 hphi287
                have hS288 : St wd2 wd284 [(Ty.sl (Ty.i .i64)).at u12 x62] := St.extend hS78 he285
                have e289 : f283 8 = (Value.int .i64 (k61 : Int)) := (hout286 8 rfl).trans hf76
                exact OpX.val (Value.int .i64 (k61 : Int)) wd284 rfl (op_move e289) (Ext.refl _) ⟨rfl, hr77⟩
              · refine ObX.op rfl ?_
                intro f290 wd291 he292 hout293 hphi294
                have hS295 : St wd2 wd291 [(Ty.sl (Ty.i .i64)).at u12 x62] := St.extend hS78 he292
                obtain ⟨S296, hS297, hf298⟩ := hphi294 17 47 _ rfl rfl rfl
                have e299 : f290 47 = v_w1 := hf298
                obtain ⟨S300, hS301, hf302⟩ := hphi294 18 48 _ rfl rfl rfl
                obtain ⟨e303, hr304⟩ : f290 48 = (Value.int .i64 (k61 : Int)) ∧ InR .i64 (k61 : Int) := hf302
                exact OpX.val (Value.pointer (some (elA v_w1 ((k61 : Int)).toNat))) wd291 rfl (op_idx sl_35 (Ty.lift _ (Ext.trans hE7 hS295.ext) r_w1) e299 e303 ha306 hb307) (Ext.refl _) rfl
              · refine ObX.op rfl ?_
                intro f309 wd310 he311 hout312 hphi313
                have hS314 : St wd2 wd310 [(Ty.sl (Ty.i .i64)).at u12 x62] := St.extend hS78 he311
                obtain ⟨S315, hS316, hf317⟩ := hphi313 19 49 _ rfl rfl rfl
                have e318 : f309 49 = (Value.pointer (some (elA v_w1 ((k61 : Int)).toNat))) := hf317
                exact OpX.val (Value.int .i64 x305) wd310 rfl (op_load one_2 e318 (Ext.cell (Ext.trans hE7 hS314.ext) hc320)) (Ext.refl _) ⟨rfl, hr321⟩
              · refine ObX.op rfl ?_
                intro f322 wd323 he324 hout325 hphi326
                have hS327 : St wd2 wd323 [(Ty.sl (Ty.i .i64)).at u12 x62] := St.extend hS78 he324
                obtain ⟨S328, hS329, hf330⟩ := hphi326 16 46 _ rfl rfl rfl
                obtain ⟨e331, hr332⟩ : f322 46 = (Value.int .i64 x259) ∧ InR .i64 x259 := hf330
                obtain ⟨S333, hS334, hf335⟩ := hphi326 20 50 _ rfl rfl rfl
                obtain ⟨e336, hr337⟩ : f322 50 = (Value.int .i64 x305) ∧ InR .i64 x305 := hf335
                exact OpX.val (Value.int .i64 (w64 (x259 * x305))) wd323 rfl (op_mul e331 e336) (Ext.refl _) ⟨rfl, (inR_wrap _ _)⟩
              · refine ObX.op rfl ?_
                intro f338 wd339 he340 hout341 hphi342
                have hS343 : St wd2 wd339 [(Ty.sl (Ty.i .i64)).at u12 x62] := St.extend hS78 he340
                obtain ⟨S344, hS345, hf346⟩ := hphi342 5 35 _ rfl rfl rfl
                obtain ⟨e347, hr348⟩ : f338 35 = (Value.int .i64 x125) ∧ InR .i64 x125 := hf346
                obtain ⟨S349, hS350, hf351⟩ := hphi342 21 51 _ rfl rfl rfl
                obtain ⟨e352, hr353⟩ : f338 51 = (Value.int .i64 (w64 (x259 * x305))) ∧ InR .i64 (w64 (x259 * x305)) := hf351
                exact OpX.val (Value.int .i64 (w64 (x125 + (w64 (x259 * x305))))) wd339 rfl (op_add e347 e352) (Ext.refl _) ⟨rfl, (inR_wrap _ _)⟩
              · intro f354 wd355 Ss356 he357 hout358 hSn359 hSd360 hphi361
                show WL _ _ _ _ _ _ _
                have hS362 : St wd2 wd355 [(Ty.sl (Ty.i .i64)).at u12 x62] := St.extend hS78 he357
                have e363 : f354 30 = u12 := hphi361 0 30 _ (by decide) rfl rfl
                obtain ⟨e364, hr365⟩ : f354 31 = (Value.int .i64 (k39 : Int)) ∧ InR .i64 (k39 : Int) := hphi361 1 31 _ (by decide) rfl rfl
                obtain ⟨e366, hr367⟩ : f354 52 = (Value.int .i64 (w64 (x125 + (w64 (x259 * x305))))) ∧ InR .i64 (w64 (x125 + (w64 (x259 * x305)))) := hphi361 22 52 _ (by decide) rfl rfl
                have e368 : f354 1 = v_w1 := (hout358 1 rfl).trans hf71
                have e369 : f354 2 = (Value.pointer (some ⟨b1, 0, none⟩)) := (hout358 2 rfl).trans hf72
                have e370 : f354 5 = u12 := (hout358 5 rfl).trans hf73
                have e371 : f354 6 = (Value.int .i64 (k18 : Int)) := (hout358 6 rfl).trans hf74
                have e372 : f354 7 = (Value.int .i64 (k39 : Int)) := (hout358 7 rfl).trans hf75
                have e373 : f354 8 = (Value.int .i64 (k61 : Int)) := (hout358 8 rfl).trans hf76
                refine WL.val (Value.pointer (some (elA u12 ((k39 : Int)).toNat))) _ (op_idx sl_35 (St.rep (t := (Ty.sl (Ty.i .i64))) hS362 0 rfl) e363 e364 ha126 hb127) rfl ?_
                refine WL.storeEl (flat_i .i64) hS362 (k := 0) rfl sz_2 rfl e366 (lt_of_idx ha126 hb127) ⟨rfl, hr367⟩ ?_
                intro wd374 hS375
                replace hS375 : St wd2 wd374 [(Ty.sl (Ty.i .i64)).at u12 ((x62).set ((k39 : Int)).toNat (w64 (x125 + (w64 (x259 * x305)))))] := hS375
                refine WL.nil ?_
                show W _ _ _ _ _ _
                refine W.region ?_
                refine WL.val (Value.int .i64 (k61 : Int)) _ (op_move e373) rfl ?_
                refine WL.val (Value.int .i64 (w64 ((k61 : Int) + (1 : Int)))) _ (op_add rfl rfl) rfl ?_
                refine WL.val (Value.int .i64 (w64 ((k61 : Int) + (1 : Int)))) _ (op_assign rfl) rfl ?_
                refine WL.nil ?_
                obtain rfl := Option.some.inj hb67
                show ∃ s, _ = Ctl.next s ∧ _
                exact ⟨_, rfl, e368, e369, e370, e371, e372, (ctr_next hl80 hr79), (ctr_rng hl80 hr79), hS375⟩
            · intro x382 f377 wd378 hs379 hI380
              replace hI380 : f377 1 = v_w1 ∧ f377 2 = (Value.pointer (some ⟨b1, 0, none⟩)) ∧ f377 5 = u12 ∧ f377 6 = (Value.int .i64 (k18 : Int)) ∧ f377 7 = (Value.int .i64 (k39 : Int)) ∧ f377 8 = Value.int .i64 (((w1).length : Nat) : Int) ∧ InR .i64 (((w1).length : Nat) : Int) ∧ St wd2 wd378 [(Ty.sl (Ty.i .i64)).at u12 x382] := hI380
              obtain ⟨hf383, hf384, hf385, hf386, hf387, hf388, hr389, hS390⟩ := hI380
              refine W.seq (W.seq (W.region ?_))
              refine WL.val (Value.int .i64 (((w1).length : Nat) : Int)) _ (op_move hf388) rfl ?_
              refine WL.val v_w1 _ (op_move hf383) rfl ?_
              have hr391 := inR_len (Ty.lift _ (Ext.trans hE7 hS390.ext) r_w1)
              refine WL.val (Value.int .i64 ((w1).length : Int)) _ (op_lenL sl_35 (Ty.lift _ (Ext.trans hE7 hS390.ext) r_w1) rfl) rfl ?_
              refine WL.val (Value.bool (decide ((((w1).length : Nat) : Int) < ((w1).length : Int)))) _ (op_lss rfl rfl) rfl ?_
              have hl392 : ¬ (((w1).length : Nat) : Int) < ((w1).length : Int) := by omega
              refine WL.nil ?_
              show W _ _ _ _ _ _
              refine W.condF (decide ((((w1).length : Nat) : Int) < ((w1).length : Int))) rfl (decide_eq_false hl392) ?_
              refine W.exit ?_
              show _ = _ ∧ _
              exact ⟨rfl, _, hs379, hf383, hf384, hf385, hf386, hf387, hS390⟩
          · rintro f393 wd394 ⟨x397, rfl, hq395⟩
            replace hb45 := onRes_fin hb45
            replace hq395 : f393 1 = v_w1 ∧ f393 2 = (Value.pointer (some ⟨b1, 0, none⟩)) ∧ f393 5 = u12 ∧ f393 6 = (Value.int .i64 (k18 : Int)) ∧ f393 7 = (Value.int .i64 (k39 : Int)) ∧ St wd2 wd394 [(Ty.sl (Ty.i .i64)).at u12 x397] := hq395
            obtain ⟨hf398, hf399, hf400, hf401, hf402, hS403⟩ := hq395
            show W _ _ _ _ _ _
            refine W.region ?_
            refine WL.val (Value.int .i64 (k39 : Int)) _ (op_move hf402) rfl ?_
            refine WL.val (Value.int .i64 (w64 ((k39 : Int) + (1 : Int)))) _ (op_add rfl rfl) rfl ?_
            refine WL.val (Value.int .i64 (w64 ((k39 : Int) + (1 : Int)))) _ (op_assign rfl) rfl ?_
            refine WL.nil ?_
            obtain rfl := Option.some.inj hb45
            show ∃ s, _ = Ctl.next s ∧ _
            exact ⟨_, rfl, hf398, hf399, hf400, hf401, (ctr_next hl57 hr56), (ctr_rng hl57 hr56), hS403⟩
        · intro x411 f406 wd407 hs408 hI409
          replace hI409 : f406 1 = v_w1 ∧ f406 2 = (Value.pointer (some ⟨b1, 0, none⟩)) ∧ f406 5 = u12 ∧ f406 6 = (Value.int .i64 (k18 : Int)) ∧ f406 7 = Value.int .i64 (((w1).length : Nat) : Int) ∧ InR .i64 (((w1).length : Nat) : Int) ∧ St wd2 wd407 [(Ty.sl (Ty.i .i64)).at u12 x411] := hI409
          obtain ⟨hf412, hf413, hf414, hf415, hf416, hr417, hS418⟩ := hI409
          refine W.seq (W.seq (W.region ?_))
          refine WL.val (Value.int .i64 (((w1).length : Nat) : Int)) _ (op_move hf416) rfl ?_
          refine WL.val v_w1 _ (op_move hf412) rfl ?_
          have hr419 := inR_len (Ty.lift _ (Ext.trans hE7 hS418.ext) r_w1)
          refine WL.val (Value.int .i64 ((w1).length : Int)) _ (op_lenL sl_35 (Ty.lift _ (Ext.trans hE7 hS418.ext) r_w1) rfl) rfl ?_
          refine WL.val (Value.bool (decide ((((w1).length : Nat) : Int) < ((w1).length : Int)))) _ (op_lss rfl rfl) rfl ?_
          have hl420 : ¬ (((w1).length : Nat) : Int) < ((w1).length : Int) := by omega
          refine WL.nil ?_
          show W _ _ _ _ _ _
          refine W.condF (decide ((((w1).length : Nat) : Int) < ((w1).length : Int))) rfl (decide_eq_false hl420) ?_
          refine W.exit ?_
          show _ = _ ∧ _
          exact ⟨rfl, _, hs408, hf412, hf413, hf414, hf415, hS418⟩
      · rintro f421 wd422 ⟨x425, rfl, hq423⟩
        replace hb24 := onRes_fin hb24
        replace hq423 : f421 1 = v_w1 ∧ f421 2 = (Value.pointer (some ⟨b1, 0, none⟩)) ∧ f421 5 = u12 ∧ f421 6 = (Value.int .i64 (k18 : Int)) ∧ St wd2 wd422 [(Ty.sl (Ty.i .i64)).at u12 x425] := hq423
        obtain ⟨hf426, hf427, hf428, hf429, hS430⟩ := hq423
        show W _ _ _ _ _ _
        refine W.region ?_
        refine WL.val (Value.int .i64 (k18 : Int)) _ (op_move hf429) rfl ?_
        refine WL.val (Value.int .i64 (w64 ((k18 : Int) + (1 : Int)))) _ (op_add rfl rfl) rfl ?_
        refine WL.val (Value.int .i64 (w64 ((k18 : Int) + (1 : Int)))) _ (op_assign rfl) rfl ?_
        refine WL.nil ?_
        obtain rfl := Option.some.inj hb24
        show ∃ s, _ = Ctl.next s ∧ _
        exact ⟨_, rfl, hf426, hf427, hf428, (ctr_next hl35 hr34), (ctr_rng hl35 hr34), hS430⟩
    · intro x438 f433 wd434 hs435 hI436
      replace hI436 : f433 1 = v_w1 ∧ f433 2 = (Value.pointer (some ⟨b1, 0, none⟩)) ∧ f433 5 = u12 ∧ f433 6 = Value.int .i64 (((w1).length : Nat) : Int) ∧ InR .i64 (((w1).length : Nat) : Int) ∧ St wd2 wd434 [(Ty.sl (Ty.i .i64)).at u12 x438] := hI436
      obtain ⟨hf439, hf440, hf441, hf442, hr443, hS444⟩ := hI436
      refine W.seq (W.seq (W.region ?_))
      refine WL.val (Value.int .i64 (((w1).length : Nat) : Int)) _ (op_move hf442) rfl ?_
      refine WL.val v_w1 _ (op_move hf439) rfl ?_
      have hr445 := inR_len (Ty.lift _ (Ext.trans hE7 hS444.ext) r_w1)
      refine WL.val (Value.int .i64 ((w1).length : Int)) _ (op_lenL sl_35 (Ty.lift _ (Ext.trans hE7 hS444.ext) r_w1) rfl) rfl ?_
      refine WL.val (Value.bool (decide ((((w1).length : Nat) : Int) < ((w1).length : Int)))) _ (op_lss rfl rfl) rfl ?_
      have hl446 : ¬ (((w1).length : Nat) : Int) < ((w1).length : Int) := by omega
      refine WL.nil ?_
      show W _ _ _ _ _ _
      refine W.condF (decide ((((w1).length : Nat) : Int) < ((w1).length : Int))) rfl (decide_eq_false hl446) ?_
      refine W.exit ?_
      show _ = _ ∧ _
      exact ⟨rfl, _, hs435, hf441, hS444⟩
  · rintro f447 wd448 ⟨x451, rfl, hq449⟩
    replace h := onRes_fin h
    replace hq449 : f447 5 = u12 ∧ St wd2 wd448 [(Ty.sl (Ty.i .i64)).at u12 x451] := hq449
    obtain ⟨hf452, hS453⟩ := hq449
    show W _ _ _ _ _ _
    refine W.seq (W.region ?_)
    refine WL.val u12 _ (op_move hf452) rfl ?_
    refine WL.val u12 _ (op_assign rfl) rfl ?_
    refine WL.nil ?_
    show W _ _ _ _ _ _
    refine W.ret ?_
    obtain rfl := Option.some.inj h
    show FinP _ _ _ _ _ _ _
    exact FinP.ret _ (res1 rfl rfl) ⟨u12, rfl, (Ext.trans hE7 hS453.ext), (St.out (St.pick hS453 [0] rfl) (hE7))⟩

theorem c_spec_l04Weights {w : World} {r_Table : (List (List (List Int)))} {v_r_Table : Value} {t : Int} (r_r_Table : (Ty.sl (Ty.sl (Ty.sl (Ty.i .i64)))).rep w v_r_Table r_Table) (r_t : InR .i64 t) {res : (List Int) × Bool} (h : p_spec_l04Weights r_Table t  = some res) :
    Ret Try.prog 48 #[(Value.agg #[v_r_Table]), (Value.int .i64 t)] w (fun v w' => ∃ (u0 : Value), v = (Value.tuple #[u0, Value.bool res.2]) ∧ Ext w w' ∧ Sep w.heap.size w' [(Ty.sl (Ty.i .i64)).at u0 res.1]) := by
  unfold p_spec_l04Weights at h
  have hS0 : St w w [] := St.start w
  refine Ret.start (fn := Try.f48) Try.func48 rfl 39 rfl rfl ?_
  refine W.seq (W.region ?_)
  refine WL.box hS0 rfl (cs := [v_r_Table]) rfl rfl ?_
  intro b1 wd2 hS3 he4 hx5
  replace hS3 : St w wd2 [bx b1 [v_r_Table]] := hS3
  have hx6 := St.boxAt hS3 0 rfl
  have hE7 : Ext w wd2 := hS3.ext
  have hS8 : St wd2 wd2 [] := St.start wd2
  refine WL.val (Value.slice none 0 0) _ (op_assign rfl) rfl ?_
  refine WL.val (Value.bool false) _ (op_assign rfl) rfl ?_
  refine WL.nil ?_
  show W _ _ _ _ _ _
  refine W.seq (W.region ?_)
  refine WL.lit0 (t := (Ty.i .i64)) hS8 sl_35 rfl rfl ?_
  intro u9 wd10 hS11 he12
  replace hS11 : St wd2 wd10 [(Ty.sl (Ty.i .i64)).at u9 ([] : (List Int))] := hS11
  refine WL.val u9 _ (op_assign rfl) rfl ?_
  refine WL.nil ?_
  show W _ _ _ _ _ _
  refine W.seq (W.seq (W.region ?_))
  refine WL.val (Value.int .i64 (0 : Int)) _ (op_assign rfl) rfl ?_
  refine WL.nil ?_
  show W _ _ _ _ _ _
  obtain ⟨res13, hres14, h⟩ := bs h
  refine W.blockLoop (fun fq wq => ∃ s, res13 = Res.fin s ∧ ∃ (uu0 : Value), fq 1 = (Value.int .i64 t) ∧ fq 2 = (Value.pointer (some ⟨b1, 0, none⟩)) ∧ fq 6 = uu0 ∧ St wd2 wq [(Ty.sl (Ty.i .i64)).at uu0 s]) ?_ ?_
  · refine W.forN (fun k (s : (List Int)) fq wq => ∃ (uu0 : Value), fq 1 = (Value.int .i64 t) ∧ fq 2 = (Value.pointer (some ⟨b1, 0, none⟩)) ∧ fq 6 = uu0 ∧ fq 7 = Value.int .i64 (k : Int) ∧ InR .i64 (k : Int) ∧ St wd2 wq [(Ty.sl (Ty.i .i64)).at uu0 s]) hres14 ⟨u9, rfl, rfl, rfl, rfl, (inR_i64.2 (show (-9223372036854775808 : Int) ≤ 0 ∧ (0 : Int) ≤ 9223372036854775807 from by decide)), hS11⟩ ?_ ?_
    · intro k15 x16 ct17 f18 wd19 hk20 hb21 hI22 hbrk23 hret24
      replace hI22 : ∃ (uu0 : Value), f18 1 = (Value.int .i64 t) ∧ f18 2 = (Value.pointer (some ⟨b1, 0, none⟩)) ∧ f18 6 = uu0 ∧ f18 7 = Value.int .i64 (k15 : Int) ∧ InR .i64 (k15 : Int) ∧ St wd2 wd19 [(Ty.sl (Ty.i .i64)).at uu0 x16] := hI22
      replace hb21 : p_spec_l04Weights_L1  k15 x16 = some ct17 := hb21
      unfold p_spec_l04Weights_L1 at hb21
      obtain ⟨u25, hf26, hf27, hf28, hf29, hr30, hS31⟩ := hI22
      refine W.seq (W.seq (W.region ?_))
      refine WL.val (Value.int .i64 (k15 : Int)) _ (op_move hf29) rfl ?_
      refine WL.val (Value.pointer (some ⟨b1, 0, none⟩)) _ (op_fieldAddr fd_26_0 hf27) rfl ?_
      refine WL.val v_r_Table _ (op_load one_22 rfl (BoxAt.cell (BoxAt.lift hS31.ext hx6) rfl)) rfl ?_
      have hr32 := inR_len (Ty.lift _ (Ext.trans hE7 hS31.ext) r_r_Table)
      refine WL.val (Value.int .i64 ((r_Table).length : Int)) _ (op_lenL sl_22 (Ty.lift _ (Ext.trans hE7 hS31.ext) r_r_Table) rfl) rfl ?_
      refine WL.val (Value.bool (decide ((k15 : Int) < ((r_Table).length : Int)))) _ (op_lss rfl rfl) rfl ?_
      have hl33 : (k15 : Int) < ((r_Table).length : Int) := by omega
      refine WL.nil ?_
      show W _ _ _ _ _ _
      refine W.condT (decide ((k15 : Int) < ((r_Table).length : Int))) rfl (decide_eq_true hl33) ?_
      refine W.skip ?_
      show W _ _ _ _ _ _
      refine W.seq ?_
      refine W.block ?_
      refine W.region ?_
      refine WL.val u25 _ (op_move hf28) rfl ?_
      refine WL.litFlat (t := (Ty.i .i64)) (flat_i .i64) [(Value.int .i64 (1 : Int))] [(1 : Int)] hS31 sl_35 rfl rfl (fillL rfl ⟨rfl, rfl, rfl, trivial⟩) rfl rfl (litL ⟨⟨rfl, (inR_i64.2 (show (-9223372036854775808 : Int) ≤ 1 ∧ (1 : Int) ≤ 9223372036854775807 from by decide))⟩, trivial⟩) rfl ?_
      intro u35 wd36 hS37 he38
      replace hS37 : St wd2 wd36 [(Ty.sl (Ty.i .i64)).at u25 x16, (Ty.sl (Ty.i .i64)).at u35 ([(1 : Int)] : (List Int))] := hS37
      obtain ⟨x39, hx40, hb21⟩ := bs hb21
      refine WL.append (flat_i .i64) hS37 (k := 0) rfl sl_35 rfl rfl rfl rfl (St.rep (t := (Ty.sl (Ty.i .i64))) hS37 1 rfl) hx40 rfl ?_
      intro u41 wd42 hS43 hz44
      replace hS43 : St wd2 wd42 [(Ty.sl (Ty.i .i64)).at u41 x39, (Ty.sl (Ty.i .i64)).at u35 ([(1 : Int)] : (List Int))] := hS43
      refine WL.val u41 _ (op_assign rfl) rfl ?_
      refine WL.nil ?_
      show W _ _ _ _ _ _
      refine W.region ?_
      refine WL.val (Value.int .i64 (k15 : Int)) _ (op_move hf29) rfl ?_
      refine WL.val (Value.int .i64 (w64 ((k15 : Int) + (1 : Int)))) _ (op_add rfl rfl) rfl ?_
      refine WL.val (Value.int .i64 (w64 ((k15 : Int) + (1 : Int)))) _ (op_assign rfl) rfl ?_
      refine WL.nil ?_
      obtain rfl := Option.some.inj hb21
      show ∃ s, _ = Ctl.next s ∧ _
      exact ⟨_, rfl, u41, hf26, hf27, rfl, (ctr_next hl33 hr32), (ctr_rng hl33 hr32), (St.pick hS43 [0] rfl)⟩
    · intro x51 f46 wd47 hs48 hI49
      replace hI49 : ∃ (uu0 : Value), f46 1 = (Value.int .i64 t) ∧ f46 2 = (Value.pointer (some ⟨b1, 0, none⟩)) ∧ f46 6 = uu0 ∧ f46 7 = Value.int .i64 (((r_Table).length : Nat) : Int) ∧ InR .i64 (((r_Table).length : Nat) : Int) ∧ St wd2 wd47 [(Ty.sl (Ty.i .i64)).at uu0 x51] := hI49
      obtain ⟨u52, hf53, hf54, hf55, hf56, hr57, hS58⟩ := hI49
      refine W.seq (W.seq (W.region ?_))
      refine WL.val (Value.int .i64 (((r_Table).length : Nat) : Int)) _ (op_move hf56) rfl ?_
      refine WL.val (Value.pointer (some ⟨b1, 0, none⟩)) _ (op_fieldAddr fd_26_0 hf54) rfl ?_
      refine WL.val v_r_Table _ (op_load one_22 rfl (BoxAt.cell (BoxAt.lift hS58.ext hx6) rfl)) rfl ?_
      have hr59 := inR_len (Ty.lift _ (Ext.trans hE7 hS58.ext) r_r_Table)
      refine WL.val (Value.int .i64 ((r_Table).length : Int)) _ (op_lenL sl_22 (Ty.lift _ (Ext.trans hE7 hS58.ext) r_r_Table) rfl) rfl ?_
      refine WL.val (Value.bool (decide ((((r_Table).length : Nat) : Int) < ((r_Table).length : Int)))) _ (op_lss rfl rfl) rfl ?_
      have hl60 : ¬ (((r_Table).length : Nat) : Int) < ((r_Table).length : Int) := by omega
      refine WL.nil ?_
      show W _ _ _ _ _ _
      refine W.condF (decide ((((r_Table).length : Nat) : Int) < ((r_Table).length : Int))) rfl (decide_eq_false hl60) ?_
      refine W.exit ?_
      show _ = _ ∧ _
      exact ⟨rfl, _, hs48, u52, hf53, hf54, hf55, hS58⟩
  · rintro f61 wd62 ⟨x65, rfl, hq63⟩
    replace h := onRes_fin h
    replace hq63 : ∃ (uu0 : Value), f61 1 = (Value.int .i64 t) ∧ f61 2 = (Value.pointer (some ⟨b1, 0, none⟩)) ∧ f61 6 = uu0 ∧ St wd2 wd62 [(Ty.sl (Ty.i .i64)).at uu0 x65] := hq63
    obtain ⟨u66, hf67, hf68, hf69, hS70⟩ := hq63
    show W _ _ _ _ _ _
    refine W.seq ?_
    obtain ⟨res71, hres72, h⟩ := bs h
    refine W.blockLoop (fun fq wq => ∃ s, res71 = Res.fin s ∧ ∃ (uu0 : Value), fq 6 = uu0 ∧ St wd2 wq [(Ty.sl (Ty.i .i64)).at uu0 s.1]) ?_ ?_
    · refine W.whileC (fun (s : (List Int) × Int) fq wq => ∃ (uu0 : Value), fq 1 = Value.int .i64 s.2 ∧ InR .i64 s.2 ∧ fq 2 = (Value.pointer (some ⟨b1, 0, none⟩)) ∧ fq 6 = uu0 ∧ St wd2 wq [(Ty.sl (Ty.i .i64)).at uu0 s.1]) hres72 ⟨u66, hf67, r_t, hf68, hf69, hS70⟩ ?_
      intro s151 ct76 f77 wd78 hb80 hI81 hbrk82 hret83
      obtain ⟨x74, x75⟩ := s151
      replace hI81 : ∃ (uu0 : Value), f77 1 = Value.int .i64 x75 ∧ InR .i64 x75 ∧ f77 2 = (Value.pointer (some ⟨b1, 0, none⟩)) ∧ f77 6 = uu0 ∧ St wd2 wd78 [(Ty.sl (Ty.i .i64)).at uu0 x74] := hI81
      replace hb80 : p_spec_l04Weights_L2 r_Table  x74 x75 = some ct76 := hb80
      unfold p_spec_l04Weights_L2 at hb80
      obtain ⟨u84, hf85, hr86, hf87, hf88, hS89⟩ := hI81
      refine W.seq (W.seq (W.region ?_))
      refine WL.val (Value.int .i64 x75) _ (op_move hf85) rfl ?_
      refine WL.val (Value.bool (decide (x75 > (0 : Int)))) _ (op_gtr rfl rfl) rfl ?_
      refine WL.nil ?_
      show W _ _ _ _ _ _
      refine W.cond (decide (x75 > (0 : Int))) rfl (fun hc90 => ?_) (fun hc90 => ?_)
      · replace hb80 := ip hb80 hc90
        refine W.skip ?_
        show W _ _ _ _ _ _
        refine W.seq ?_
        refine W.block ?_
        refine W.seq (W.region ?_)
        refine WL.val (Value.agg #[v_r_Table]) _ (op_loadBox st_26 hf87 (BoxAt.lift hS89.ext hx6) rfl rfl) rfl ?_
        refine WL.val u84 _ (op_move hf88) rfl ?_
        obtain ⟨x92, hx93, hb80⟩ := bs hb80
        refine WL.call _ (op_call fn_76 (args2 rfl rfl)) (c_spec_l04Next (Ty.lift _ (Ext.trans hE7 hS89.ext) r_r_Table) (St.rep (t := (Ty.sl (Ty.i .i64))) hS89 0 rfl) hx93) rfl ?_
        rintro u94 wd95 ⟨_, rfl, he96, hs97⟩
        have hS98 := St.join hS89 he96 hs97
        replace hS98 : St wd2 wd95 [(Ty.sl (Ty.i .i64)).at u84 x74, (Ty.sl (Ty.i .i64)).at u94 x92] := hS98
        refine WL.val u94 _ (op_assign rfl) rfl ?_
        refine WL.nil ?_
        show W _ _ _ _ _ _
        refine W.seq (W.region ?_)
        refine WL.val (Value.int .i64 (0 : Int)) _ (op_assign rfl) rfl ?_
        refine WL.nil ?_
        show W _ _ _ _ _ _
        obtain ⟨res99, hres100, hb80⟩ := bs hb80
        refine W.blockLoop (fun fq wq => ∃ s, res99 = Res.fin s ∧ fq 1 = (Value.int .i64 x75) ∧ fq 2 = (Value.pointer (some ⟨b1, 0, none⟩)) ∧ fq 6 = u94 ∧ St wd2 wq [(Ty.sl (Ty.i .i64)).at u94 x92]) ?_ ?_
        · refine W.forN (fun k (s : Unit) fq wq => fq 1 = (Value.int .i64 x75) ∧ fq 2 = (Value.pointer (some ⟨b1, 0, none⟩)) ∧ fq 6 = u94 ∧ fq 8 = Value.int .i64 (k : Int) ∧ InR .i64 (k : Int) ∧ St wd2 wq [(Ty.sl (Ty.i .i64)).at u94 x92]) hres100 ⟨hf85, hf87, rfl, rfl, (inR_i64.2 (show (-9223372036854775808 : Int) ≤ 0 ∧ (0 : Int) ≤ 9223372036854775807 from by decide)), (St.pick hS98 [1] rfl)⟩ ?_ ?_
          · intro k101 s128 ct102 f103 wd104 hk105 hb106 hI107 hbrk108 hret109
            obtain ⟨⟩ := s128
            replace hI107 : f103 1 = (Value.int .i64 x75) ∧ f103 2 = (Value.pointer (some ⟨b1, 0, none⟩)) ∧ f103 6 = u94 ∧ f103 8 = Value.int .i64 (k101 : Int) ∧ InR .i64 (k101 : Int) ∧ St wd2 wd104 [(Ty.sl (Ty.i .i64)).at u94 x92] := hI107
            replace hb106 : p_spec_l04Weights_L3 x92 k101  = some ct102 := hb106
            unfold p_spec_l04Weights_L3 at hb106
            obtain ⟨hf110, hf111, hf112, hf113, hr114, hS115⟩ := hI107
            refine W.seq (W.seq (W.region ?_))
            refine WL.val (Value.int .i64 (k101 : Int)) _ (op_move hf113) rfl ?_
            refine WL.val u94 _ (op_move hf112) rfl ?_
            have hr116 := inR_len (St.rep (t := (Ty.sl (Ty.i .i64))) hS115 0 rfl)
            refine WL.val (Value.int .i64 ((x92).length : Int)) _ (op_lenL sl_35 (St.rep (t := (Ty.sl (Ty.i .i64))) hS115 0 rfl) rfl) rfl ?_
            refine WL.val (Value.bool (decide ((k101 : Int) < ((x92).length : Int)))) _ (op_lss rfl rfl) rfl ?_
            have hl117 : (k101 : Int) < ((x92).length : Int) := by omega
            refine WL.nil ?_
            show W _ _ _ _ _ _
            refine W.condT (decide ((k101 : Int) < ((x92).length : Int))) rfl (decide_eq_true hl117) ?_
            refine W.skip ?_
            show W _ _ _ _ _ _
            refine W.seq ?_
            refine W.block ?_
            refine W.seq (W.region ?_)
            refine WL.val u94 _ (op_move hf112) rfl ?_
            refine WL.val (Value.int .i64 (k101 : Int)) _ (op_move hf113) rfl ?_
            obtain ⟨x119, hx122, hb106⟩ := bs hb106
            obtain ⟨ha120, hb121, hx122⟩ := idx_some hx122
            refine WL.val (Value.pointer (some (elA u94 ((k101 : Int)).toNat))) _ (op_idx sl_35 (St.rep (t := (Ty.sl (Ty.i .i64))) hS115 0 rfl) rfl rfl ha120 hb121) rfl ?_
            obtain ⟨u123, hc124, hr125⟩ := repSl.el (St.rep (t := (Ty.sl (Ty.i .i64))) hS115 0 rfl) hx122
            obtain ⟨rfl, hr125⟩ := hr125
            refine WL.val (Value.int .i64 x119) _ (op_load one_2 rfl hc124) rfl ?_
            refine WL.val (Value.bool (decide (x119 > (1000000 : Int)))) _ (op_gtr rfl rfl) rfl ?_
            refine WL.nil ?_
            show W _ _ _ _ _ _
            refine W.cond (decide (x119 > (1000000 : Int))) rfl (fun hc126 => ?_) (fun hc126 => ?_)
            · replace hb106 := ip hb106 hc126
              refine W.seq (W.region ?_)
              refine WL.val (Value.slice none 0 0) _ (op_assign rfl) rfl ?_
              refine WL.val (Value.bool false) _ (op_assign rfl) rfl ?_
              refine WL.nil ?_
              show W _ _ _ _ _ _
              refine W.ret ?_
              obtain rfl := Option.some.inj hb106
              obtain rfl := hret109 _ rfl
              replace hb80 := onRes_ret hb80
              obtain rfl := Option.some.inj hb80
              obtain rfl := hret83 _ rfl
              replace h := onRes_ret h
              obtain rfl := Option.some.inj h
              show FinP _ _ _ _ _ _ _
              exact FinP.ret _ (res2 rfl rfl rfl) ⟨(Value.slice none 0 0), rfl, (Ext.trans hE7 hS115.ext), (St.out (St.pick (St.addNil (Ty.i .i64) hS115) [1] rfl) (hE7))⟩
            · replace hb106 := inegb hb106 hc126
              refine W.skip ?_
              show W _ _ _ _ _ _
              refine W.region ?_
              refine WL.val (Value.int .i64 (k101 : Int)) _ (op_move hf113) rfl ?_
              refine WL.val (Value.int .i64 (w64 ((k101 : Int) + (1 : Int)))) _ (op_add rfl rfl) rfl ?_
              refine WL.val (Value.int .i64 (w64 ((k101 : Int) + (1 : Int)))) _ (op_assign rfl) rfl ?_
              refine WL.nil ?_
              obtain rfl := Option.some.inj hb106
              show ∃ s, _ = Ctl.next s ∧ _
              exact ⟨_, rfl, hf110, hf111, hf112, (ctr_next hl117 hr116), (ctr_rng hl117 hr116), hS115⟩
          · intro s133 f129 wd130 hs131 hI132
            obtain ⟨⟩ := s133
            replace hI132 : f129 1 = (Value.int .i64 x75) ∧ f129 2 = (Value.pointer (some ⟨b1, 0, none⟩)) ∧ f129 6 = u94 ∧ f129 8 = Value.int .i64 (((x92).length : Nat) : Int) ∧ InR .i64 (((x92).length : Nat) : Int) ∧ St wd2 wd130 [(Ty.sl (Ty.i .i64)).at u94 x92] := hI132
            obtain ⟨hf134, hf135, hf136, hf137, hr138, hS139⟩ := hI132
            refine W.seq (W.seq (W.region ?_))
            refine WL.val (Value.int .i64 (((x92).length : Nat) : Int)) _ (op_move hf137) rfl ?_
            refine WL.val u94 _ (op_move hf136) rfl ?_
            have hr140 := inR_len (St.rep (t := (Ty.sl (Ty.i .i64))) hS139 0 rfl)
            refine WL.val (Value.int .i64 ((x92).length : Int)) _ (op_lenL sl_35 (St.rep (t := (Ty.sl (Ty.i .i64))) hS139 0 rfl) rfl) rfl ?_
            refine WL.val (Value.bool (decide ((((x92).length : Nat) : Int) < ((x92).length : Int)))) _ (op_lss rfl rfl) rfl ?_
            have hl141 : ¬ (((x92).length : Nat) : Int) < ((x92).length : Int) := by omega
            refine WL.nil ?_
            show W _ _ _ _ _ _
            refine W.condF (decide ((((x92).length : Nat) : Int) < ((x92).length : Int))) rfl (decide_eq_false hl141) ?_
            refine W.exit ?_
            show _ = _ ∧ _
            exact ⟨rfl, _, hs131, hf134, hf135, hf136, hS139⟩
        · rintro f142 wd143 ⟨s145, rfl, hq144⟩
          replace hb80 := onRes_fin hb80
          obtain ⟨⟩ := s145
          replace hq144 : f142 1 = (Value.int .i64 x75) ∧ f142 2 = (Value.pointer (some ⟨b1, 0, none⟩)) ∧ f142 6 = u94 ∧ St wd2 wd143 [(Ty.sl (Ty.i .i64)).at u94 x92] := hq144
          obtain ⟨hf146, hf147, hf148, hS149⟩ := hq144
          show W _ _ _ _ _ _
          refine W.region ?_
          refine WL.val (Value.int .i64 x75) _ (op_move hf146) rfl ?_
          refine WL.val (Value.int .i64 (w64 (x75 - (1 : Int)))) _ (op_sub rfl rfl) rfl ?_
          refine WL.val (Value.int .i64 (w64 (x75 - (1 : Int)))) _ (op_assign rfl) rfl ?_
          refine WL.nil ?_
          obtain rfl := Option.some.inj hb80
          show ∃ s, _ = Ctl.next s ∧ _
          exact ⟨_, rfl, u94, rfl, (inR_wrap _ _), hf147, hf148, hS149⟩
      · replace hb80 := inegb hb80 hc90
        refine W.exit ?_
        obtain rfl := Option.some.inj hb80
        show _ = _ ∧ _
        exact ⟨rfl, _, hbrk82 _ rfl, u84, hf88, hS89⟩
    · rintro f152 wd153 ⟨s155, rfl, hq154⟩
      replace h := onRes_fin h
      obtain ⟨x156, x157⟩ := s155
      replace hq154 : ∃ (uu0 : Value), f152 6 = uu0 ∧ St wd2 wd153 [(Ty.sl (Ty.i .i64)).at uu0 x156] := hq154
      replace h : (_ : Option _) = _ := h
      dsimp only at h
      obtain ⟨u158, hf159, hS160⟩ := hq154
      show W _ _ _ _ _ _
      refine W.seq (W.region ?_)
      refine WL.val u158 _ (op_move hf159) rfl ?_
      refine WL.val u158 _ (op_assign rfl) rfl ?_
      refine WL.val (Value.bool true) _ (op_assign rfl) rfl ?_
      refine WL.nil ?_
      show W _ _ _ _ _ _
      refine W.ret ?_
      obtain rfl := Option.some.inj h
      show FinP _ _ _ _ _ _ _
      exact FinP.ret _ (res2 rfl rfl rfl) ⟨u158, rfl, (Ext.trans hE7 hS160.ext), (St.out (St.pick hS160 [0] rfl) (hE7))⟩

theorem c_math_bits_Mul32 {w : World} {x : Int} {y : Int} (r_x : InR .u32 x) (r_y : InR .u32 y) {res : Int × Int} (h : p_math_bits_Mul32 x y  = some res) :
    Ret Try.prog 102 #[(Value.int .u32 x), (Value.int .u32 y)] w (fun v w' => v = (Value.tuple #[Value.int .u32 res.1, Value.int .u32 res.2]) ∧ InR .u32 res.1 ∧ InR .u32 res.2 ∧ Ext w w') := by
  unfold p_math_bits_Mul32 at h
  have hS0 : St w w [] := St.start w
  refine Ret.start (fn := Try.f102) Try.func102 rfl 17 rfl rfl ?_
  refine W.seq (W.region ?_)
  refine WL.val (Value.int .u32 (0 : Int)) _ (op_assign rfl) rfl ?_
  refine WL.val (Value.int .u32 (0 : Int)) _ (op_assign rfl) rfl ?_
  refine WL.nil ?_
  show W _ _ _ _ _ _
  refine W.seq (W.region ?_)
  refine WL.val (Value.int .u32 x) _ (op_move rfl) rfl ?_
  refine WL.val (Value.int .u64 (IntKind.u64.wrap x)) _ (op_convert rfl it_105 it_108) rfl ?_
  refine WL.val (Value.int .u32 y) _ (op_move rfl) rfl ?_
  refine WL.val (Value.int .u64 (IntKind.u64.wrap y)) _ (op_convert rfl it_105 it_108) rfl ?_
  refine WL.val (Value.int .u64 (IntKind.u64.wrap ((IntKind.u64.wrap x) * (IntKind.u64.wrap y)))) _ (op_mul rfl rfl) rfl ?_
  refine WL.val (Value.int .u64 (IntKind.u64.wrap ((IntKind.u64.wrap x) * (IntKind.u64.wrap y)))) _ (op_assign rfl) rfl ?_
  refine WL.nil ?_
  show W _ _ _ _ _ _
  refine W.seq (W.region ?_)
  refine WL.val (Value.int .u64 (IntKind.u64.wrap ((IntKind.u64.wrap x) * (IntKind.u64.wrap y)))) _ (op_move rfl) rfl ?_
  refine WL.val (Value.int .u64 (((IntKind.u64.wrap ((IntKind.u64.wrap x) * (IntKind.u64.wrap y)))).fdiv (2 ^ 32))) _ (op_shr (b := 32) rfl rfl (by decide)) rfl ?_
  refine WL.val (Value.int .u32 (IntKind.u32.wrap (((IntKind.u64.wrap ((IntKind.u64.wrap x) * (IntKind.u64.wrap y)))).fdiv (2 ^ 32)))) _ (op_convert rfl it_108 it_105) rfl ?_
  refine WL.val (Value.int .u64 (IntKind.u64.wrap ((IntKind.u64.wrap x) * (IntKind.u64.wrap y)))) _ (op_move rfl) rfl ?_
  refine WL.val (Value.int .u32 (IntKind.u32.wrap (IntKind.u64.wrap ((IntKind.u64.wrap x) * (IntKind.u64.wrap y))))) _ (op_convert rfl it_108 it_105) rfl ?_
  refine WL.val (Value.int .u32 (IntKind.u32.wrap (((IntKind.u64.wrap ((IntKind.u64.wrap x) * (IntKind.u64.wrap y)))).fdiv (2 ^ 32)))) _ (op_assign rfl) rfl ?_
  refine WL.val (Value.int .u32 (IntKind.u32.wrap (IntKind.u64.wrap ((IntKind.u64.wrap x) * (IntKind.u64.wrap y))))) _ (op_assign rfl) rfl ?_
  refine WL.nil ?_
  show W _ _ _ _ _ _
  refine W.ret ?_
  obtain rfl := Option.some.inj h
  show FinP _ _ _ _ _ _ _
  exact FinP.ret _ (res2 rfl rfl rfl) ⟨rfl, (inR_wrap _ _), (inR_wrap _ _), hS0.ext⟩

theorem c_math_bits_Mul64 {w : World} {x : Int} {y : Int} (r_x : InR .u64 x) (r_y : InR .u64 y) {res : Int × Int} (h : p_math_bits_Mul64 x y  = some res) :
    Ret Try.prog 103 #[(Value.int .u64 x), (Value.int .u64 y)] w (fun v w' => v = (Value.tuple #[Value.int .u64 res.1, Value.int .u64 res.2]) ∧ InR .u64 res.1 ∧ InR .u64 res.2 ∧ Ext w w') := by
  unfold p_math_bits_Mul64 at h
  have hS0 : St w w [] := St.start w
  refine Ret.start (fn := Try.f103) Try.func103 rfl 51 rfl rfl ?_
  refine W.seq (W.region ?_)
  refine WL.val (Value.int .u64 (0 : Int)) _ (op_assign rfl) rfl ?_
  refine WL.val (Value.int .u64 (0 : Int)) _ (op_assign rfl) rfl ?_
  refine WL.nil ?_
  show W _ _ _ _ _ _
  refine W.seq (W.region ?_)
  refine WL.val (Value.int .u64 x) _ (op_move rfl) rfl ?_
  refine WL.val (Value.int .u64 (andI .u64 x (4294967295 : Int))) _ (op_and rfl rfl) rfl ?_
  refine WL.val (Value.int .u64 (andI .u64 x (4294967295 : Int))) _ (op_assign rfl) rfl ?_
  refine WL.nil ?_
  show W _ _ _ _ _ _
  refine W.seq (W.region ?_)
  refine WL.val (Value.int .u64 x) _ (op_move rfl) rfl ?_
  refine WL.val (Value.int .u64 ((x).fdiv (2 ^ 32))) _ (op_shr (b := 32) rfl rfl (by decide)) rfl ?_
  refine WL.val (Value.int .u64 ((x).fdiv (2 ^ 32))) _ (op_assign rfl) rfl ?_
  refine WL.nil ?_
  show W _ _ _ _ _ _
  refine W.seq (W.region ?_)
  refine WL.val (Value.int .u64 y) _ (op_move rfl) rfl ?_
  refine WL.val (Value.int .u64 (andI .u64 y (4294967295 : Int))) _ (op_and rfl rfl) rfl ?_
  refine WL.val (Value.int .u64 (andI .u64 y (4294967295 : Int))) _ (op_assign rfl) rfl ?_
  refine WL.nil ?_
  show W _ _ _ _ _ _
  refine W.seq (W.region ?_)
  refine WL.val (Value.int .u64 y) _ (op_move rfl) rfl ?_
  refine WL.val (Value.int .u64 ((y).fdiv (2 ^ 32))) _ (op_shr (b := 32) rfl rfl (by decide)) rfl ?_
  refine WL.val (Value.int .u64 ((y).fdiv (2 ^ 32))) _ (op_assign rfl) rfl ?_
  refine WL.nil ?_
  show W _ _ _ _ _ _
  refine W.seq (W.region ?_)
  refine WL.val (Value.int .u64 (andI .u64 x (4294967295 : Int))) _ (op_move rfl) rfl ?_
  refine WL.val (Value.int .u64 (andI .u64 y (4294967295 : Int))) _ (op_move rfl) rfl ?_
  refine WL.val (Value.int .u64 (IntKind.u64.wrap ((andI .u64 x (4294967295 : Int)) * (andI .u64 y (4294967295 : Int))))) _ (op_mul rfl rfl) rfl ?_
  refine WL.val (Value.int .u64 (IntKind.u64.wrap ((andI .u64 x (4294967295 : Int)) * (andI .u64 y (4294967295 : Int))))) _ (op_assign rfl) rfl ?_
  refine WL.nil ?_
  show W _ _ _ _ _ _
  refine W.seq (W.region ?_)
  refine WL.val (Value.int .u64 ((x).fdiv (2 ^ 32))) _ (op_move rfl) rfl ?_
  refine WL.val (Value.int .u64 (andI .u64 y (4294967295 : Int))) _ (op_move rfl) rfl ?_
  refine WL.val (Value.int .u64 (IntKind.u64.wrap (((x).fdiv (2 ^ 32)) * (andI .u64 y (4294967295 : Int))))) _ (op_mul rfl rfl) rfl ?_
  refine WL.val (Value.int .u64 (IntKind.u64.wrap ((andI .u64 x (4294967295 : Int)) * (andI .u64 y (4294967295 : Int))))) _ (op_move rfl) rfl ?_
  refine WL.val (Value.int .u64 (((IntKind.u64.wrap ((andI .u64 x (4294967295 : Int)) * (andI .u64 y (4294967295 : Int))))).fdiv (2 ^ 32))) _ (op_shr (b := 32) rfl rfl (by decide)) rfl ?_
  refine WL.val (Value.int .u64 (IntKind.u64.wrap ((IntKind.u64.wrap (((x).fdiv (2 ^ 32)) * (andI .u64 y (4294967295 : Int)))) + (((IntKind.u64.wrap ((andI .u64 x (4294967295 : Int)) * (andI .u64 y (4294967295 : Int))))).fdiv (2 ^ 32))))) _ (op_add rfl rfl) rfl ?_
  refine WL.val (Value.int .u64 (IntKind.u64.wrap ((IntKind.u64.wrap (((x).fdiv (2 ^ 32)) * (andI .u64 y (4294967295 : Int)))) + (((IntKind.u64.wrap ((andI .u64 x (4294967295 : Int)) * (andI .u64 y (4294967295 : Int))))).fdiv (2 ^ 32))))) _ (op_assign rfl) rfl ?_
  refine WL.nil ?_
  show W _ _ _ _ _ _
  refine W.seq (W.region ?_)
  refine WL.val (Value.int .u64 (IntKind.u64.wrap ((IntKind.u64.wrap (((x).fdiv (2 ^ 32)) * (andI .u64 y (4294967295 : Int)))) + (((IntKind.u64.wrap ((andI .u64 x (4294967295 : Int)) * (andI .u64 y (4294967295 : Int))))).fdiv (2 ^ 32))))) _ (op_move rfl) rfl ?_
  refine WL.val (Value.int .u64 (andI .u64 (IntKind.u64.wrap ((IntKind.u64.wrap (((x).fdiv (2 ^ 32)) * (andI .u64 y (4294967295 : Int)))) + (((IntKind.u64.wrap ((andI .u64 x (4294967295 : Int)) * (andI .u64 y (4294967295 : Int))))).fdiv (2 ^ 32)))) (4294967295 : Int))) _ (op_and rfl rfl) rfl ?_
  refine WL.val (Value.int .u64 (andI .u64 (IntKind.u64.wrap ((IntKind.u64.wrap (((x).fdiv (2 ^ 32)) * (andI .u64 y (4294967295 : Int)))) + (((IntKind.u64.wrap ((andI .u64 x (4294967295 : Int)) * (andI .u64 y (4294967295 : Int))))).fdiv (2 ^ 32)))) (4294967295 : Int))) _ (op_assign rfl) rfl ?_
  refine WL.nil ?_
  show W _ _ _ _ _ _
  refine W.seq (W.region ?_)
  refine WL.val (Value.int .u64 (IntKind.u64.wrap ((IntKind.u64.wrap (((x).fdiv (2 ^ 32)) * (andI .u64 y (4294967295 : Int)))) + (((IntKind.u64.wrap ((andI .u64 x (4294967295 : Int)) * (andI .u64 y (4294967295 : Int))))).fdiv (2 ^ 32))))) _ (op_move rfl) rfl ?_
  refine WL.val (Value.int .u64 (((IntKind.u64.wrap ((IntKind.u64.wrap (((x).fdiv (2 ^ 32)) * (andI .u64 y (4294967295 : Int)))) + (((IntKind.u64.wrap ((andI .u64 x (4294967295 : Int)) * (andI .u64 y (4294967295 : Int))))).fdiv (2 ^ 32))))).fdiv (2 ^ 32))) _ (op_shr (b := 32) rfl rfl (by decide)) rfl ?_
  refine WL.val (Value.int .u64 (((IntKind.u64.wrap ((IntKind.u64.wrap (((x).fdiv (2 ^ 32)) * (andI .u64 y (4294967295 : Int)))) + (((IntKind.u64.wrap ((andI .u64 x (4294967295 : Int)) * (andI .u64 y (4294967295 : Int))))).fdiv (2 ^ 32))))).fdiv (2 ^ 32))) _ (op_assign rfl) rfl ?_
  refine WL.nil ?_
  show W _ _ _ _ _ _
  refine W.seq (W.region ?_)
  refine WL.val (Value.int .u64 (andI .u64 (IntKind.u64.wrap ((IntKind.u64.wrap (((x).fdiv (2 ^ 32)) * (andI .u64 y (4294967295 : Int)))) + (((IntKind.u64.wrap ((andI .u64 x (4294967295 : Int)) * (andI .u64 y (4294967295 : Int))))).fdiv (2 ^ 32)))) (4294967295 : Int))) _ (op_move rfl) rfl ?_
  refine WL.val (Value.int .u64 (andI .u64 x (4294967295 : Int))) _ (op_move rfl) rfl ?_
  refine WL.val (Value.int .u64 ((y).fdiv (2 ^ 32))) _ (op_move rfl) rfl ?_
  refine WL.val (Value.int .u64 (IntKind.u64.wrap ((andI .u64 x (4294967295 : Int)) * ((y).fdiv (2 ^ 32))))) _ (op_mul rfl rfl) rfl ?_
  refine WL.val (Value.int .u64 (IntKind.u64.wrap ((andI .u64 (IntKind.u64.wrap ((IntKind.u64.wrap (((x).fdiv (2 ^ 32)) * (andI .u64 y (4294967295 : Int)))) + (((IntKind.u64.wrap ((andI .u64 x (4294967295 : Int)) * (andI .u64 y (4294967295 : Int))))).fdiv (2 ^ 32)))) (4294967295 : Int)) + (IntKind.u64.wrap ((andI .u64 x (4294967295 : Int)) * ((y).fdiv (2 ^ 32))))))) _ (op_add rfl rfl) rfl ?_
  refine WL.val (Value.int .u64 (IntKind.u64.wrap ((andI .u64 (IntKind.u64.wrap ((IntKind.u64.wrap (((x).fdiv (2 ^ 32)) * (andI .u64 y (4294967295 : Int)))) + (((IntKind.u64.wrap ((andI .u64 x (4294967295 : Int)) * (andI .u64 y (4294967295 : Int))))).fdiv (2 ^ 32)))) (4294967295 : Int)) + (IntKind.u64.wrap ((andI .u64 x (4294967295 : Int)) * ((y).fdiv (2 ^ 32))))))) _ (op_assign rfl) rfl ?_
  refine WL.nil ?_
  show W _ _ _ _ _ _
  refine W.seq (W.region ?_)
  refine WL.val (Value.int .u64 ((x).fdiv (2 ^ 32))) _ (op_move rfl) rfl ?_
  refine WL.val (Value.int .u64 ((y).fdiv (2 ^ 32))) _ (op_move rfl) rfl ?_
  refine WL.val (Value.int .u64 (IntKind.u64.wrap (((x).fdiv (2 ^ 32)) * ((y).fdiv (2 ^ 32))))) _ (op_mul rfl rfl) rfl ?_
  refine WL.val (Value.int .u64 (((IntKind.u64.wrap ((IntKind.u64.wrap (((x).fdiv (2 ^ 32)) * (andI .u64 y (4294967295 : Int)))) + (((IntKind.u64.wrap ((andI .u64 x (4294967295 : Int)) * (andI .u64 y (4294967295 : Int))))).fdiv (2 ^ 32))))).fdiv (2 ^ 32))) _ (op_move rfl) rfl ?_
  refine WL.val (Value.int .u64 (IntKind.u64.wrap ((IntKind.u64.wrap (((x).fdiv (2 ^ 32)) * ((y).fdiv (2 ^ 32)))) + (((IntKind.u64.wrap ((IntKind.u64.wrap (((x).fdiv (2 ^ 32)) * (andI .u64 y (4294967295 : Int)))) + (((IntKind.u64.wrap ((andI .u64 x (4294967295 : Int)) * (andI .u64 y (4294967295 : Int))))).fdiv (2 ^ 32))))).fdiv (2 ^ 32))))) _ (op_add rfl rfl) rfl ?_
  refine WL.val (Value.int .u64 (IntKind.u64.wrap ((andI .u64 (IntKind.u64.wrap ((IntKind.u64.wrap (((x).fdiv (2 ^ 32)) * (andI .u64 y (4294967295 : Int)))) + (((IntKind.u64.wrap ((andI .u64 x (4294967295 : Int)) * (andI .u64 y (4294967295 : Int))))).fdiv (2 ^ 32)))) (4294967295 : Int)) + (IntKind.u64.wrap ((andI .u64 x (4294967295 : Int)) * ((y).fdiv (2 ^ 32))))))) _ (op_move rfl) rfl ?_
  refine WL.val (Value.int .u64 (((IntKind.u64.wrap ((andI .u64 (IntKind.u64.wrap ((IntKind.u64.wrap (((x).fdiv (2 ^ 32)) * (andI .u64 y (4294967295 : Int)))) + (((IntKind.u64.wrap ((andI .u64 x (4294967295 : Int)) * (andI .u64 y (4294967295 : Int))))).fdiv (2 ^ 32)))) (4294967295 : Int)) + (IntKind.u64.wrap ((andI .u64 x (4294967295 : Int)) * ((y).fdiv (2 ^ 32))))))).fdiv (2 ^ 32))) _ (op_shr (b := 32) rfl rfl (by decide)) rfl ?_
  refine WL.val (Value.int .u64 (IntKind.u64.wrap ((IntKind.u64.wrap ((IntKind.u64.wrap (((x).fdiv (2 ^ 32)) * ((y).fdiv (2 ^ 32)))) + (((IntKind.u64.wrap ((IntKind.u64.wrap (((x).fdiv (2 ^ 32)) * (andI .u64 y (4294967295 : Int)))) + (((IntKind.u64.wrap ((andI .u64 x (4294967295 : Int)) * (andI .u64 y (4294967295 : Int))))).fdiv (2 ^ 32))))).fdiv (2 ^ 32)))) + (((IntKind.u64.wrap ((andI .u64 (IntKind.u64.wrap ((IntKind.u64.wrap (((x).fdiv (2 ^ 32)) * (andI .u64 y (4294967295 : Int)))) + (((IntKind.u64.wrap ((andI .u64 x (4294967295 : Int)) * (andI .u64 y (4294967295 : Int))))).fdiv (2 ^ 32)))) (4294967295 : Int)) + (IntKind.u64.wrap ((andI .u64 x (4294967295 : Int)) * ((y).fdiv (2 ^ 32))))))).fdiv (2 ^ 32))))) _ (op_add rfl rfl) rfl ?_
  refine WL.val (Value.int .u64 (IntKind.u64.wrap ((IntKind.u64.wrap ((IntKind.u64.wrap (((x).fdiv (2 ^ 32)) * ((y).fdiv (2 ^ 32)))) + (((IntKind.u64.wrap ((IntKind.u64.wrap (((x).fdiv (2 ^ 32)) * (andI .u64 y (4294967295 : Int)))) + (((IntKind.u64.wrap ((andI .u64 x (4294967295 : Int)) * (andI .u64 y (4294967295 : Int))))).fdiv (2 ^ 32))))).fdiv (2 ^ 32)))) + (((IntKind.u64.wrap ((andI .u64 (IntKind.u64.wrap ((IntKind.u64.wrap (((x).fdiv (2 ^ 32)) * (andI .u64 y (4294967295 : Int)))) + (((IntKind.u64.wrap ((andI .u64 x (4294967295 : Int)) * (andI .u64 y (4294967295 : Int))))).fdiv (2 ^ 32)))) (4294967295 : Int)) + (IntKind.u64.wrap ((andI .u64 x (4294967295 : Int)) * ((y).fdiv (2 ^ 32))))))).fdiv (2 ^ 32))))) _ (op_assign rfl) rfl ?_
  refine WL.nil ?_
  show W _ _ _ _ _ _
  refine W.seq (W.region ?_)
  refine WL.val (Value.int .u64 x) _ (op_move rfl) rfl ?_
  refine WL.val (Value.int .u64 y) _ (op_move rfl) rfl ?_
  refine WL.val (Value.int .u64 (IntKind.u64.wrap (x * y))) _ (op_mul rfl rfl) rfl ?_
  refine WL.val (Value.int .u64 (IntKind.u64.wrap (x * y))) _ (op_assign rfl) rfl ?_
  refine WL.nil ?_
  show W _ _ _ _ _ _
  refine W.ret ?_
  obtain rfl := Option.some.inj h
  show FinP _ _ _ _ _ _ _
  exact FinP.ret _ (res2 rfl rfl rfl) ⟨rfl, (inR_wrap _ _), (inR_wrap _ _), hS0.ext⟩

theorem c_math_bits_Mul {w : World} {x : Int} {y : Int} (r_x : InR .u64 x) (r_y : InR .u64 y) {res : Int × Int} (h : p_math_bits_Mul x y  = some res) :
    Ret Try.prog 94 #[(Value.int .u64 x), (Value.int .u64 y)] w (fun v w' => v = (Value.tuple #[Value.int .u64 res.1, Value.int .u64 res.2]) ∧ InR .u64 res.1 ∧ InR .u64 res.2 ∧ Ext w w') := by
  unfold p_math_bits_Mul at h
  have hS0 : St w w [] := St.start w
  refine Ret.start (fn := Try.f94) Try.func94 rfl 30 rfl rfl ?_
  refine W.seq (W.region ?_)
  refine WL.val (Value.int .u64 (0 : Int)) _ (op_assign rfl) rfl ?_
  refine WL.val (Value.int .u64 (0 : Int)) _ (op_assign rfl) rfl ?_
  refine WL.nil ?_
  show W _ _ _ _ _ _
  refine W.seq ?_
  refine W.cond false rfl (fun hc1 => ?_) (fun hc1 => ?_)
  · replace h := ip h hc1
    refine W.seq (W.region ?_)
    refine WL.val (Value.int .u64 x) _ (op_move rfl) rfl ?_
    refine WL.val (Value.int .u32 (IntKind.u32.wrap x)) _ (op_convert rfl it_93 it_105) rfl ?_
    refine WL.val (Value.int .u64 y) _ (op_move rfl) rfl ?_
    refine WL.val (Value.int .u32 (IntKind.u32.wrap y)) _ (op_convert rfl it_93 it_105) rfl ?_
    obtain ⟨x3, hx4, h⟩ := bs h
    refine WL.call _ (op_call fn_102 (args2 rfl rfl)) (c_math_bits_Mul32 (inR_wrap _ _) (inR_wrap _ _) hx4) rfl ?_
    rintro _ wd7 ⟨rfl, hr5, hr6, he8⟩
    have hS10 := St.extend hS0 he8
    replace hS10 : St w wd7 [] := hS10
    refine WL.val (Value.tuple #[(Value.int .u32 x3.1), (Value.int .u32 x3.2)]) _ (op_move rfl) rfl ?_
    refine WL.val (Value.int .u32 x3.1) _ (op_extract rfl rfl) rfl ?_
    refine WL.val (Value.int .u32 x3.2) _ (op_extract rfl rfl) rfl ?_
    refine WL.val (Value.int .u32 x3.1) _ (op_assign rfl) rfl ?_
    refine WL.val (Value.int .u32 x3.2) _ (op_assign rfl) rfl ?_
    refine WL.nil ?_
    show W _ _ _ _ _ _
    refine W.seq (W.region ?_)
    refine WL.val (Value.int .u32 x3.1) _ (op_move rfl) rfl ?_
    refine WL.val (Value.int .u64 (IntKind.u64.wrap x3.1)) _ (op_convert rfl it_105 it_93) rfl ?_
    refine WL.val (Value.int .u32 x3.2) _ (op_move rfl) rfl ?_
    refine WL.val (Value.int .u64 (IntKind.u64.wrap x3.2)) _ (op_convert rfl it_105 it_93) rfl ?_
    refine WL.val (Value.int .u64 (IntKind.u64.wrap x3.1)) _ (op_assign rfl) rfl ?_
    refine WL.val (Value.int .u64 (IntKind.u64.wrap x3.2)) _ (op_assign rfl) rfl ?_
    refine WL.nil ?_
    show W _ _ _ _ _ _
    refine W.ret ?_
    obtain rfl := Option.some.inj h
    show FinP _ _ _ _ _ _ _
    exact FinP.ret _ (res2 rfl rfl rfl) ⟨rfl, (inR_wrap _ _), (inR_wrap _ _), hS10.ext⟩
  · replace h := inegb h hc1
    refine W.skip ?_
    show W _ _ _ _ _ _
    refine W.seq (W.region ?_)
    refine WL.val (Value.int .u64 x) _ (op_move rfl) rfl ?_
    refine WL.val (Value.int .u64 y) _ (op_move rfl) rfl ?_
    obtain ⟨x11, hx12, h⟩ := bs h
    refine WL.call _ (op_call fn_103 (args2 rfl rfl)) (c_math_bits_Mul64 r_x r_y hx12) rfl ?_
    rintro _ wd15 ⟨rfl, hr13, hr14, he16⟩
    have hS18 := St.extend hS0 he16
    replace hS18 : St w wd15 [] := hS18
    refine WL.val (Value.tuple #[(Value.int .u64 x11.1), (Value.int .u64 x11.2)]) _ (op_move rfl) rfl ?_
    refine WL.val (Value.int .u64 x11.1) _ (op_extract rfl rfl) rfl ?_
    refine WL.val (Value.int .u64 x11.2) _ (op_extract rfl rfl) rfl ?_
    refine WL.val (Value.int .u64 x11.1) _ (op_assign rfl) rfl ?_
    refine WL.val (Value.int .u64 x11.2) _ (op_assign rfl) rfl ?_
    refine WL.nil ?_
    show W _ _ _ _ _ _
    refine W.seq (W.region ?_)
    refine WL.val (Value.int .u64 x11.1) _ (op_move rfl) rfl ?_
    refine WL.val (Value.int .u64 x11.2) _ (op_move rfl) rfl ?_
    refine WL.val (Value.int .u64 x11.1) _ (op_assign rfl) rfl ?_
    refine WL.val (Value.int .u64 x11.2) _ (op_assign rfl) rfl ?_
    refine WL.nil ?_
    show W _ _ _ _ _ _
    refine W.ret ?_
    obtain rfl := Option.some.inj h
    show FinP _ _ _ _ _ _ _
    exact FinP.ret _ (res2 rfl rfl rfl) ⟨rfl, hr13, hr14, hS18.ext⟩

theorem c_slices_Repeat_Lint64_int64 {w : World} {x : (List Int)} {v_x : Value} {count : Int} (r_x : (Ty.sl (Ty.i .i64)).rep w v_x x) (r_count : InR .i64 count) {res : (List Int)} (h : p_slices_Repeat_Lint64_int64 x count  = some res) :
    Ret Try.prog 77 #[v_x, (Value.int .i64 count)] w (fun v w' => ∃ (u0 : Value), v = u0 ∧ Ext w w' ∧ Sep w.heap.size w' [(Ty.sl (Ty.i .i64)).at u0 res]) := by
  unfold p_slices_Repeat_Lint64_int64 at h
  have hS0 : St w w [] := St.start w
  refine Ret.start (fn := Try.f77) Try.func77 rfl 48 rfl rfl ?_
  refine W.seq (W.region ?_)
  refine WL.val (Value.slice none 0 0) _ (op_assign rfl) rfl ?_
  refine WL.nil ?_
  show W _ _ _ _ _ _
  refine W.seq (W.seq (W.region ?_))
  refine WL.val (Value.int .i64 count) _ (op_move rfl) rfl ?_
  refine WL.val (Value.bool (decide (count < (0 : Int)))) _ (op_lss rfl rfl) rfl ?_
  refine WL.nil ?_
  show W _ _ _ _ _ _
  obtain ⟨⟨⟩, hj1, h⟩ := bs h
  refine W.cutCode (fun fq wq => fq 0 = v_x ∧ fq 1 = (Value.int .i64 count) ∧ St w wq []) ?_ ?_
  · refine W.cond (decide (count < (0 : Int))) rfl (fun hc2 => ?_) (fun hc2 => ?_)
    · replace hj1 := ip hj1 hc2
      refine W.region ?_
      exact (none_some hj1).elim
    · replace hj1 := inegb hj1 hc2
      refine W.skip ?_
      exact ⟨rfl, rfl, hS0⟩
  · intro f3 wd4 hq5
    obtain ⟨hf6, hf7, hS8⟩ := hq5
    show W _ _ _ _ _ _
    refine W.seq (W.region ?_)
    refine WL.val v_x _ (op_move hf6) rfl ?_
    have hr9 := inR_len (Ty.lift _ hS8.ext r_x)
    refine WL.val (Value.int .i64 ((x).length : Int)) _ (op_lenL sl_35 (Ty.lift _ hS8.ext r_x) rfl) rfl ?_
    refine WL.val (Value.int .u64 (IntKind.u64.wrap ((x).length : Int))) _ (op_convert rfl it_3 it_93) rfl ?_
    refine WL.val (Value.int .i64 count) _ (op_move hf7) rfl ?_
    refine WL.val (Value.int .u64 (IntKind.u64.wrap count)) _ (op_convert rfl it_3 it_93) rfl ?_
    obtain ⟨x10, hx11, h⟩ := bs h
    refine WL.call _ (op_call fn_94 (args2 rfl rfl)) (c_math_bits_Mul (inR_wrap _ _) (inR_wrap _ _) hx11) rfl ?_
    rintro _ wd14 ⟨rfl, hr12, hr13, he15⟩
    have hS17 := St.extend hS8 he15
    replace hS17 : St w wd14 [] := hS17
    refine WL.val (Value.tuple #[(Value.int .u64 x10.1), (Value.int .u64 x10.2)]) _ (op_move rfl) rfl ?_
    refine WL.val (Value.int .u64 x10.1) _ (op_extract rfl rfl) rfl ?_
    refine WL.val (Value.int .u64 x10.2) _ (op_extract rfl rfl) rfl ?_
    refine WL.val (Value.int .u64 x10.1) _ (op_assign rfl) rfl ?_
    refine WL.val (Value.int .u64 x10.2) _ (op_assign rfl) rfl ?_
    refine WL.nil ?_
    show W _ _ _ _ _ _
    refine W.seq (W.seq (W.region ?_))
    refine WL.val (Value.int .u64 x10.1) _ (op_move rfl) rfl ?_
    refine WL.val (Value.bool (decide (x10.1 > (0 : Int)))) _ (op_gtr rfl rfl) rfl ?_
    refine WL.val (Value.bool (decide (x10.1 > (0 : Int)))) _ (op_move rfl) rfl ?_
    refine WL.cut 3 (fun fq wq => fq 0 = v_x ∧ fq 6 = (Value.int .u64 x10.2) ∧ fq 26 = (Value.bool ((decide (x10.1 > (0 : Int))) || (decide (x10.2 > (9223372036854775807 : Int))))) ∧ St w wq []) ?_ ?_
    · rcases Bool.eq_false_or_eq_true (decide (x10.1 > (0 : Int))) with hc18 | hc18
      · refine WL.gskip rfl (bool_of rfl hc18) rfl ?_
        refine WL.gskip rfl (bool_of rfl hc18) rfl ?_
        refine WL.val (Value.bool true) _ (op_pick_t (evb_of rfl hc18) rfl) rfl ?_
        refine WL.nil ?_
        exact ⟨rfl, hf6, rfl, (orT hc18), hS17⟩
      · refine WL.grun rfl (bool_of rfl hc18) ?_
        refine WL.val (Value.int .u64 x10.2) _ (op_move rfl) rfl ?_
        refine WL.grun rfl (bool_of rfl hc18) ?_
        refine WL.val (Value.bool (decide (x10.2 > (9223372036854775807 : Int)))) _ (op_gtr rfl rfl) rfl ?_
        refine WL.val (Value.bool (decide (x10.2 > (9223372036854775807 : Int)))) _ (op_pick_f (evb_of rfl hc18) rfl) rfl ?_
        refine WL.nil ?_
        exact ⟨rfl, hf6, rfl, (orF hc18), hS17⟩
    · intro f19 wd20 hq21
      obtain ⟨hf22, hf23, hf24, hS25⟩ := hq21
      refine WL.nil ?_
      show W _ _ _ _ _ _
      obtain ⟨⟨⟩, hj26, h⟩ := bs h
      refine W.cutCode (fun fq wq => fq 0 = v_x ∧ fq 6 = (Value.int .u64 x10.2) ∧ St w wq []) ?_ ?_
      · refine W.cond ((decide (x10.1 > (0 : Int))) || (decide (x10.2 > (9223372036854775807 : Int)))) hf24 (fun hc27 => ?_) (fun hc27 => ?_)
        · replace hj26 := ip hj26 hc27
          refine W.region ?_
          exact (none_some hj26).elim
        · replace hj26 := inegb hj26 hc27
          refine W.skip ?_
          exact ⟨hf22, hf23, hS25⟩
      · intro f28 wd29 hq30
        obtain ⟨hf31, hf32, hS33⟩ := hq30
        show W _ _ _ _ _ _
        refine W.seq (W.region ?_)
        refine WL.val (Value.int .u64 x10.2) _ (op_move hf32) rfl ?_
        refine WL.val (Value.int .i64 (w64 x10.2)) _ (op_convert rfl it_93 it_3) rfl ?_
        obtain ⟨x34, hx35, h⟩ := bs h
        refine WL.make (t := (Ty.i .i64)) hS33 sl_35 (fun _ _ => ⟨rfl, (inR_i64.2 (show (-9223372036854775808 : Int) ≤ 0 ∧ (0 : Int) ≤ 9223372036854775807 from by decide))⟩) rfl rfl hx35 rfl rfl ?_
        intro u36 wd37 hS38 he39
        replace hS38 : St w wd37 [(Ty.sl (Ty.i .i64)).at u36 x34] := hS38
        refine WL.val u36 _ (op_assign rfl) rfl ?_
        refine WL.nil ?_
        show W _ _ _ _ _ _
        refine W.seq (W.region ?_)
        refine WL.val u36 _ (op_move rfl) rfl ?_
        refine WL.val v_x _ (op_move hf31) rfl ?_
        have hr42 := inR_cpyN (t := (Ty.i .i64)) (w := wd37) (0 : Int) (xs := x) (St.rep (t := (Ty.sl (Ty.i .i64))) hS38 0 rfl)
        refine WL.copy (a := (0 : Int)) (flat_i .i64) hS38 (k := 0) rfl sl_35 (Nat.zero_le _) (St.winWhole (t := (Ty.i .i64)) hS38 0 rfl) rfl rfl (Ty.lift _ hS38.ext r_x) rfl ?_
        intro wd40 hS41
        replace hS41 : St w wd40 [(Ty.sl (Ty.i .i64)).at u36 (cpyL x34 (0 : Int) x)] := hS41
        refine WL.val (Value.int .i64 (cpyN x34 (0 : Int) x)) _ (op_assign rfl) rfl ?_
        refine WL.nil ?_
        show W _ _ _ _ _ _
        refine W.seq ?_
        obtain ⟨res43, hres44, h⟩ := bs h
        refine W.blockLoop (fun fq wq => ∃ s, res43 = Res.fin s ∧ fq 7 = u36 ∧ St w wq [(Ty.sl (Ty.i .i64)).at u36 s.1]) ?_ ?_
        · refine W.whileC (fun (s : (List Int) × Int) fq wq => fq 7 = u36 ∧ fq 8 = Value.int .i64 s.2 ∧ InR .i64 s.2 ∧ St w wq [(Ty.sl (Ty.i .i64)).at u36 s.1]) hres44 ⟨rfl, rfl, hr42, hS41⟩ ?_
          intro s163 ct48 f49 wd50 hb52 hI53 hbrk54 hret55
          obtain ⟨x46, x47⟩ := s163
          replace hI53 : f49 7 = u36 ∧ f49 8 = Value.int .i64 x47 ∧ InR .i64 x47 ∧ St w wd50 [(Ty.sl (Ty.i .i64)).at u36 x46] := hI53
          replace hb52 : p_slices_Repeat_Lint64_int64_L1   x46 x47 = some ct48 := hb52
          unfold p_slices_Repeat_Lint64_int64_L1 at hb52
          obtain ⟨hf56, hf57, hr58, hS59⟩ := hI53
          refine W.seq (W.seq (W.region ?_))
          refine WL.val (Value.int .i64 x47) _ (op_move hf57) rfl ?_
          refine WL.val u36 _ (op_move hf56) rfl ?_
          have hr60 := inR_len (St.rep (t := (Ty.sl (Ty.i .i64))) hS59 0 rfl)
          refine WL.val (Value.int .i64 ((x46).length : Int)) _ (op_lenL sl_35 (St.rep (t := (Ty.sl (Ty.i .i64))) hS59 0 rfl) rfl) rfl ?_
          refine WL.val (Value.bool (decide (x47 < ((x46).length : Int)))) _ (op_lss rfl rfl) rfl ?_
          refine WL.nil ?_
          show W _ _ _ _ _ _
          refine W.cond (decide (x47 < ((x46).length : Int))) rfl (fun hc61 => ?_) (fun hc61 => ?_)
          · replace hb52 := ip hb52 hc61
            refine W.skip ?_
            show W _ _ _ _ _ _
            refine W.block ?_
            obtain ⟨x99, hx100, hb52⟩ := bs hb52
            obtain ⟨h104, h105, h106, h107⟩ := cutL_some hx100
            obtain ⟨x137, hx138, hb52⟩ := bs hb52
            obtain ⟨h142, h143, h144, h145⟩ := cutL_some hx138
            refine W.drawR mixo 7 [0] [fun _ v _ _ => v = (Value.int .i64 x47) ∧ InR .i64 x47, fun _ v _ _ => v = u36, fun _ v _ _ => v = (Value.int .i64 x47) ∧ InR .i64 x47, fun _ v _ _ => Win u36 (x46).length (x47).toNat v, fun _ v _ _ => v = u36, fun _ v _ _ => v = (Value.int .i64 x47) ∧ InR .i64 x47, fun _ v _ w' => (Ty.sl (Ty.i .i64)).rep w' v x137] (by kernel_rfl) (by kernel_rfl) ⟨⟨fun _ _ _ _ _ _ h => h, fun _ _ _ _ _ _ h => h⟩, ⟨fun _ _ _ _ _ _ h => h, fun _ _ _ _ _ _ h => h⟩, ⟨fun _ _ _ _ _ _ h => h, fun _ _ _ _ _ _ h => h⟩, ⟨fun _ _ _ _ _ _ h => h, fun _ _ _ _ _ _ h => h⟩, ⟨fun _ _ _ _ _ _ h => h, fun _ _ _ _ _ _ h => h⟩, ⟨fun _ _ _ _ _ _ h => h, fun _ _ _ _ _ _ h => h⟩, ⟨fun _ _ _ _ _ he h => Ty.lift _ he h, fun _ _ _ _ _ _ h => h⟩, trivial⟩ ⟨?_, ?_, ?_, ?_, ?_, ?_, ?_, trivial⟩ ?_
            · refine ObX.fl rfl ?_
              intro f63 wd64 he65 hout66 hphi67
              have hS68 : St w wd64 [(Ty.sl (Ty.i .i64)).at u36 x46] := St.extend hS59 he65
              have e69 : f63 8 = (Value.int .i64 x47) := (hout66 8 rfl).trans hf57
              exact ⟨rfl, (Value.int .i64 x47), fun _ => (op_move e69), ⟨rfl, hr58⟩⟩
            · refine ObX.op rfl ?_
              intro f70 wd71 he72 hout73 hphi74
              have hS75 : St w wd71 [(Ty.sl (Ty.i .i64)).at u36 x46] := St.extend hS59 he72
              have e76 : f70 7 = u36 := (hout73 7 rfl).trans hf56
              exact OpX.val u36 wd71 rfl (op_move e76) (Ext.refl _) rfl
            · refine ObX.op rfl ?_
              intro f77 wd78 he79 hout80 hphi81
              have hS82 : St w wd78 [(Ty.sl (Ty.i .i64)).at u36 x46] := St.extend hS59 he79
              have e83 : f77 8 = (Value.int .i64 x47) := (hout80 8 rfl).trans hf57
              exact OpX.val (Value.int .i64 x47) wd78 rfl (op_move e83) (Ext.refl _) ⟨rfl, hr58⟩
            · refine ObX.op rfl ?_
              intro f84 wd85 he86 hout87 hphi88
              have hS89 : St w wd85 [(Ty.sl (Ty.i .i64)).at u36 x46] := St.extend hS59 he86
              obtain ⟨S90, hS91, hf92⟩ := hphi88 1 39 _ rfl rfl rfl
              have e93 : f84 39 = u36 := hf92
              obtain ⟨S94, hS95, hf96⟩ := hphi88 2 40 _ rfl rfl rfl
              obtain ⟨e97, hr98⟩ : f84 40 = (Value.int .i64 x47) ∧ InR .i64 x47 := hf96
              obtain ⟨u101, ho102, hr103⟩ := op_sliceWin (P := Try.prog) (f := f84) (w := wd85) (T := 35) (kd := .i64) sl_35 (show ev f84 (Operand.tmp 39) = _ from e93) (St.rep (t := (Ty.sl (Ty.i .i64))) hS89 0 rfl) (show ev f84 (Operand.tmp 40) = _ from e97) h104 h105
              exact OpX.val u101 wd85 rfl (ho102 _) (Ext.refl _) hr103
            · refine ObX.op rfl ?_
              intro f108 wd109 he110 hout111 hphi112
              have hS113 : St w wd109 [(Ty.sl (Ty.i .i64)).at u36 x46] := St.extend hS59 he110
              have e114 : f108 7 = u36 := (hout111 7 rfl).trans hf56
              exact OpX.val u36 wd109 rfl (op_move e114) (Ext.refl _) rfl
            · refine ObX.op rfl ?_
              intro f115 wd116 he117 hout118 hphi119
              have hS120 : St w wd116 [(Ty.sl (Ty.i .i64)).at u36 x46] := St.extend hS59 he117
              have e121 : f115 8 = (Value.int .i64 x47) := (hout118 8 rfl).trans hf57
              exact OpX.val (Value.int .i64 x47) wd116 rfl (op_move e121) (Ext.refl _) ⟨rfl, hr58⟩
            · refine ObX.op rfl ?_
              intro f122 wd123 he124 hout125 hphi126
              have hS127 : St w wd123 [(Ty.sl (Ty.i .i64)).at u36 x46] := St.extend hS59 he124
              obtain ⟨S128, hS129, hf130⟩ := hphi126 4 42 _ rfl rfl rfl
              have e131 : f122 42 = u36 := hf130
              obtain ⟨S132, hS133, hf134⟩ := hphi126 5 43 _ rfl rfl rfl
              obtain ⟨e135, hr136⟩ : f122 43 = (Value.int .i64 x47) ∧ InR .i64 x47 := hf134
              obtain ⟨u139, ho140, hr141⟩ := op_slice (P := Try.prog) (f := f122) (w := wd123) (T := 35) (kd := .i64) (lo := none) (hi := (some (Operand.tmp 43))) sl_35 (show ev f122 (Operand.tmp 42) = _ from e131) (St.rep (t := (Ty.sl (Ty.i .i64))) hS127 0 rfl) rfl e135 h142 h143 h144
              rw [← h145] at hr141
              exact OpX.val u139 wd123 rfl ho140 (Ext.refl _) hr141
            · intro f146 wd147 Ss148 he149 hout150 hSn151 hSd152 hphi153
              show WL _ _ _ _ _ _ _
              have hS154 : St w wd147 [(Ty.sl (Ty.i .i64)).at u36 x46] := St.extend hS59 he149
              obtain ⟨e155, hr156⟩ : f146 38 = (Value.int .i64 x47) ∧ InR .i64 x47 := hphi153 0 38 _ (by decide) rfl rfl
              have e157 : Win u36 (x46).length (x47).toNat (f146 41) := hphi153 3 41 _ (by decide) rfl rfl
              have e158 : (Ty.sl (Ty.i .i64)).rep wd147 (f146 44) x137 := hphi153 6 44 _ (by decide) rfl rfl
              have e159 : f146 7 = u36 := (hout150 7 rfl).trans hf56
              have hr162 := inR_cpyN (t := (Ty.i .i64)) (w := wd147) x47 (xs := x137) (St.rep (t := (Ty.sl (Ty.i .i64))) hS154 0 rfl)
              refine WL.copy (a := x47) (flat_i .i64) hS154 (k := 0) rfl sl_35 (cutL_le hx100) e157 rfl rfl e158 rfl ?_
              intro wd160 hS161
              replace hS161 : St w wd160 [(Ty.sl (Ty.i .i64)).at u36 (cpyL x46 x47 x137)] := hS161
              refine WL.val (Value.int .i64 (w64 (x47 + (cpyN x46 x47 x137)))) _ (op_add e155 rfl) rfl ?_
              refine WL.val (Value.int .i64 (w64 (x47 + (cpyN x46 x47 x137)))) _ (op_assign rfl) rfl ?_
              refine WL.nil ?_
              obtain rfl := Option.some.inj hb52
              show ∃ s, _ = Ctl.next s ∧ _
              exact ⟨_, rfl, e159, rfl, (inR_wrap _ _), hS161⟩
          · replace hb52 := inegb hb52 hc61
            refine W.exit ?_
            obtain rfl := Option.some.inj hb52
            show _ = _ ∧ _
            exact ⟨rfl, _, hbrk54 _ rfl, hf56, hS59⟩
        · rintro f164 wd165 ⟨s167, rfl, hq166⟩
          replace h := onRes_fin h
          obtain ⟨x168, x169⟩ := s167
          replace hq166 : f164 7 = u36 ∧ St w wd165 [(Ty.sl (Ty.i .i64)).at u36 x168] := hq166
          replace h : (_ : Option _) = _ := h
          dsimp only at h
          obtain ⟨hf170, hS171⟩ := hq166
          show W _ _ _ _ _ _
          refine W.seq (W.region ?_)
          refine WL.val u36 _ (op_move hf170) rfl ?_
          refine WL.val u36 _ (op_assign rfl) rfl ?_
          refine WL.nil ?_
          show W _ _ _ _ _ _
          refine W.ret ?_
          obtain rfl := Option.some.inj h
          show FinP _ _ _ _ _ _ _
          exact FinP.ret _ (res1 rfl rfl) ⟨u36, rfl, hS171.ext, (St.out (St.pick hS171 [0] rfl) (Ext.refl _))⟩

theorem c_impl_Ring_nextWeights {w : World} {r_Table : (List (List (List Int)))} {v_r_Table : Value} {w1 : (List Int)} {v_w1 : Value} (r_r_Table : (Ty.sl (Ty.sl (Ty.sl (Ty.i .i64)))).rep w v_r_Table r_Table) (r_w1 : (Ty.sl (Ty.i .i64)).rep w v_w1 w1) {res : (List Int)} (h : p_impl_Ring_nextWeights r_Table w1  = some res) :
    Ret Try.prog 78 #[(Value.agg #[v_r_Table]), v_w1] w (fun v w' => ∃ (u0 : Value), v = u0 ∧ Ext w w' ∧ Sep w.heap.size w' [(Ty.sl (Ty.i .i64)).at u0 res]) := by
  unfold p_impl_Ring_nextWeights at h
  have hS0 : St w w [] := St.start w
  refine Ret.start (fn := Try.f78) Try.func78 rfl 52 rfl rfl ?_
  refine W.seq (W.region ?_)
  refine WL.box hS0 rfl (cs := [v_r_Table]) rfl rfl ?_
  intro b1 wd2 hS3 he4 hx5
  replace hS3 : St w wd2 [bx b1 [v_r_Table]] := hS3
  have hx6 := St.boxAt hS3 0 rfl
  have hE7 : Ext w wd2 := hS3.ext
  have hS8 : St wd2 wd2 [] := St.start wd2
  refine WL.val (Value.slice none 0 0) _ (op_assign rfl) rfl ?_
  refine WL.nil ?_
  show W _ _ _ _ _ _
  refine W.seq (W.region ?_)
  refine WL.val v_w1 _ (op_move rfl) rfl ?_
  have hr9 := inR_len (Ty.lift _ (Ext.trans hE7 hS8.ext) r_w1)
  refine WL.val (Value.int .i64 ((w1).length : Int)) _ (op_lenL sl_35 (Ty.lift _ (Ext.trans hE7 hS8.ext) r_w1) rfl) rfl ?_
  obtain ⟨x10, hx11, h⟩ := bs h
  refine WL.make (t := (Ty.i .i64)) hS8 sl_35 (fun _ _ => ⟨rfl, (inR_i64.2 (show (-9223372036854775808 : Int) ≤ 0 ∧ (0 : Int) ≤ 9223372036854775807 from by decide))⟩) rfl rfl hx11 rfl rfl ?_
  intro u12 wd13 hS14 he15
  replace hS14 : St wd2 wd13 [(Ty.sl (Ty.i .i64)).at u12 x10] := hS14
  refine WL.val u12 _ (op_assign rfl) rfl ?_
  refine WL.nil ?_
  show W _ _ _ _ _ _
  refine W.seq (W.seq (W.region ?_))
  refine WL.val (Value.pointer (some ⟨b1, 0, none⟩)) _ (op_fieldAddr fd_26_0 rfl) rfl ?_
  refine WL.val v_r_Table _ (op_load one_22 rfl (BoxAt.cell (BoxAt.lift hS14.ext hx6) rfl)) rfl ?_
  have hr16 := inR_len (Ty.lift _ (Ext.trans hE7 hS14.ext) r_r_Table)
  refine WL.val (Value.int .i64 ((r_Table).length : Int)) _ (op_lenL sl_22 (Ty.lift _ (Ext.trans hE7 hS14.ext) r_r_Table) rfl) rfl ?_
  refine WL.val (Value.int .i64 (0 : Int)) _ (op_move rfl) rfl ?_
  refine WL.nil ?_
  show W _ _ _ _ _ _
  obtain ⟨res17, hres18, h⟩ := bs h
  refine W.blockLoop (fun fq wq => ∃ s, res17 = Res.fin s ∧ fq 5 = u12 ∧ St wd2 wq [(Ty.sl (Ty.i .i64)).at u12 s]) ?_ ?_
  · refine W.forN (fun k (s : (List Int)) fq wq => fq 1 = v_w1 ∧ fq 5 = u12 ∧ fq 16 = v_r_Table ∧ fq 17 = (Value.int .i64 ((r_Table).length : Int)) ∧ fq 18 = Value.int .i64 (k : Int) ∧ InR .i64 (k : Int) ∧ St wd2 wq [(Ty.sl (Ty.i .i64)).at u12 s]) hres18 ⟨rfl, rfl, rfl, rfl, rfl, (inR_i64.2 (show (-9223372036854775808 : Int) ≤ 0 ∧ (0 : Int) ≤ 9223372036854775807 from by decide)), hS14⟩ ?_ ?_
    · intro k19 x20 ct21 f22 wd23 hk24 hb25 hI26 hbrk27 hret28
      replace hI26 : f22 1 = v_w1 ∧ f22 5 = u12 ∧ f22 16 = v_r_Table ∧ f22 17 = (Value.int .i64 ((r_Table).length : Int)) ∧ f22 18 = Value.int .i64 (k19 : Int) ∧ InR .i64 (k19 : Int) ∧ St wd2 wd23 [(Ty.sl (Ty.i .i64)).at u12 x20] := hI26
      replace hb25 : p_impl_Ring_nextWeights_L1 r_Table w1 k19 x20 = some ct21 := hb25
      unfold p_impl_Ring_nextWeights_L1 at hb25
      obtain ⟨hf29, hf30, hf31, hf32, hf33, hr34, hS35⟩ := hI26
      refine W.seq (W.region ?_)
      refine WL.val (Value.bool (decide ((k19 : Int) < ((r_Table).length : Int)))) _ (op_lss hf33 hf32) rfl ?_
      have hl36 : (k19 : Int) < ((r_Table).length : Int) := by omega
      refine WL.nil ?_
      show W _ _ _ _ _ _
      refine W.seq ?_
      refine W.condT (decide ((k19 : Int) < ((r_Table).length : Int))) rfl (decide_eq_true hl36) ?_
      refine W.skip ?_
      show W _ _ _ _ _ _
      refine W.seq ?_
      refine W.block ?_
      refine W.seq (W.region ?_)
      obtain ⟨x38, hx41, hb25⟩ := bs hb25
      obtain ⟨ha39, hb40, hx41⟩ := idx_some hx41
      refine WL.val (Value.pointer (some (elA v_r_Table ((k19 : Int)).toNat))) _ (op_idx sl_22 (Ty.lift _ (Ext.trans hE7 hS35.ext) r_r_Table) hf31 hf33 ha39 hb40) rfl ?_
      obtain ⟨u42, hc43, hr44⟩ := repSl.el r_r_Table hx41
      refine WL.val u42 _ (op_load one_57 rfl (Ext.cell (Ext.trans hE7 hS35.ext) hc43)) rfl ?_
      refine WL.val u42 _ (op_assign rfl) rfl ?_
      refine WL.nil ?_
      show W _ _ _ _ _ _
      refine W.seq (W.region ?_)
      refine WL.val u42 _ (op_move rfl) rfl ?_
      have hr45 := inR_len (Ty.lift _ (Ext.trans hE7 hS35.ext) hr44)
      refine WL.val (Value.int .i64 ((x38).length : Int)) _ (op_lenL sl_57 (Ty.lift _ (Ext.trans hE7 hS35.ext) hr44) rfl) rfl ?_
      refine WL.val (Value.int .i64 (0 : Int)) _ (op_move rfl) rfl ?_
      refine WL.nil ?_
      show W _ _ _ _ _ _
      obtain ⟨res46, hres47, hb25⟩ := bs hb25
      refine W.blockLoop (fun fq wq => ∃ s, res46 = Res.fin s ∧ fq 1 = v_w1 ∧ fq 5 = u12 ∧ fq 16 = v_r_Table ∧ fq 17 = (Value.int .i64 ((r_Table).length : Int)) ∧ fq 18 = (Value.int .i64 (k19 : Int)) ∧ St wd2 wq [(Ty.sl (Ty.i .i64)).at u12 s]) ?_ ?_
      · refine W.forN (fun k (s : (List Int)) fq wq => fq 1 = v_w1 ∧ fq 5 = u12 ∧ fq 16 = v_r_Table ∧ fq 17 = (Value.int .i64 ((r_Table).length : Int)) ∧ fq 18 = (Value.int .i64 (k19 : Int)) ∧ fq 22 = u42 ∧ fq 23 = (Value.int .i64 ((x38).length : Int)) ∧ fq 24 = Value.int .i64 (k : Int) ∧ InR .i64 (k : Int) ∧ St wd2 wq [(Ty.sl (Ty.i .i64)).at u12 s]) hres47 ⟨hf29, hf30, hf31, hf32, hf33, rfl, rfl, rfl, (inR_i64.2 (show (-9223372036854775808 : Int) ≤ 0 ∧ (0 : Int) ≤ 9223372036854775807 from by decide)), hS35⟩ ?_ ?_
        · intro k48 x49 ct50 f51 wd52 hk53 hb54 hI55 hbrk56 hret57
          replace hI55 : f51 1 = v_w1 ∧ f51 5 = u12 ∧ f51 16 = v_r_Table ∧ f51 17 = (Value.int .i64 ((r_Table).length : Int)) ∧ f51 18 = (Value.int .i64 (k19 : Int)) ∧ f51 22 = u42 ∧ f51 23 = (Value.int .i64 ((x38).length : Int)) ∧ f51 24 = Value.int .i64 (k48 : Int) ∧ InR .i64 (k48 : Int) ∧ St wd2 wd52 [(Ty.sl (Ty.i .i64)).at u12 x49] := hI55
          replace hb54 : p_impl_Ring_nextWeights_L2 x38 w1 k48 x49 = some ct50 := hb54
          unfold p_impl_Ring_nextWeights_L2 at hb54
          obtain ⟨hf58, hf59, hf60, hf61, hf62, hf63, hf64, hf65, hr66, hS67⟩ := hI55
          refine W.seq (W.region ?_)
          refine WL.val (Value.bool (decide ((k48 : Int) < ((x38).length : Int)))) _ (op_lss hf65 hf64) rfl ?_
          have hl68 : (k48 : Int) < ((x38).length : Int) := by omega
          refine WL.nil ?_
          show W _ _ _ _ _ _
          refine W.seq ?_
          refine W.condT (decide ((k48 : Int) < ((x38).length : Int))) rfl (decide_eq_true hl68) ?_
          refine W.skip ?_
          show W _ _ _ _ _ _
          refine W.seq ?_
          refine W.block ?_
          refine W.seq (W.region ?_)
          refine WL.val (Value.int .i64 (k48 : Int)) _ (op_move hf65) rfl ?_
          obtain ⟨x70, hx73, hb54⟩ := bs hb54
          obtain ⟨ha71, hb72, hx73⟩ := idx_some hx73
          refine WL.val (Value.pointer (some (elA u42 ((k48 : Int)).toNat))) _ (op_idx sl_57 (Ty.lift _ (Ext.trans hE7 hS67.ext) hr44) hf63 hf65 ha71 hb72) rfl ?_
          obtain ⟨u74, hc75, hr76⟩ := repSl.el hr44 hx73
          refine WL.val u74 _ (op_load one_35 rfl (Ext.cell (Ext.trans hE7 hS67.ext) hc75)) rfl ?_
          refine WL.val (Value.int .i64 (k48 : Int)) _ (op_assign rfl) rfl ?_
          refine WL.val u74 _ (op_assign rfl) rfl ?_
          refine WL.nil ?_
          show W _ _ _ _ _ _
          refine W.seq (W.region ?_)
          refine WL.val u74 _ (op_move rfl) rfl ?_
          have hr77 := inR_len (Ty.lift _ (Ext.trans hE7 hS67.ext) hr76)
          refine WL.val (Value.int .i64 ((x70).length : Int)) _ (op_lenL sl_35 (Ty.lift _ (Ext.trans hE7 hS67.ext) hr76) rfl) rfl ?_
          refine WL.val (Value.int .i64 (0 : Int)) _ (op_move rfl) rfl ?_
          refine WL.nil ?_
          show W _ _ _ _ _ _
          obtain ⟨res78, hres79, hb54⟩ := bs hb54
          refine W.blockLoop (fun fq wq => ∃ s, res78 = Res.fin s ∧ fq 1 = v_w1 ∧ fq 5 = u12 ∧ fq 16 = v_r_Table ∧ fq 17 = (Value.int .i64 ((r_Table).length : Int)) ∧ fq 18 = (Value.int .i64 (k19 : Int)) ∧ fq 22 = u42 ∧ fq 23 = (Value.int .i64 ((x38).length : Int)) ∧ fq 24 = (Value.int .i64 (k48 : Int)) ∧ St wd2 wq [(Ty.sl (Ty.i .i64)).at u12 s]) ?_ ?_
          · refine W.forN (fun k (s : (List Int)) fq wq => fq 1 = v_w1 ∧ fq 5 = u12 ∧ fq 8 = (Value.int .i64 (k48 : Int)) ∧ fq 16 = v_r_Table ∧ fq 17 = (Value.int .i64 ((r_Table).length : Int)) ∧ fq 18 = (Value.int .i64 (k19 : Int)) ∧ fq 22 = u42 ∧ fq 23 = (Value.int .i64 ((x38).length : Int)) ∧ fq 24 = (Value.int .i64 (k48 : Int)) ∧ fq 29 = u74 ∧ fq 30 = (Value.int .i64 ((x70).length : Int)) ∧ fq 31 = Value.int .i64 (k : Int) ∧ InR .i64 (k : Int) ∧ St wd2 wq [(Ty.sl (Ty.i .i64)).at u12 s]) hres79 ⟨hf58, hf59, rfl, hf60, hf61, hf62, hf63, hf64, hf65, rfl, rfl, rfl, (inR_i64.2 (show (-9223372036854775808 : Int) ≤ 0 ∧ (0 : Int) ≤ 9223372036854775807 from by decide)), hS67⟩ ?_ ?_
            · intro k80 x81 ct82 f83 wd84 hk85 hb86 hI87 hbrk88 hret89
              replace hI87 : f83 1 = v_w1 ∧ f83 5 = u12 ∧ f83 8 = (Value.int .i64 (k48 : Int)) ∧ f83 16 = v_r_Table ∧ f83 17 = (Value.int .i64 ((r_Table).length : Int)) ∧ f83 18 = (Value.int .i64 (k19 : Int)) ∧ f83 22 = u42 ∧ f83 23 = (Value.int .i64 ((x38).length : Int)) ∧ f83 24 = (Value.int .i64 (k48 : Int)) ∧ f83 29 = u74 ∧ f83 30 = (Value.int .i64 ((x70).length : Int)) ∧ f83 31 = Value.int .i64 (k80 : Int) ∧ InR .i64 (k80 : Int) ∧ St wd2 wd84 [(Ty.sl (Ty.i .i64)).at u12 x81] := hI87
              replace hb86 : p_impl_Ring_nextWeights_L3 x70 k48 w1 k80 x81 = some ct82 := hb86
              unfold p_impl_Ring_nextWeights_L3 at hb86
              obtain ⟨hf90, hf91, hf92, hf93, hf94, hf95, hf96, hf97, hf98, hf99, hf100, hf101, hr102, hS103⟩ := hI87
              refine W.seq (W.region ?_)
              refine WL.val (Value.bool (decide ((k80 : Int) < ((x70).length : Int)))) _ (op_lss hf101 hf100) rfl ?_
              have hl104 : (k80 : Int) < ((x70).length : Int) := by omega
              refine WL.nil ?_
              show W _ _ _ _ _ _
              refine W.seq ?_
              refine W.condT (decide ((k80 : Int) < ((x70).length : Int))) rfl (decide_eq_true hl104) ?_
              refine W.skip ?_
              show W _ _ _ _ _ _
              refine W.seq ?_
              refine W.block ?_
              refine W.seq (W.region ?_)
              refine WL.val (Value.int .i64 (k80 : Int)) _ (op_move hf101) rfl ?_
              obtain ⟨x106, hx109, hb86⟩ := bs hb86
              obtain ⟨ha107, hb108, hx109⟩ := idx_some hx109
              refine WL.val (Value.pointer (some (elA u74 ((k80 : Int)).toNat))) _ (op_idx sl_35 (Ty.lift _ (Ext.trans hE7 hS103.ext) hr76) hf99 hf101 ha107 hb108) rfl ?_
              obtain ⟨u110, hc111, hr112⟩ := repSl.el hr76 hx109
              obtain ⟨rfl, hr112⟩ := hr112
              refine WL.val (Value.int .i64 x106) _ (op_load one_2 rfl (Ext.cell (Ext.trans hE7 hS103.ext) hc111)) rfl ?_
              refine WL.val (Value.int .i64 (k80 : Int)) _ (op_assign rfl) rfl ?_
              refine WL.val (Value.int .i64 x106) _ (op_assign rfl) rfl ?_
              refine WL.nil ?_
              show W _ _ _ _ _ _
              obtain ⟨x142, hx145, hb86⟩ := bs hb86
              obtain ⟨ha143, hb144, hx145⟩ := idx_some hx145
              obtain ⟨u156, hc157, hr158⟩ := repSl.el (St.rep (t := (Ty.sl (Ty.i .i64))) hS103 0 rfl) hx145
              obtain ⟨rfl, hr158⟩ := hr158
              obtain ⟨x195, hx198, hb86⟩ := bs hb86
              obtain ⟨ha196, hb197, hx198⟩ := idx_some hx198
              obtain ⟨u209, hc210, hr211⟩ := repSl.el r_w1 hx198
              obtain ⟨rfl, hr211⟩ := hr211
              refine W.drawR mixo 10 [] [fun _ v _ _ => v = u12, fun _ v _ _ => v = (Value.int .i64 (k48 : Int)) ∧ InR .i64 (k48 : Int), fun _ v _ _ => v = (Value.pointer (some (elA u12 ((k48 : Int)).toNat))), fun _ v _ _ => v = (Value.int .i64 x142) ∧ InR .i64 x142, fun _ v _ _ => v = (Value.int .i64 x106) ∧ InR .i64 x106, fun _ v _ _ => v = v_w1, fun _ v _ _ => v = (Value.int .i64 (k80 : Int)) ∧ InR .i64 (k80 : Int), fun _ v _ _ => v = (Value.pointer (some (elA v_w1 ((k80 : Int)).toNat))), fun _ v _ _ => v = (Value.int .i64 x195) ∧ InR .i64 x195, fun _ v _ _ => v = (Value.int .i64 (w64 (x106 * x195))) ∧ InR .i64 (w64 (x106 * x195))] (by kernel_rfl) (by kernel_rfl) ⟨⟨fun _ _ _ _ _ _ h => h, fun _ _ _ _ _ _ h => h⟩, ⟨fun _ _ _ _ _ _ h => h, fun _ _ _ _ _ _ h => h⟩, ⟨fun _ _ _ _ _ _ h => h, fun _ _ _ _ _ _ h => h⟩, ⟨fun _ _ _ _ _ _ h => h, fun _ _ _ _ _ _ h => h⟩, ⟨fun _ _ _ _ _ _ h => h, fun _ _ _ _ _ _ h => h⟩, ⟨fun _ _ _ _ _ _ h => h, fun _ _ _ _ _ _ h => h⟩, ⟨fun _ _ _ _ _ _ h => h, fun _ _ _ _ _ _ h => h⟩, ⟨fun _ _ _ _ _ _ h => h, fun _ _ _ _ _ _ h => h⟩, ⟨fun _ _ _ _ _ _ h => h, fun _ _ _ _ _ _ h => h⟩, ⟨fun _ _ _ _ _ _ h => h, fun _ _ _ _ _ _ h => h⟩, trivial⟩ ⟨?_, ?_, ?_, ?_, ?_, ?_, ?_, ?_, ?_, ?_, trivial⟩ ?_
              · refine ObX.op rfl ?_
                intro f113 wd114 he115 hout116 hphi117
                have hS118 : St wd2 wd114 [(Ty.sl (Ty.i .i64)).at u12 x81] := St.extend hS103 he115
                have e119 : f113 5 = u12 := (hout116 5 rfl).trans hf91
                exact OpX.val u12 wd114 rfl (op_move e119) (Ext.refl _) rfl
              · refine ObX.op rfl ?_
                intro f120 wd121 he122 hout123 hphi124
                have hS125 : St wd2 wd121 [(Ty.sl (Ty.i .i64)).at u12 x81] := St.extend hS103 he122
                have e126 : f120 8 = (Value.int .i64 (k48 : Int)) := (hout123 8 rfl).trans hf92
                exact OpX.val (Value.int .i64 (k48 : Int)) wd121 rfl (op_move e126) (Ext.refl _) ⟨rfl, hr66⟩
              · refine ObX.op rfl ?_
                intro f127 wd128 he129 hout130 hphi131
                have hS132 : St wd2 wd128 [(Ty.sl (Ty.i .i64)).at u12 x81] := St.extend hS103 he129
                obtain ⟨S133, hS134, hf135⟩ := hphi131 0 36 _ rfl rfl rfl
                have e136 : f127 36 = u12 := hf135
                obtain ⟨S137, hS138, hf139⟩ := hphi131 1 37 _ rfl rfl rfl
                obtain ⟨e140, hr141⟩ : f127 37 = (Value.int .i64 (k48 : Int)) ∧ InR .i64 (k48 : Int) := hf139
                exact OpX.val (Value.pointer (some (elA u12 ((k48 : Int)).toNat))) wd128 rfl (op_idx sl_35 (St.rep (t := (Ty.sl (Ty.i .i64))) hS132 0 rfl) e136 e140 ha143 hb144) (Ext.refl _) rfl
              · refine ObX.op rfl ?_
                intro f146 wd147 he148 hout149 hphi150
                have hS151 : St wd2 wd147 [(Ty.sl (Ty.i .i64)).at u12 x81] := St.extend hS103 he148
                obtain ⟨S152, hS153, hf154⟩ := hphi150 2 38 _ rfl rfl rfl
                have e155 : f146 38 = (Value.pointer (some (elA u12 ((k48 : Int)).toNat))) := hf154
                exact OpX.val (Value.int .i64 x142) wd147 rfl (op_load one_2 e155 (Ext.cell he148 hc157)) (Ext.refl _) ⟨rfl, hr158⟩
              · refine ObX.op rfl ?_
                intro f159 wd160 he161 hout162 hphi163
                have hS164 : St wd2 wd160 [(Ty.sl (Ty.i .i64)).at u12 x81] := St.extend hS103 he161
                have e165 : f159 11 = (Value.int .i64 x106) := (hout162 11 rfl).trans rfl
                exact OpX.val (Value.int .i64 x106) wd160 rfl (op_move e165) (Ext.refl _) ⟨rfl, hr112⟩
              · refine ObX.op rfl ?_
                intro f166 wd167 he168 hout169 hphi170
                have hS171 : St wd2 wd167 [(Ty.sl (Ty.i .i64)).at u12 x81] := St.extend hS103 he168
                have e172 : f166 1 = v_w1 := (hout169 1 rfl).trans hf90
                exact OpX.val v_w1 wd167 rfl (op_move e172) (Ext.refl _) rfl
              · refine ObX.op rfl ?_
                intro f173 wd174 he175 hout176 hphi177
                have hS178 : St wd2 wd174 [(Ty.sl (Ty.i .i64)).at u12 x81] := St.extend hS103 he175
                have e179 : f173 10 = (Value.int .i64 (k80 : Int)) := (hout176 10 rfl).trans rfl
                exact OpX.val (Value.int .i64 (k80 : Int)) wd174 rfl (op_move e179) (Ext.refl _) ⟨rfl, hr102⟩
              · refine ObX.op rfl ?_
                intro f180 wd181 he182 hout183 hphi184
                have hS185 : St wd2 wd181 [(Ty.sl (Ty.i .i64)).at u12 x81] := St.extend hS103 he182
                obtain ⟨S186, hS187, hf188⟩ := hphi184 5 41 _ rfl rfl rfl
                have e189 : f180 41 = v_w1 := hf188
                obtain ⟨S190, hS191, hf192⟩ := hphi184 6 42 _ rfl rfl rfl
                obtain ⟨e193, hr194⟩ : f180 42 = (Value.int .i64 (k80 : Int)) ∧ InR .i64 (k80 : Int) := hf192
                exact OpX.val (Value.pointer (some (elA v_w1 ((k80 : Int)).toNat))) wd181 rfl (op_idx sl_35 (Ty.lift _ (Ext.trans hE7 hS185.ext) r_w1) e189 e193 ha196 hb197) (Ext.refl _) rfl
              · refine ObX.op rfl ?_
                intro f199 wd200 he201 hout202 hphi203
                have hS204 : St wd2 wd200 [(Ty.sl (Ty.i .i64)).at u12 x81] := St.extend hS103 he201
                obtain ⟨S205, hS206, hf207⟩ := hphi203 7 43 _ rfl rfl rfl
                have e208 : f199 43 = (Value.pointer (some (elA v_w1 ((k80 : Int)).toNat))) := hf207
                exact OpX.val (Value.int .i64 x195) wd200 rfl (op_load one_2 e208 (Ext.cell (Ext.trans hE7 hS204.ext) hc210)) (Ext.refl _) ⟨rfl, hr211⟩
              · refine ObX.op rfl ?_
                intro f212 wd213 he214 hout215 hphi216
                have hS217 : St wd2 wd213 [(Ty.sl (Ty.i .i64)).at u12 x81] := St.extend hS103 he214
                obtain ⟨S218, hS219, hf220⟩ := hphi216 4 40 _ rfl rfl rfl
                obtain ⟨e221, hr222⟩ : f212 40 = (Value.int .i64 x106) ∧ InR .i64 x106 := hf220
                obtain ⟨S223, hS224, hf225⟩ := hphi216 8 44 _ rfl rfl rfl
                obtain ⟨e226, hr227⟩ : f212 44 = (Value.int .i64 x195) ∧ InR .i64 x195 := hf225
                exact OpX.val (Value.int .i64 (w64 (x106 * x195))) wd213 rfl (op_mul e221 e226) (Ext.refl _) ⟨rfl, (inR_wrap _ _)⟩
              · intro f228 wd229 Ss230 he231 hout232 hSn233 hSd234 hphi235
                show WL _ _ _ _ _ _ _
                have hS236 : St wd2 wd229 [(Ty.sl (Ty.i .i64)).at u12 x81] := St.extend hS103 he231
                have e237 : f228 36 = u12 := hphi235 0 36 _ (by decide) rfl rfl
                obtain ⟨e238, hr239⟩ : f228 37 = (Value.int .i64 (k48 : Int)) ∧ InR .i64 (k48 : Int) := hphi235 1 37 _ (by decide) rfl rfl
                obtain ⟨e240, hr241⟩ : f228 39 = (Value.int .i64 x142) ∧ InR .i64 x142 := hphi235 3 39 _ (by decide) rfl rfl
                obtain ⟨e242, hr243⟩ : f228 45 = (Value.int .i64 (w64 (x106 * x195))) ∧ InR .i64 (w64 (x106 * x195)) := hphi235 9 45 _ (by decide) rfl rfl
                have e244 : f228 1 = v_w1 := (hout232 1 rfl).trans hf90
                have e245 : f228 5 = u12 := (hout232 5 rfl).trans hf91
                have e246 : f228 8 = (Value.int .i64 (k48 : Int)) := (hout232 8 rfl).trans hf92
                have e247 : f228 16 = v_r_Table := (hout232 16 rfl).trans hf93
                have e248 : f228 17 = (Value.int .i64 ((r_Table).length : Int)) := (hout232 17 rfl).trans hf94
                have e249 : f228 18 = (Value.int .i64 (k19 : Int)) := (hout232 18 rfl).trans hf95
                have e250 : f228 22 = u42 := (hout232 22 rfl).trans hf96
                have e251 : f228 23 = (Value.int .i64 ((x38).length : Int)) := (hout232 23 rfl).trans hf97
                have e252 : f228 24 = (Value.int .i64 (k48 : Int)) := (hout232 24 rfl).trans hf98
                have e253 : f228 29 = u74 := (hout232 29 rfl).trans hf99
                have e254 : f228 30 = (Value.int .i64 ((x70).length : Int)) := (hout232 30 rfl).trans hf100
                have e255 : f228 31 = (Value.int .i64 (k80 : Int)) := (hout232 31 rfl).trans hf101
                refine WL.val (Value.int .i64 (w64 (x142 + (w64 (x106 * x195))))) _ (op_add e240 e242) rfl ?_
                refine WL.val (Value.pointer (some (elA u12 ((k48 : Int)).toNat))) _ (op_idx sl_35 (St.rep (t := (Ty.sl (Ty.i .i64))) hS236 0 rfl) e237 e238 ha143 hb144) rfl ?_
                refine WL.storeEl (flat_i .i64) hS236 (k := 0) rfl sz_2 rfl rfl (lt_of_idx ha143 hb144) ⟨rfl, (inR_wrap _ _)⟩ ?_
                intro wd256 hS257
                replace hS257 : St wd2 wd256 [(Ty.sl (Ty.i .i64)).at u12 ((x81).set ((k48 : Int)).toNat (w64 (x142 + (w64 (x106 * x195)))))] := hS257
                refine WL.nil ?_
                show W _ _ _ _ _ _
                refine W.region ?_
                refine WL.val (Value.int .i64 (w64 ((k80 : Int) + (1 : Int)))) _ (op_add e255 rfl) rfl ?_
                refine WL.val (Value.int .i64 (w64 ((k80 : Int) + (1 : Int)))) _ (op_move rfl) rfl ?_
                refine WL.nil ?_
                obtain rfl := Option.some.inj hb86
                show ∃ s, _ = Ctl.next s ∧ _
                exact ⟨_, rfl, e244, e245, e246, e247, e248, e249, e250, e251, e252, e253, e254, (ctr_next hl104 hr77), (ctr_rng hl104 hr77), hS257⟩
            · intro x264 f259 wd260 hs261 hI262
              replace hI262 : f259 1 = v_w1 ∧ f259 5 = u12 ∧ f259 8 = (Value.int .i64 (k48 : Int)) ∧ f259 16 = v_r_Table ∧ f259 17 = (Value.int .i64 ((r_Table).length : Int)) ∧ f259 18 = (Value.int .i64 (k19 : Int)) ∧ f259 22 = u42 ∧ f259 23 = (Value.int .i64 ((x38).length : Int)) ∧ f259 24 = (Value.int .i64 (k48 : Int)) ∧ f259 29 = u74 ∧ f259 30 = (Value.int .i64 ((x70).length : Int)) ∧ f259 31 = Value.int .i64 (((x70).length : Nat) : Int) ∧ InR .i64 (((x70).length : Nat) : Int) ∧ St wd2 wd260 [(Ty.sl (Ty.i .i64)).at u12 x264] := hI262
              obtain ⟨hf265, hf266, hf267, hf268, hf269, hf270, hf271, hf272, hf273, hf274, hf275, hf276, hr277, hS278⟩ := hI262
              refine W.seq (W.region ?_)
              refine WL.val (Value.bool (decide ((((x70).length : Nat) : Int) < ((x70).length : Int)))) _ (op_lss hf276 hf275) rfl ?_
              have hl279 : ¬ (((x70).length : Nat) : Int) < ((x70).length : Int) := by omega
              refine WL.nil ?_
              show W _ _ _ _ _ _
              refine W.seq ?_
              refine W.condF (decide ((((x70).length : Nat) : Int) < ((x70).length : Int))) rfl (decide_eq_false hl279) ?_
              refine W.exit ?_
              show _ = _ ∧ _
              exact ⟨rfl, _, hs261, hf265, hf266, hf268, hf269, hf270, hf271, hf272, hf273, hS278⟩
          · rintro f280 wd281 ⟨x284, rfl, hq282⟩
            replace hb54 := onRes_fin hb54
            replace hq282 : f280 1 = v_w1 ∧ f280 5 = u12 ∧ f280 16 = v_r_Table ∧ f280 17 = (Value.int .i64 ((r_Table).length : Int)) ∧ f280 18 = (Value.int .i64 (k19 : Int)) ∧ f280 22 = u42 ∧ f280 23 = (Value.int .i64 ((x38).length : Int)) ∧ f280 24 = (Value.int .i64 (k48 : Int)) ∧ St wd2 wd281 [(Ty.sl (Ty.i .i64)).at u12 x284] := hq282
            obtain ⟨hf285, hf286, hf287, hf288, hf289, hf290, hf291, hf292, hS293⟩ := hq282
            show W _ _ _ _ _ _
            refine W.region ?_
            refine WL.val (Value.int .i64 (w64 ((k48 : Int) + (1 : Int)))) _ (op_add hf292 rfl) rfl ?_
            refine WL.val (Value.int .i64 (w64 ((k48 : Int) + (1 : Int)))) _ (op_move rfl) rfl ?_
            refine WL.nil ?_
            obtain rfl := Option.some.inj hb54
            show ∃ s, _ = Ctl.next s ∧ _
            exact ⟨_, rfl, hf285, hf286, hf287, hf288, hf289, hf290, hf291, (ctr_next hl68 hr45), (ctr_rng hl68 hr45), hS293⟩
        · intro x301 f296 wd297 hs298 hI299
          replace hI299 : f296 1 = v_w1 ∧ f296 5 = u12 ∧ f296 16 = v_r_Table ∧ f296 17 = (Value.int .i64 ((r_Table).length : Int)) ∧ f296 18 = (Value.int .i64 (k19 : Int)) ∧ f296 22 = u42 ∧ f296 23 = (Value.int .i64 ((x38).length : Int)) ∧ f296 24 = Value.int .i64 (((x38).length : Nat) : Int) ∧ InR .i64 (((x38).length : Nat) : Int) ∧ St wd2 wd297 [(Ty.sl (Ty.i .i64)).at u12 x301] := hI299
          obtain ⟨hf302, hf303, hf304, hf305, hf306, hf307, hf308, hf309, hr310, hS311⟩ := hI299
          refine W.seq (W.region ?_)
          refine WL.val (Value.bool (decide ((((x38).length : Nat) : Int) < ((x38).length : Int)))) _ (op_lss hf309 hf308) rfl ?_
          have hl312 : ¬ (((x38).length : Nat) : Int) < ((x38).length : Int) := by omega
          refine WL.nil ?_
          show W _ _ _ _ _ _
          refine W.seq ?_
          refine W.condF (decide ((((x38).length : Nat) : Int) < ((x38).length : Int))) rfl (decide_eq_false hl312) ?_
          refine W.exit ?_
          show _ = _ ∧ _
          exact ⟨rfl, _, hs298, hf302, hf303, hf304, hf305, hf306, hS311⟩
      · rintro f313 wd314 ⟨x317, rfl, hq315⟩
        replace hb25 := onRes_fin hb25
        replace hq315 : f313 1 = v_w1 ∧ f313 5 = u12 ∧ f313 16 = v_r_Table ∧ f313 17 = (Value.int .i64 ((r_Table).length : Int)) ∧ f313 18 = (Value.int .i64 (k19 : Int)) ∧ St wd2 wd314 [(Ty.sl (Ty.i .i64)).at u12 x317] := hq315
        obtain ⟨hf318, hf319, hf320, hf321, hf322, hS323⟩ := hq315
        show W _ _ _ _ _ _
        refine W.region ?_
        refine WL.val (Value.int .i64 (w64 ((k19 : Int) + (1 : Int)))) _ (op_add hf322 rfl) rfl ?_
        refine WL.val (Value.int .i64 (w64 ((k19 : Int) + (1 : Int)))) _ (op_move rfl) rfl ?_
        refine WL.nil ?_
        obtain rfl := Option.some.inj hb25
        show ∃ s, _ = Ctl.next s ∧ _
        exact ⟨_, rfl, hf318, hf319, hf320, hf321, (ctr_next hl36 hr16), (ctr_rng hl36 hr16), hS323⟩
    · intro x331 f326 wd327 hs328 hI329
      replace hI329 : f326 1 = v_w1 ∧ f326 5 = u12 ∧ f326 16 = v_r_Table ∧ f326 17 = (Value.int .i64 ((r_Table).length : Int)) ∧ f326 18 = Value.int .i64 (((r_Table).length : Nat) : Int) ∧ InR .i64 (((r_Table).length : Nat) : Int) ∧ St wd2 wd327 [(Ty.sl (Ty.i .i64)).at u12 x331] := hI329
      obtain ⟨hf332, hf333, hf334, hf335, hf336, hr337, hS338⟩ := hI329
      refine W.seq (W.region ?_)
      refine WL.val (Value.bool (decide ((((r_Table).length : Nat) : Int) < ((r_Table).length : Int)))) _ (op_lss hf336 hf335) rfl ?_
      have hl339 : ¬ (((r_Table).length : Nat) : Int) < ((r_Table).length : Int) := by omega
      refine WL.nil ?_
      show W _ _ _ _ _ _
      refine W.seq ?_
      refine W.condF (decide ((((r_Table).length : Nat) : Int) < ((r_Table).length : Int))) rfl (decide_eq_false hl339) ?_
      refine W.exit ?_
      show _ = _ ∧ _
      exact ⟨rfl, _, hs328, hf333, hS338⟩
  · rintro f340 wd341 ⟨x344, rfl, hq342⟩
    replace h := onRes_fin h
    replace hq342 : f340 5 = u12 ∧ St wd2 wd341 [(Ty.sl (Ty.i .i64)).at u12 x344] := hq342
    obtain ⟨hf345, hS346⟩ := hq342
    show W _ _ _ _ _ _
    refine W.seq (W.region ?_)
    refine WL.val u12 _ (op_move hf345) rfl ?_
    refine WL.val u12 _ (op_assign rfl) rfl ?_
    refine WL.nil ?_
    show W _ _ _ _ _ _
    refine W.ret ?_
    obtain rfl := Option.some.inj h
    show FinP _ _ _ _ _ _ _
    exact FinP.ret _ (res1 rfl rfl) ⟨u12, rfl, (Ext.trans hE7 hS346.ext), (St.out (St.pick hS346 [0] rfl) (hE7))⟩

theorem c_slices_Max_Lint64_int64 {w : World} {x : (List Int)} {v_x : Value} (r_x : (Ty.sl (Ty.i .i64)).rep w v_x x) {res : Int} (h : p_slices_Max_Lint64_int64 x  = some res) :
    Ret Try.prog 79 #[v_x] w (fun v w' => v = Value.int .i64 res ∧ InR .i64 res ∧ Ext w w') := by
  unfold p_slices_Max_Lint64_int64 at h
  have hS0 : St w w [] := St.start w
  refine Ret.start (fn := Try.f79) Try.func79 rfl 25 rfl rfl ?_
  refine W.seq (W.region ?_)
  refine WL.val (Value.int .i64 (0 : Int)) _ (op_assign rfl) rfl ?_
  refine WL.nil ?_
  show W _ _ _ _ _ _
  refine W.seq (W.seq (W.region ?_))
  refine WL.val v_x _ (op_move rfl) rfl ?_
  have hr1 := inR_len (Ty.lift _ hS0.ext r_x)
  refine WL.val (Value.int .i64 ((x).length : Int)) _ (op_lenL sl_35 (Ty.lift _ hS0.ext r_x) rfl) rfl ?_
  refine WL.val (Value.bool (decide (((x).length : Int) < (1 : Int)))) _ (op_lss rfl rfl) rfl ?_
  refine WL.nil ?_
  show W _ _ _ _ _ _
  obtain ⟨⟨⟩, hj2, h⟩ := bs h
  refine W.cutCode (fun fq wq => fq 0 = v_x ∧ St w wq []) ?_ ?_
  · refine W.cond (decide (((x).length : Int) < (1 : Int))) rfl (fun hc3 => ?_) (fun hc3 => ?_)
    · replace hj2 := ip hj2 hc3
      refine W.region ?_
      exact (none_some hj2).elim
    · replace hj2 := inegb hj2 hc3
      refine W.skip ?_
      exact ⟨rfl, hS0⟩
  · intro f4 wd5 hq6
    obtain ⟨hf7, hS8⟩ := hq6
    show W _ _ _ _ _ _
    refine W.seq (W.region ?_)
    refine WL.val v_x _ (op_move hf7) rfl ?_
    obtain ⟨x9, hx12, h⟩ := bs h
    obtain ⟨ha10, hb11, hx12⟩ := idx_some hx12
    refine WL.val (Value.pointer (some (elA v_x ((0 : Int)).toNat))) _ (op_idx sl_35 (Ty.lift _ hS8.ext r_x) rfl rfl ha10 hb11) rfl ?_
    obtain ⟨u13, hc14, hr15⟩ := repSl.el r_x hx12
    obtain ⟨rfl, hr15⟩ := hr15
    refine WL.val (Value.int .i64 x9) _ (op_load one_2 rfl (Ext.cell hS8.ext hc14)) rfl ?_
    refine WL.val (Value.int .i64 x9) _ (op_assign rfl) rfl ?_
    refine WL.nil ?_
    show W _ _ _ _ _ _
    refine W.seq (W.seq (W.region ?_))
    refine WL.val (Value.int .i64 (1 : Int)) _ (op_assign rfl) rfl ?_
    refine WL.nil ?_
    show W _ _ _ _ _ _
    obtain ⟨res16, hres17, h⟩ := bs h
    refine W.blockLoop (fun fq wq => ∃ s, res16 = Res.fin s ∧ fq 3 = Value.int .i64 s ∧ InR .i64 s ∧ St w wq []) ?_ ?_
    · refine W.forN (fun k (s : Int) fq wq => fq 0 = v_x ∧ fq 3 = Value.int .i64 s ∧ InR .i64 s ∧ fq 4 = Value.int .i64 ((1 : Int) + (k : Int)) ∧ InR .i64 ((1 : Int) + (k : Int)) ∧ St w wq []) hres17 ⟨hf7, rfl, hr15, rfl, (inR_i64.2 (show (-9223372036854775808 : Int) ≤ 1 ∧ (1 : Int) ≤ 9223372036854775807 from by decide)), hS8⟩ ?_ ?_
      · intro k18 x19 ct20 f21 wd22 hk23 hb24 hI25 hbrk26 hret27
        replace hI25 : f21 0 = v_x ∧ f21 3 = Value.int .i64 x19 ∧ InR .i64 x19 ∧ f21 4 = Value.int .i64 ((1 : Int) + (k18 : Int)) ∧ InR .i64 ((1 : Int) + (k18 : Int)) ∧ St w wd22 [] := hI25
        replace hb24 : p_slices_Max_Lint64_int64_L1 x k18 x19 = some ct20 := hb24
        unfold p_slices_Max_Lint64_int64_L1 at hb24
        obtain ⟨hf28, hf29, hr30, hf31, hr32, hS33⟩ := hI25
        refine W.seq (W.seq (W.region ?_))
        refine WL.val (Value.int .i64 ((1 : Int) + (k18 : Int))) _ (op_move hf31) rfl ?_
        refine WL.val v_x _ (op_move hf28) rfl ?_
        have hr34 := inR_len (Ty.lift _ hS33.ext r_x)
        refine WL.val (Value.int .i64 ((x).length : Int)) _ (op_lenL sl_35 (Ty.lift _ hS33.ext r_x) rfl) rfl ?_
        refine WL.val (Value.bool (decide (((1 : Int) + (k18 : Int)) < ((x).length : Int)))) _ (op_lss rfl rfl) rfl ?_
        have hl35 : ((1 : Int) + (k18 : Int)) < ((x).length : Int) := by omega
        refine WL.nil ?_
        show W _ _ _ _ _ _
        refine W.condT (decide (((1 : Int) + (k18 : Int)) < ((x).length : Int))) rfl (decide_eq_true hl35) ?_
        refine W.skip ?_
        show W _ _ _ _ _ _
        refine W.seq ?_
        refine W.block ?_
        refine W.region ?_
        refine WL.val (Value.int .i64 x19) _ (op_move hf29) rfl ?_
        refine WL.val v_x _ (op_move hf28) rfl ?_
        refine WL.val (Value.int .i64 ((1 : Int) + (k18 : Int))) _ (op_move hf31) rfl ?_
        obtain ⟨x37, hx40, hb24⟩ := bs hb24
        obtain ⟨ha38, hb39, hx40⟩ := idx_some hx40
        refine WL.val (Value.pointer (some (elA v_x (((1 : Int) + (k18 : Int))).toNat))) _ (op_idx sl_35 (Ty.lift _ hS33.ext r_x) rfl rfl ha38 hb39) rfl ?_
        obtain ⟨u41, hc42, hr43⟩ := repSl.el r_x hx40
        obtain ⟨rfl, hr43⟩ := hr43
        refine WL.val (Value.int .i64 x37) _ (op_load one_2 rfl (Ext.cell hS33.ext hc42)) rfl ?_
        refine WL.val (Value.int .i64 (if x37 > x19 then x37 else x19)) _ (op_max2 rfl rfl) rfl ?_
        refine WL.val (Value.int .i64 (if x37 > x19 then x37 else x19)) _ (op_assign rfl) rfl ?_
        refine WL.nil ?_
        show W _ _ _ _ _ _
        refine W.region ?_
        refine WL.val (Value.int .i64 ((1 : Int) + (k18 : Int))) _ (op_move hf31) rfl ?_
        refine WL.val (Value.int .i64 (w64 (((1 : Int) + (k18 : Int)) + (1 : Int)))) _ (op_add rfl rfl) rfl ?_
        refine WL.val (Value.int .i64 (w64 (((1 : Int) + (k18 : Int)) + (1 : Int)))) _ (op_assign rfl) rfl ?_
        refine WL.nil ?_
        obtain rfl := Option.some.inj hb24
        show ∃ s, _ = Ctl.next s ∧ _
        exact ⟨_, rfl, hf28, rfl, (inR_ite hr43 hr30), (ctrS_next hl35 hr34 (inR_i64.2 (show (-9223372036854775808 : Int) ≤ 1 ∧ (1 : Int) ≤ 9223372036854775807 from by decide))), (ctrS_rng hl35 hr34 (inR_i64.2 (show (-9223372036854775808 : Int) ≤ 1 ∧ (1 : Int) ≤ 9223372036854775807 from by decide))), hS33⟩
      · intro x50 f45 wd46 hs47 hI48
        replace hI48 : f45 0 = v_x ∧ f45 3 = Value.int .i64 x50 ∧ InR .i64 x50 ∧ f45 4 = Value.int .i64 ((1 : Int) + (((((x).length : Int) - (1 : Int)).toNat : Nat) : Int)) ∧ InR .i64 ((1 : Int) + (((((x).length : Int) - (1 : Int)).toNat : Nat) : Int)) ∧ St w wd46 [] := hI48
        obtain ⟨hf51, hf52, hr53, hf54, hr55, hS56⟩ := hI48
        refine W.seq (W.seq (W.region ?_))
        refine WL.val (Value.int .i64 ((1 : Int) + (((((x).length : Int) - (1 : Int)).toNat : Nat) : Int))) _ (op_move hf54) rfl ?_
        refine WL.val v_x _ (op_move hf51) rfl ?_
        have hr57 := inR_len (Ty.lift _ hS56.ext r_x)
        refine WL.val (Value.int .i64 ((x).length : Int)) _ (op_lenL sl_35 (Ty.lift _ hS56.ext r_x) rfl) rfl ?_
        refine WL.val (Value.bool (decide (((1 : Int) + (((((x).length : Int) - (1 : Int)).toNat : Nat) : Int)) < ((x).length : Int)))) _ (op_lss rfl rfl) rfl ?_
        have hl58 : ¬ ((1 : Int) + (((((x).length : Int) - (1 : Int)).toNat : Nat) : Int)) < ((x).length : Int) := by omega
        refine WL.nil ?_
        show W _ _ _ _ _ _
        refine W.condF (decide (((1 : Int) + (((((x).length : Int) - (1 : Int)).toNat : Nat) : Int)) < ((x).length : Int))) rfl (decide_eq_false hl58) ?_
        refine W.exit ?_
        show _ = _ ∧ _
        exact ⟨rfl, _, hs47, hf52, hr53, hS56⟩
    · rintro f59 wd60 ⟨x63, rfl, hq61⟩
      replace h := onRes_fin h
      replace hq61 : f59 3 = Value.int .i64 x63 ∧ InR .i64 x63 ∧ St w wd60 [] := hq61
      obtain ⟨hf64, hr65, hS66⟩ := hq61
      show W _ _ _ _ _ _
      refine W.seq (W.region ?_)
      refine WL.val (Value.int .i64 x63) _ (op_move hf64) rfl ?_
      refine WL.val (Value.int .i64 x63) _ (op_assign rfl) rfl ?_
      refine WL.nil ?_
      show W _ _ _ _ _ _
      refine W.ret ?_
      obtain rfl := Option.some.inj h
      show FinP _ _ _ _ _ _ _
      exact FinP.ret _ (res1 rfl rfl) ⟨rfl, hr65, hS66.ext⟩

theorem c_impl_Ring_weightsOf {w : World} {r_Table : (List (List (List Int)))} {v_r_Table : Value} {t : Int} (r_r_Table : (Ty.sl (Ty.sl (Ty.sl (Ty.i .i64)))).rep w v_r_Table r_Table) (r_t : InR .i64 t) {res : (List Int) × Int} (h : p_impl_Ring_weightsOf r_Table t  = some res) :
    Ret Try.prog 50 #[(Value.agg #[v_r_Table]), (Value.int .i64 t)] w (fun v w' => ∃ (u0 : Value), v = (Value.tuple #[u0, Value.int .i64 res.2]) ∧ InR .i64 res.2 ∧ Ext w w' ∧ Sep w.heap.size w' [(Ty.sl (Ty.i .i64)).at u0 res.1]) := by
  unfold p_impl_Ring_weightsOf at h
  have hS0 : St w w [] := St.start w
  refine Ret.start (fn := Try.f50) Try.func50 rfl 23 rfl rfl ?_
  refine W.seq (W.region ?_)
  refine WL.box hS0 rfl (cs := [v_r_Table]) rfl rfl ?_
  intro b1 wd2 hS3 he4 hx5
  replace hS3 : St w wd2 [bx b1 [v_r_Table]] := hS3
  have hx6 := St.boxAt hS3 0 rfl
  have hE7 : Ext w wd2 := hS3.ext
  have hS8 : St wd2 wd2 [] := St.start wd2
  refine WL.val (Value.slice none 0 0) _ (op_assign rfl) rfl ?_
  refine WL.val (Value.int .i64 (0 : Int)) _ (op_assign rfl) rfl ?_
  refine WL.nil ?_
  show W _ _ _ _ _ _
  refine W.seq (W.region ?_)
  refine WL.litFlat (t := (Ty.i .i64)) (flat_i .i64) [(Value.int .i64 (1 : Int))] [(1 : Int)] hS8 sl_35 rfl rfl (fillL rfl ⟨rfl, rfl, rfl, trivial⟩) rfl rfl (litL ⟨⟨rfl, (inR_i64.2 (show (-9223372036854775808 : Int) ≤ 1 ∧ (1 : Int) ≤ 9223372036854775807 from by decide))⟩, trivial⟩) rfl ?_
  intro u9 wd10 hS11 he12
  replace hS11 : St wd2 wd10 [(Ty.sl (Ty.i .i64)).at u9 ([(1 : Int)] : (List Int))] := hS11
  have hb13 := St.rep (t := (Ty.sl (Ty.i .i64))) hS11 0 rfl
  have hE14 : Ext w wd10 := (Ext.trans hE7 hS11.ext)
  have hE15 : Ext wd2 wd10 := hS11.ext
  have hS16 : St wd10 wd10 [] := St.start wd10
  refine WL.val (Value.pointer (some ⟨b1, 0, none⟩)) _ (op_fieldAddr fd_26_0 rfl) rfl ?_
  refine WL.val v_r_Table _ (op_load one_22 rfl (BoxAt.cell (BoxAt.lift (Ext.trans hE15 hS16.ext) hx6) rfl)) rfl ?_
  have hr17 := inR_len (Ty.lift _ (Ext.trans hE14 hS16.ext) r_r_Table)
  refine WL.val (Value.int .i64 ((r_Table).length : Int)) _ (op_lenL sl_22 (Ty.lift _ (Ext.trans hE14 hS16.ext) r_r_Table) rfl) rfl ?_
  obtain ⟨x18, hx19, h⟩ := bs h
  refine WL.call _ (op_call fn_77 (args2 rfl rfl)) (c_slices_Repeat_Lint64_int64 (Ty.lift _ hS16.ext hb13) hr17 hx19) rfl ?_
  rintro u20 wd21 ⟨_, rfl, he22, hs23⟩
  have hS24 := St.join hS16 he22 hs23
  replace hS24 : St wd10 wd21 [(Ty.sl (Ty.i .i64)).at u20 x18] := hS24
  refine WL.val u20 _ (op_assign rfl) rfl ?_
  refine WL.nil ?_
  show W _ _ _ _ _ _
  refine W.seq (W.seq (W.region ?_))
  refine WL.val (Value.int .i64 t) _ (op_move rfl) rfl ?_
  refine WL.val (Value.int .i64 (0 : Int)) _ (op_move rfl) rfl ?_
  refine WL.nil ?_
  show W _ _ _ _ _ _
  obtain ⟨res25, hres26, h⟩ := bs h
  refine W.blockLoop (fun fq wq => ∃ s, res25 = Res.fin s ∧ ∃ (uu0 : Value), fq 6 = uu0 ∧ St wd10 wq [(Ty.sl (Ty.i .i64)).at uu0 s]) ?_ ?_
  · refine W.forN (fun k (s : (List Int)) fq wq => ∃ (uu0 : Value), fq 2 = (Value.pointer (some ⟨b1, 0, none⟩)) ∧ fq 6 = uu0 ∧ fq 12 = (Value.int .i64 t) ∧ fq 13 = Value.int .i64 (k : Int) ∧ InR .i64 (k : Int) ∧ St wd10 wq [(Ty.sl (Ty.i .i64)).at uu0 s]) hres26 ⟨u20, rfl, rfl, rfl, rfl, (inR_i64.2 (show (-9223372036854775808 : Int) ≤ 0 ∧ (0 : Int) ≤ 9223372036854775807 from by decide)), hS24⟩ ?_ ?_
    · intro k27 x28 ct29 f30 wd31 hk32 hb33 hI34 hbrk35 hret36
      replace hI34 : ∃ (uu0 : Value), f30 2 = (Value.pointer (some ⟨b1, 0, none⟩)) ∧ f30 6 = uu0 ∧ f30 12 = (Value.int .i64 t) ∧ f30 13 = Value.int .i64 (k27 : Int) ∧ InR .i64 (k27 : Int) ∧ St wd10 wd31 [(Ty.sl (Ty.i .i64)).at uu0 x28] := hI34
      replace hb33 : p_impl_Ring_weightsOf_L1 r_Table k27 x28 = some ct29 := hb33
      unfold p_impl_Ring_weightsOf_L1 at hb33
      obtain ⟨u37, hf38, hf39, hf40, hf41, hr42, hS43⟩ := hI34
      refine W.seq (W.region ?_)
      refine WL.val (Value.bool (decide ((k27 : Int) < t))) _ (op_lss hf41 hf40) rfl ?_
      have hl44 : (k27 : Int) < t := by omega
      refine WL.nil ?_
      show W _ _ _ _ _ _
      refine W.seq ?_
      refine W.condT (decide ((k27 : Int) < t)) rfl (decide_eq_true hl44) ?_
      refine W.skip ?_
      show W _ _ _ _ _ _
      refine W.seq ?_
      refine W.block ?_
      refine W.seq (W.region ?_)
      refine WL.val (Value.agg #[v_r_Table]) _ (op_loadBox st_26 hf38 (BoxAt.lift (Ext.trans hE15 hS43.ext) hx6) rfl rfl) rfl ?_
      refine WL.val u37 _ (op_move hf39) rfl ?_
      obtain ⟨x46, hx47, hb33⟩ := bs hb33
      refine WL.call _ (op_call fn_78 (args2 rfl rfl)) (c_impl_Ring_nextWeights (Ty.lift _ (Ext.trans hE14 hS43.ext) r_r_Table) (St.rep (t := (Ty.sl (Ty.i .i64))) hS43 0 rfl) hx47) rfl ?_
      rintro u48 wd49 ⟨_, rfl, he50, hs51⟩
      have hS52 := St.join hS43 he50 hs51
      replace hS52 : St wd10 wd49 [(Ty.sl (Ty.i .i64)).at u37 x28, (Ty.sl (Ty.i .i64)).at u48 x46] := hS52
      refine WL.val u48 _ (op_assign rfl) rfl ?_
      refine WL.nil ?_
      show W _ _ _ _ _ _
      refine W.seq (W.region ?_)
      refine WL.val u48 _ (op_move rfl) rfl ?_
      obtain ⟨x53, hx54, hb33⟩ := bs hb33
      refine WL.call _ (op_call fn_79 (args1 rfl)) (c_slices_Max_Lint64_int64 (St.rep (t := (Ty.sl (Ty.i .i64))) hS52 1 rfl) hx54) rfl ?_
      rintro _ wd56 ⟨rfl, hr55, he57⟩
      have hS59 := St.extend hS52 he57
      replace hS59 : St wd10 wd56 [(Ty.sl (Ty.i .i64)).at u37 x28, (Ty.sl (Ty.i .i64)).at u48 x46] := hS59
      refine WL.val (Value.bool (decide (x53 > (1000000 : Int)))) _ (op_gtr rfl rfl) rfl ?_
      refine WL.nil ?_
      show W _ _ _ _ _ _
      refine W.cond (decide (x53 > (1000000 : Int))) rfl (fun hc60 => ?_) (fun hc60 => ?_)
      · replace hb33 := ip hb33 hc60
        refine W.seq (W.region ?_)
        refine WL.val (Value.slice none 0 0) _ (op_assign rfl) rfl ?_
        refine WL.val (Value.int .i64 (3 : Int)) _ (op_assign rfl) rfl ?_
        refine WL.nil ?_
        show W _ _ _ _ _ _
        refine W.ret ?_
        obtain rfl := Option.some.inj hb33
        obtain rfl := hret36 _ rfl
        replace h := onRes_ret h
        obtain rfl := Option.some.inj h
        show FinP _ _ _ _ _ _ _
        exact FinP.ret _ (res2 rfl rfl rfl) ⟨(Value.slice none 0 0), rfl, (inR_i64.2 (show (-9223372036854775808 : Int) ≤ 3 ∧ (3 : Int) ≤ 9223372036854775807 from by decide)), (Ext.trans hE14 hS59.ext), (St.out (St.pick (St.addNil (Ty.i .i64) hS59) [2] rfl) (hE14))⟩
      · replace hb33 := inegb hb33 hc60
        refine W.skip ?_
        show W _ _ _ _ _ _
        refine W.region ?_
        refine WL.val (Value.int .i64 (w64 ((k27 : Int) + (1 : Int)))) _ (op_add hf41 rfl) rfl ?_
        refine WL.val (Value.int .i64 (w64 ((k27 : Int) + (1 : Int)))) _ (op_move rfl) rfl ?_
        refine WL.nil ?_
        obtain rfl := Option.some.inj hb33
        show ∃ s, _ = Ctl.next s ∧ _
        exact ⟨_, rfl, u48, hf38, rfl, hf40, (ctr_next hl44 r_t), (ctr_rng hl44 r_t), (St.pick hS59 [1] rfl)⟩
    · intro x68 f63 wd64 hs65 hI66
      replace hI66 : ∃ (uu0 : Value), f63 2 = (Value.pointer (some ⟨b1, 0, none⟩)) ∧ f63 6 = uu0 ∧ f63 12 = (Value.int .i64 t) ∧ f63 13 = Value.int .i64 (((t).toNat : Nat) : Int) ∧ InR .i64 (((t).toNat : Nat) : Int) ∧ St wd10 wd64 [(Ty.sl (Ty.i .i64)).at uu0 x68] := hI66
      obtain ⟨u69, hf70, hf71, hf72, hf73, hr74, hS75⟩ := hI66
      refine W.seq (W.region ?_)
      refine WL.val (Value.bool (decide ((((t).toNat : Nat) : Int) < t))) _ (op_lss hf73 hf72) rfl ?_
      have hl76 : ¬ (((t).toNat : Nat) : Int) < t := by omega
      refine WL.nil ?_
      show W _ _ _ _ _ _
      refine W.seq ?_
      refine W.condF (decide ((((t).toNat : Nat) : Int) < t)) rfl (decide_eq_false hl76) ?_
      refine W.exit ?_
      show _ = _ ∧ _
      exact ⟨rfl, _, hs65, u69, hf71, hS75⟩
  · rintro f77 wd78 ⟨x81, rfl, hq79⟩
    replace h := onRes_fin h
    replace hq79 : ∃ (uu0 : Value), f77 6 = uu0 ∧ St wd10 wd78 [(Ty.sl (Ty.i .i64)).at uu0 x81] := hq79
    obtain ⟨u82, hf83, hS84⟩ := hq79
    show W _ _ _ _ _ _
    refine W.seq (W.region ?_)
    refine WL.val u82 _ (op_move hf83) rfl ?_
    refine WL.val u82 _ (op_assign rfl) rfl ?_
    refine WL.val (Value.int .i64 (0 : Int)) _ (op_assign rfl) rfl ?_
    refine WL.nil ?_
    show W _ _ _ _ _ _
    refine W.ret ?_
    obtain rfl := Option.some.inj h
    show FinP _ _ _ _ _ _ _
    exact FinP.ret _ (res2 rfl rfl rfl) ⟨u82, rfl, (inR_i64.2 (show (-9223372036854775808 : Int) ≤ 0 ∧ (0 : Int) ≤ 9223372036854775807 from by decide)), (Ext.trans hE14 hS84.ext), (St.out (St.pick hS84 [0] rfl) (hE14))⟩

theorem c_spec_l03Label {w : World} {r_Table : (List (List (List Int)))} {v_r_Table : Value} {i : Int} (r_r_Table : (Ty.sl (Ty.sl (Ty.sl (Ty.i .i64)))).rep w v_r_Table r_Table) (r_i : InR .i64 i) {res : Bool} (h : p_spec_l03Label r_Table i  = some res) :
    Ret Try.prog 51 #[(Value.agg #[v_r_Table]), (Value.int .i64 i)] w (fun v w' => v = Value.bool res ∧ Ext w w') := by
  unfold p_spec_l03Label at h
  have hS0 : St w w [] := St.start w
  refine Ret.start (fn := Try.f51) Try.func51 rfl 11 rfl rfl ?_
  refine W.seq (W.region ?_)
  refine WL.box hS0 rfl (cs := [v_r_Table]) rfl rfl ?_
  intro b1 wd2 hS3 he4 hx5
  replace hS3 : St w wd2 [bx b1 [v_r_Table]] := hS3
  have hx6 := St.boxAt hS3 0 rfl
  have hE7 : Ext w wd2 := hS3.ext
  have hS8 : St wd2 wd2 [] := St.start wd2
  refine WL.val (Value.bool false) _ (op_assign rfl) rfl ?_
  refine WL.nil ?_
  show W _ _ _ _ _ _
  refine W.seq (W.region ?_)
  refine WL.val (Value.int .i64 i) _ (op_move rfl) rfl ?_
  refine WL.val (Value.pointer (some ⟨b1, 0, none⟩)) _ (op_fieldAddr fd_26_0 rfl) rfl ?_
  refine WL.val v_r_Table _ (op_load one_22 rfl (BoxAt.cell (BoxAt.lift hS8.ext hx6) rfl)) rfl ?_
  have hr9 := inR_len (Ty.lift _ (Ext.trans hE7 hS8.ext) r_r_Table)
  refine WL.val (Value.int .i64 ((r_Table).length : Int)) _ (op_lenL sl_22 (Ty.lift _ (Ext.trans hE7 hS8.ext) r_r_Table) rfl) rfl ?_
  refine WL.val (Value.int .i64 (w64 (((r_Table).length : Int) - (1 : Int)))) _ (op_sub rfl rfl) rfl ?_
  obtain ⟨x10, hx11, h⟩ := bs h
  refine WL.call _ (op_call fn_47 (args3 rfl rfl rfl)) (c_spec_l01In r_i (inR_i64.2 (show (-9223372036854775808 : Int) ≤ 0 ∧ (0 : Int) ≤ 9223372036854775807 from by decide)) (inR_wrap _ _) hx11) rfl ?_
  rintro _ wd12 ⟨rfl, he13⟩
  have hS15 := St.extend hS8 he13
  replace hS15 : St wd2 wd12 [] := hS15
  refine WL.val (Value.bool x10) _ (op_assign rfl) rfl ?_
  refine WL.nil ?_
  show W _ _ _ _ _ _
  refine W.ret ?_
  obtain rfl := Option.some.inj h
  show FinP _ _ _ _ _ _ _
  exact FinP.ret _ (res1 rfl rfl) ⟨rfl, (Ext.trans hE7 hS15.ext)⟩

theorem c_spec_l04Bounds {w : World} {r_Table : (List (List (List Int)))} {v_r_Table : Value} {i : Int} {w1 : (List Int)} {v_w1 : Value} (r_r_Table : (Ty.sl (Ty.sl (Ty.sl (Ty.i .i64)))).rep w v_r_Table r_Table) (r_i : InR .i64 i) (r_w1 : (Ty.sl (Ty.i .i64)).rep w v_w1 w1) {res : Int × Int × Int × Int} (h : p_spec_l04Bounds r_Table i w1  = some res) :
    Ret Try.prog 52 #[(Value.agg #[v_r_Table]), (Value.int .i64 i), v_w1] w (fun v w' => v = (Value.agg #[Value.int .i64 res.1, Value.int .i64 res.2.1, Value.int .i64 res.2.2.1, Value.int .i64 res.2.2.2]) ∧ InR .i64 res.1 ∧ InR .i64 res.2.1 ∧ InR .i64 res.2.2.1 ∧ InR .i64 res.2.2.2 ∧ Ext w w') := by
  unfold p_spec_l04Bounds at h
  have hS0 : St w w [] := St.start w
  refine Ret.start (fn := Try.f52) Try.func52 rfl 89 rfl rfl ?_
  refine W.seq (W.region ?_)
  refine WL.box hS0 rfl (cs := [v_r_Table]) rfl rfl ?_
  intro b1 wd2 hS3 he4 hx5
  replace hS3 : St w wd2 [bx b1 [v_r_Table]] := hS3
  have hx6 := St.boxAt hS3 0 rfl
  have hE7 : Ext w wd2 := hS3.ext
  have hS8 : St wd2 wd2 [] := St.start wd2
  refine WL.alloc hS8 ze_42 (cs := [(Value.int .i64 (0 : Int)), (Value.int .i64 (0 : Int)), (Value.int .i64 (0 : Int)), (Value.int .i64 (0 : Int))]) rfl rfl ?_
  intro b9 wd10 hS11 he12
  replace hS11 : St wd2 wd10 [bx b9 [(Value.int .i64 (0 : Int)), (Value.int .i64 (0 : Int)), (Value.int .i64 (0 : Int)), (Value.int .i64 (0 : Int))]] := hS11
  refine WL.nil ?_
  show W _ _ _ _ _ _
  refine W.seq (W.region ?_)
  refine WL.val (Value.agg #[(Value.int .i64 (0 : Int)), (Value.int .i64 (0 : Int)), (Value.int .i64 (0 : Int)), (Value.int .i64 (0 : Int))]) _ (op_build bd_42 (parts := []) (partsL trivial) trivial rfl) rfl ?_
  refine WL.alloc hS11 ze_42 (cs := [(Value.int .i64 (0 : Int)), (Value.int .i64 (0 : Int)), (Value.int .i64 (0 : Int)), (Value.int .i64 (0 : Int))]) rfl rfl ?_
  intro b13 wd14 hS15 he16
  replace hS15 : St wd2 wd14 [bx b9 [(Value.int .i64 (0 : Int)), (Value.int .i64 (0 : Int)), (Value.int .i64 (0 : Int)), (Value.int .i64 (0 : Int))], bx b13 [(Value.int .i64 (0 : Int)), (Value.int .i64 (0 : Int)), (Value.int .i64 (0 : Int)), (Value.int .i64 (0 : Int))]] := hS15
  refine WL.storeBox [(Value.int .i64 (0 : Int)), (Value.int .i64 (0 : Int)), (Value.int .i64 (0 : Int)), (Value.int .i64 (0 : Int))] hS15 (k := 1) rfl rfl rfl (us := [(Value.int .i64 (0 : Int)), (Value.int .i64 (0 : Int)), (Value.int .i64 (0 : Int)), (Value.int .i64 (0 : Int))]) rfl sz_42 rfl rfl (all_cons rfl (all_cons rfl (all_cons rfl (all_cons rfl all_nil)))) rfl ?_
  intro wd17 hS18
  replace hS18 : St wd2 wd17 [bx b9 [(Value.int .i64 (0 : Int)), (Value.int .i64 (0 : Int)), (Value.int .i64 (0 : Int)), (Value.int .i64 (0 : Int))], bx b13 [(Value.int .i64 (0 : Int)), (Value.int .i64 (0 : Int)), (Value.int .i64 (0 : Int)), (Value.int .i64 (0 : Int))]] := hS18
  refine WL.nil ?_
  show W _ _ _ _ _ _
  refine W.seq (W.seq (W.region ?_))
  refine WL.val (Value.int .i64 (0 : Int)) _ (op_assign rfl) rfl ?_
  refine WL.nil ?_
  show W _ _ _ _ _ _
  obtain ⟨res19, hres20, h⟩ := bs h
  refine W.blockLoop (fun fq wq => ∃ s, res19 = Res.fin s ∧ fq 6 = (Value.pointer (some ⟨b9, 0, none⟩)) ∧ fq 7 = (Value.pointer (some ⟨b13, 0, none⟩)) ∧ InR .i64 s.1 ∧ InR .i64 s.2.1 ∧ InR .i64 s.2.2.1 ∧ InR .i64 s.2.2.2 ∧ St wd2 wq [bx b9 [(Value.int .i64 (0 : Int)), (Value.int .i64 (0 : Int)), (Value.int .i64 (0 : Int)), (Value.int .i64 (0 : Int))], bx b13 [(Value.int .i64 s.1), (Value.int .i64 s.2.1), (Value.int .i64 s.2.2.1), (Value.int .i64 s.2.2.2)]]) ?_ ?_
  · refine W.forN (fun k (s : Int × Int × Int × Int) fq wq => fq 1 = (Value.int .i64 i) ∧ fq 2 = v_w1 ∧ fq 3 = (Value.pointer (some ⟨b1, 0, none⟩)) ∧ fq 6 = (Value.pointer (some ⟨b9, 0, none⟩)) ∧ fq 7 = (Value.pointer (some ⟨b13, 0, none⟩)) ∧ fq 8 = Value.int .i64 (k : Int) ∧ InR .i64 (k : Int) ∧ InR .i64 s.1 ∧ InR .i64 s.2.1 ∧ InR .i64 s.2.2.1 ∧ InR .i64 s.2.2.2 ∧ St wd2 wq [bx b9 [(Value.int .i64 (0 : Int)), (Value.int .i64 (0 : Int)), (Value.int .i64 (0 : Int)), (Value.int .i64 (0 : Int))], bx b13 [(Value.int .i64 s.1), (Value.int .i64 s.2.1), (Value.int .i64 s.2.2.1), (Value.int .i64 s.2.2.2)]]) hres20 ⟨rfl, rfl, rfl, rfl, rfl, rfl, (inR_i64.2 (show (-9223372036854775808 : Int) ≤ 0 ∧ (0 : Int) ≤ 9223372036854775807 from by decide)), (inR_i64.2 (show (-9223372036854775808 : Int) ≤ 0 ∧ (0 : Int) ≤ 9223372036854775807 from by decide)), (inR_i64.2 (show (-9223372036854775808 : Int) ≤ 0 ∧ (0 : Int) ≤ 9223372036854775807 from by decide)), (inR_i64.2 (show (-9223372036854775808 : Int) ≤ 0 ∧ (0 : Int) ≤ 9223372036854775807 from by decide)), (inR_i64.2 (show (-9223372036854775808 : Int) ≤ 0 ∧ (0 : Int) ≤ 9223372036854775807 from by decide)), hS18⟩ ?_ ?_
    · intro k21 s1124 ct26 f27 wd28 hk29 hb30 hI31 hbrk32 hret33
      obtain ⟨x22, x23, x24, x25⟩ := s1124
      replace hI31 : f27 1 = (Value.int .i64 i) ∧ f27 2 = v_w1 ∧ f27 3 = (Value.pointer (some ⟨b1, 0, none⟩)) ∧ f27 6 = (Value.pointer (some ⟨b9, 0, none⟩)) ∧ f27 7 = (Value.pointer (some ⟨b13, 0, none⟩)) ∧ f27 8 = Value.int .i64 (k21 : Int) ∧ InR .i64 (k21 : Int) ∧ InR .i64 x22 ∧ InR .i64 x23 ∧ InR .i64 x24 ∧ InR .i64 x25 ∧ St wd2 wd28 [bx b9 [(Value.int .i64 (0 : Int)), (Value.int .i64 (0 : Int)), (Value.int .i64 (0 : Int)), (Value.int .i64 (0 : Int))], bx b13 [(Value.int .i64 x22), (Value.int .i64 x23), (Value.int .i64 x24), (Value.int .i64 x25)]] := hI31
      replace hb30 : p_spec_l04Bounds_L1 r_Table i w1 k21 x22 x23 x24 x25 = some ct26 := hb30
      unfold p_spec_l04Bounds_L1 at hb30
      obtain ⟨hf34, hf35, hf36, hf37, hf38, hf39, hr40, hr41, hr42, hr43, hr44, hS45⟩ := hI31
      refine W.seq (W.seq (W.region ?_))
      refine WL.val (Value.int .i64 (k21 : Int)) _ (op_move hf39) rfl ?_
      refine WL.val v_w1 _ (op_move hf35) rfl ?_
      have hr46 := inR_len (Ty.lift _ (Ext.trans hE7 hS45.ext) r_w1)
      refine WL.val (Value.int .i64 ((w1).length : Int)) _ (op_lenL sl_35 (Ty.lift _ (Ext.trans hE7 hS45.ext) r_w1) rfl) rfl ?_
      refine WL.val (Value.bool (decide ((k21 : Int) < ((w1).length : Int)))) _ (op_lss rfl rfl) rfl ?_
      have hl47 : (k21 : Int) < ((w1).length : Int) := by omega
      refine WL.nil ?_
      show W _ _ _ _ _ _
      refine W.condT (decide ((k21 : Int) < ((w1).length : Int))) rfl (decide_eq_true hl47) ?_
      refine W.skip ?_
      show W _ _ _ _ _ _
      refine W.seq ?_
      refine W.block ?_
      refine W.seq (W.region ?_)
      refine WL.val (Value.int .i64 (0 : Int)) _ (op_assign rfl) rfl ?_
      refine WL.nil ?_
      show W _ _ _ _ _ _
      refine W.seq (W.seq (W.region ?_))
      refine WL.val (Value.int .i64 (0 : Int)) _ (op_assign rfl) rfl ?_
      refine WL.nil ?_
      show W _ _ _ _ _ _
      obtain ⟨res49, hres50, hb30⟩ := bs hb30
      refine W.blockLoop (fun fq wq => ∃ s, res49 = Res.fin s ∧ fq 1 = (Value.int .i64 i) ∧ fq 2 = v_w1 ∧ fq 3 = (Value.pointer (some ⟨b1, 0, none⟩)) ∧ fq 6 = (Value.pointer (some ⟨b9, 0, none⟩)) ∧ fq 7 = (Value.pointer (some ⟨b13, 0, none⟩)) ∧ fq 8 = (Value.int .i64 (k21 : Int)) ∧ fq 9 = Value.int .i64 s ∧ InR .i64 s ∧ St wd2 wq [bx b9 [(Value.int .i64 (0 : Int)), (Value.int .i64 (0 : Int)), (Value.int .i64 (0 : Int)), (Value.int .i64 (0 : Int))], bx b13 [(Value.int .i64 x22), (Value.int .i64 x23), (Value.int .i64 x24), (Value.int .i64 x25)]]) ?_ ?_
      · refine W.forN (fun k (s : Int) fq wq => fq 1 = (Value.int .i64 i) ∧ fq 2 = v_w1 ∧ fq 3 = (Value.pointer (some ⟨b1, 0, none⟩)) ∧ fq 6 = (Value.pointer (some ⟨b9, 0, none⟩)) ∧ fq 7 = (Value.pointer (some ⟨b13, 0, none⟩)) ∧ fq 8 = (Value.int .i64 (k21 : Int)) ∧ fq 9 = Value.int .i64 s ∧ InR .i64 s ∧ fq 10 = Value.int .i64 (k : Int) ∧ InR .i64 (k : Int) ∧ St wd2 wq [bx b9 [(Value.int .i64 (0 : Int)), (Value.int .i64 (0 : Int)), (Value.int .i64 (0 : Int)), (Value.int .i64 (0 : Int))], bx b13 [(Value.int .i64 x22), (Value.int .i64 x23), (Value.int .i64 x24), (Value.int .i64 x25)]]) hres50 ⟨hf34, hf35, hf36, hf37, hf38, hf39, rfl, (inR_i64.2 (show (-9223372036854775808 : Int) ≤ 0 ∧ (0 : Int) ≤ 9223372036854775807 from by decide)), rfl, (inR_i64.2 (show (-9223372036854775808 : Int) ≤ 0 ∧ (0 : Int) ≤ 9223372036854775807 from by decide)), hS45⟩ ?_ ?_
        · intro k51 x52 ct53 f54 wd55 hk56 hb57 hI58 hbrk59 hret60
          replace hI58 : f54 1 = (Value.int .i64 i) ∧ f54 2 = v_w1 ∧ f54 3 = (Value.pointer (some ⟨b1, 0, none⟩)) ∧ f54 6 = (Value.pointer (some ⟨b9, 0, none⟩)) ∧ f54 7 = (Value.pointer (some ⟨b13, 0, none⟩)) ∧ f54 8 = (Value.int .i64 (k21 : Int)) ∧ f54 9 = Value.int .i64 x52 ∧ InR .i64 x52 ∧ f54 10 = Value.int .i64 (k51 : Int) ∧ InR .i64 (k51 : Int) ∧ St wd2 wd55 [bx b9 [(Value.int .i64 (0 : Int)), (Value.int .i64 (0 : Int)), (Value.int .i64 (0 : Int)), (Value.int .i64 (0 : Int))], bx b13 [(Value.int .i64 x22), (Value.int .i64 x23), (Value.int .i64 x24), (Value.int .i64 x25)]] := hI58
          replace hb57 : p_spec_l04Bounds_L2 r_Table i k21 w1 k51 x52 = some ct53 := hb57
          unfold p_spec_l04Bounds_L2 at hb57
          obtain ⟨hf61, hf62, hf63, hf64, hf65, hf66, hf67, hr68, hf69, hr70, hS71⟩ := hI58
          refine W.seq (W.seq (W.region ?_))
          refine WL.val (Value.int .i64 (k51 : Int)) _ (op_move hf69) rfl ?_
          refine WL.val v_w1 _ (op_move hf62) rfl ?_
          have hr72 := inR_len (Ty.lift _ (Ext.trans hE7 hS71.ext) r_w1)
          refine WL.val (Value.int .i64 ((w1).length : Int)) _ (op_lenL sl_35 (Ty.lift _ (Ext.trans hE7 hS71.ext) r_w1) rfl) rfl ?_
          refine WL.val (Value.bool (decide ((k51 : Int) < ((w1).length : Int)))) _ (op_lss rfl rfl) rfl ?_
          have hl73 : (k51 : Int) < ((w1).length : Int) := by omega
          refine WL.nil ?_
          show W _ _ _ _ _ _
          refine W.condT (decide ((k51 : Int) < ((w1).length : Int))) rfl (decide_eq_true hl73) ?_
          refine W.skip ?_
          show W _ _ _ _ _ _
          refine W.seq ?_
          refine W.block ?_
          obtain ⟨x121, hx124, hb57⟩ := bs hb57
          obtain ⟨ha122, hb123, hx124⟩ := idx_some hx124
          obtain ⟨u135, hc136, hr137⟩ := repSl.el r_r_Table hx124
          obtain ⟨x160, hx163, hb57⟩ := bs hb57
          obtain ⟨ha161, hb162, hx163⟩ := idx_some hx163
          obtain ⟨u174, hc175, hr176⟩ := repSl.el hr137 hx163
          obtain ⟨x199, hx202, hb57⟩ := bs hb57
          obtain ⟨ha200, hb201, hx202⟩ := idx_some hx202
          obtain ⟨u213, hc214, hr215⟩ := repSl.el hr176 hx202
          obtain ⟨rfl, hr215⟩ := hr215
          obtain ⟨x245, hx248, hb57⟩ := bs hb57
          obtain ⟨ha246, hb247, hx248⟩ := idx_some hx248
          obtain ⟨u259, hc260, hr261⟩ := repSl.el r_w1 hx248
          obtain ⟨rfl, hr261⟩ := hr261
          refine W.drawR mixo 17 [] [fun _ v _ _ => v = (Value.int .i64 x52) ∧ InR .i64 x52, fun _ v _ _ => v = (Value.pointer (some ⟨b1, 0, none⟩)), fun _ v _ _ => v = v_r_Table, fun _ v _ _ => v = (Value.int .i64 i) ∧ InR .i64 i, fun _ v _ _ => v = (Value.pointer (some (elA v_r_Table (i).toNat))), fun _ v _ _ => v = u135, fun _ v _ _ => v = (Value.int .i64 (k21 : Int)) ∧ InR .i64 (k21 : Int), fun _ v _ _ => v = (Value.pointer (some (elA u135 ((k21 : Int)).toNat))), fun _ v _ _ => v = u174, fun _ v _ _ => v = (Value.int .i64 (k51 : Int)) ∧ InR .i64 (k51 : Int), fun _ v _ _ => v = (Value.pointer (some (elA u174 ((k51 : Int)).toNat))), fun _ v _ _ => v = (Value.int .i64 x199) ∧ InR .i64 x199, fun _ v _ _ => v = v_w1, fun _ v _ _ => v = (Value.int .i64 (k51 : Int)) ∧ InR .i64 (k51 : Int), fun _ v _ _ => v = (Value.pointer (some (elA v_w1 ((k51 : Int)).toNat))), fun _ v _ _ => v = (Value.int .i64 x245) ∧ InR .i64 x245, fun _ v _ _ => v = (Value.int .i64 (w64 (x199 * x245))) ∧ InR .i64 (w64 (x199 * x245))] (by kernel_rfl) (by kernel_rfl) ⟨⟨fun _ _ _ _ _ _ h => h, fun _ _ _ _ _ _ h => h⟩, ⟨fun _ _ _ _ _ _ h => h, fun _ _ _ _ _ _ h => h⟩, ⟨fun _ _ _ _ _ _ h => h, fun _ _ _ _ _ _ h => h⟩, ⟨fun _ _ _ _ _ _ h => h, fun _ _ _ _ _ _ h => h⟩, ⟨fun _ _ _ _ _ _ h => h, fun _ _ _ _ _ _ h => h⟩, ⟨fun _ _ _ _ _ _ h => h, fun _ _ _ _ _ _ h => h⟩, ⟨fun _ _ _ _ _ _ h => h, fun _ _ _ _ _ _ h => h⟩, ⟨fun _ _ _ _ _ _ h => h, fun _ _ _ _ _ _ h => h⟩, ⟨fun _ _ _ _ _ _ h => h, fun _ _ _ _ _ _ h => h⟩, ⟨fun _ _ _ _ _ _ h => h, fun _ _ _ _ _ _ h => h⟩, ⟨fun _ _ _ _ _ _ h => h, fun _ _ _ _ _ _ h => h⟩, ⟨fun _ _ _ _ _ _ h => h, fun _ _ _ _ _ _ h => h⟩, ⟨fun _ _ _ _ _ _ h => h, fun _ _ _ _ _ _ h => h⟩, ⟨fun _ _ _ _ _ _ h => h, fun _ _ _ _ _ _ h => h⟩, ⟨fun _ _ _ _ _ _ h => h, fun _ _ _ _ _ _ h => h⟩, ⟨fun _ _ _ _ _ _ h => h, fun _ _ _ _ _ _ h => h⟩, ⟨fun _ _ _ _ _ _ h => h, fun _ _ _ _ _ _ h => h⟩, trivial⟩ ⟨?_, ?_, ?_, ?_, ?_, ?_, ?_, ?_, ?_, ?_, ?_, ?_, ?_, ?_, ?_, ?_, ?_, trivial⟩ ?_
          · refine ObX.op rfl ?_
            intro f75 wd76 he77 hout78 hphi79
            have hS80 : St wd2 wd76 [bx b9 [(Value.int .i64 (0 : Int)), (Value.int .i64 (0 : Int)), (Value.int .i64 (0 : Int)), (Value.int .i64 (0 : Int))], bx b13 [(Value.int .i64 x22), (Value.int .i64 x23), (Value.int .i64 x24), (Value.int .i64 x25)]] := St.extend hS71 he77
            have e81 : f75 9 = (Value.int .i64 x52) := (hout78 9 rfl).trans hf67
            exact OpX.val (Value.int .i64 x52) wd76 rfl (op_move e81) (Ext.refl _) ⟨rfl, hr68⟩
          · refine ObX.op rfl ?_
            intro f82 wd83 he84 hout85 hphi86
            have hS87 : St wd2 wd83 [bx b9 [(Value.int .i64 (0 : Int)), (Value.int .i64 (0 : Int)), (Value.int .i64 (0 : Int)), (Value.int .i64 (0 : Int))], bx b13 [(Value.int .i64 x22), (Value.int .i64 x23), (Value.int .i64 x24), (Value.int .i64 x25)]] := St.extend hS71 he84
            have e88 : f82 3 = (Value.pointer (some ⟨b1, 0, none⟩)) := (hout85 3 rfl).trans hf63
            exact OpX.val (Value.pointer (some ⟨b1, 0, none⟩)) wd83 rfl (op_fieldAddr fd_26_0 e88) (Ext.refl _) rfl
          · refine ObX.op rfl ?_
            intro f89 wd90 he91 hout92 hphi93
            have hS94 : St wd2 wd90 [bx b9 [(Value.int .i64 (0 : Int)), (Value.int .i64 (0 : Int)), (Value.int .i64 (0 : Int)), (Value.int .i64 (0 : Int))], bx b13 [(Value.int .i64 x22), (Value.int .i64 x23), (Value.int .i64 x24), (Value.int .i64 x25)]] := St.extend hS71 he91
            obtain ⟨S95, hS96, hf97⟩ := hphi93 1 25 _ rfl rfl rfl
            have e98 : f89 25 = (Value.pointer (some ⟨b1, 0, none⟩)) := hf97
            exact OpX.val v_r_Table wd90 rfl (op_load one_22 e98 (BoxAt.cell (BoxAt.lift hS94.ext hx6) rfl)) (Ext.refl _) rfl
          · refine ObX.op rfl ?_
            intro f99 wd100 he101 hout102 hphi103
            have hS104 : St wd2 wd100 [bx b9 [(Value.int .i64 (0 : Int)), (Value.int .i64 (0 : Int)), (Value.int .i64 (0 : Int)), (Value.int .i64 (0 : Int))], bx b13 [(Value.int .i64 x22), (Value.int .i64 x23), (Value.int .i64 x24), (Value.int .i64 x25)]] := St.extend hS71 he101
            have e105 : f99 1 = (Value.int .i64 i) := (hout102 1 rfl).trans hf61
            exact OpX.val (Value.int .i64 i) wd100 rfl (op_move e105) (Ext.refl _) ⟨rfl, r_i⟩
          · refine ObX.op rfl ?_
            intro f106 wd107 he108 hout109 hphi110
            have hS111 : St wd2 wd107 [bx b9 [(Value.int .i64 (0 : Int)), (Value.int .i64 (0 : Int)), (Value.int .i64 (0 : Int)), (Value.int .i64 (0 : Int))], bx b13 [(Value.int .i64 x22), (Value.int .i64 x23), (Value.int .i64 x24), (Value.int .i64 x25)]] := St.extend hS71 he108
            obtain ⟨S112, hS113, hf114⟩ := hphi110 2 26 _ rfl rfl rfl
            have e115 : f106 26 = v_r_Table := hf114
            obtain ⟨S116, hS117, hf118⟩ := hphi110 3 27 _ rfl rfl rfl
            obtain ⟨e119, hr120⟩ : f106 27 = (Value.int .i64 i) ∧ InR .i64 i := hf118
            exact OpX.val (Value.pointer (some (elA v_r_Table (i).toNat))) wd107 rfl (op_idx sl_22 (Ty.lift _ (Ext.trans hE7 hS111.ext) r_r_Table) e115 e119 ha122 hb123) (Ext.refl _) rfl
          · refine ObX.op rfl ?_
            intro f125 wd126 he127 hout128 hphi129
            have hS130 : St wd2 wd126 [bx b9 [(Value.int .i64 (0 : Int)), (Value.int .i64 (0 : Int)), (Value.int .i64 (0 : Int)), (Value.int .i64 (0 : Int))], bx b13 [(Value.int .i64 x22), (Value.int .i64 x23), (Value.int .i64 x24), (Value.int .i64 x25)]] := St.extend hS71 he127
            obtain ⟨S131, hS132, hf133⟩ := hphi129 4 28 _ rfl rfl rfl
            have e134 : f125 28 = (Value.pointer (some (elA v_r_Table (i).toNat))) := hf133
            exact OpX.val u135 wd126 rfl (op_load one_57 e134 (Ext.cell (Ext.trans hE7 hS130.ext) hc136)) (Ext.refl _) rfl
          · refine ObX.op rfl ?_
            intro f138 wd139 he140 hout141 hphi142
            have hS143 : St wd2 wd139 [bx b9 [(Value.int .i64 (0 : Int)), (Value.int .i64 (0 : Int)), (Value.int .i64 (0 : Int)), (Value.int .i64 (0 : Int))], bx b13 [(Value.int .i64 x22), (Value.int .i64 x23), (Value.int .i64 x24), (Value.int .i64 x25)]] := St.extend hS71 he140
            have e144 : f138 8 = (Value.int .i64 (k21 : Int)) := (hout141 8 rfl).trans hf66
            exact OpX.val (Value.int .i64 (k21 : Int)) wd139 rfl (op_move e144) (Ext.refl _) ⟨rfl, hr40⟩
          · refine ObX.op rfl ?_
            intro f145 wd146 he147 hout148 hphi149
            have hS150 : St wd2 wd146 [bx b9 [(Value.int .i64 (0 : Int)), (Value.int .i64 (0 : Int)), (Value.int .i64 (0 : Int)), (Value.int .i64 (0 : Int))], bx b13 [(Value.int .i64 x22), (Value.int .i64 x23), (Value.int .i64 x24), (Value.int .i64 x25)]] := St.extend hS71 he147
            obtain ⟨S151, hS152, hf153⟩ := hphi149 5 29 _ rfl rfl rfl
            have e154 : f145 29 = u135 := hf153
            obtain ⟨S155, hS156, hf157⟩ := hphi149 6 30 _ rfl rfl rfl
            obtain ⟨e158, hr159⟩ : f145 30 = (Value.int .i64 (k21 : Int)) ∧ InR .i64 (k21 : Int) := hf157
            exact OpX.val (Value.pointer (some (elA u135 ((k21 : Int)).toNat))) wd146 rfl (op_idx sl_57 (Ty.lift _ (Ext.trans hE7 hS150.ext) hr137) e154 e158 ha161 hb162) (Ext.refl _) rfl
          · refine ObX.op rfl ?_
            intro f164 wd165 he166 hout167 hphi168
            have hS169 : St wd2 wd165 [bx b9 [(Value.int .i64 (0 : Int)), (Value.int .i64 (0 : Int)), (Value.int .i64 (0 : Int)), (Value.int .i64 (0 : Int))], bx b13 [(Value.int .i64 x22), (Value.int .i64 x23), (Value.int .i64 x24), (Value.int .i64 x25)]] := St.extend hS71 he166
            obtain ⟨S170, hS171, hf172⟩ := hphi168 7 31 _ rfl rfl rfl
            have e173 : f164 31 = (Value.pointer (some (elA u135 ((k21 : Int)).toNat))) := hf172
            exact OpX.val u174 wd165 rfl (op_load one_35 e173 (Ext.cell (Ext.trans hE7 hS169.ext) hc175)) (Ext.refl _) rfl
          · refine ObX.op rfl ?_
            intro f177 wd178 he179 hout180 hphi181
            have hS182 : St wd2 wd178 [bx b9 [(Value.int .i64 (0 : Int)), (Value.int .i64 (0 : Int)), (Value.int .i64 (0 : Int)), (Value.int .i64 (0 : Int))], bx b13 [(Value.int .i64 x22), (Value.int .i64 x23), (Value.int .i64 x24), (Value.int .i64 x25)]] := St.extend hS71 he179
            have e183 : f177 10 = (Value.int .i64 (k51 : Int)) := (hout180 10 rfl).trans hf69
            exact OpX.val (Value.int .i64 (k51 : Int)) wd178 rfl (op_move e183) (Ext.refl _) ⟨rfl, hr70⟩
          · refine ObX.op rfl ?_
            intro f184 wd185 he186 hout187 hphi188
            have hS189 : St wd2 wd185 [bx b9 [(Value.int .i64 (0 : Int)), (Value.int .i64 (0 : Int)), (Value.int .i64 (0 : Int)), (Value.int .i64 (0 : Int))], bx b13 [(Value.int .i64 x22), (Value.int .i64 x23), (Value.int .i64 x24), (Value.int .i64 x25)]] := St.extend hS71 he186
            obtain ⟨S190, hS191, hf192⟩ := hphi188 8 32 _ rfl rfl rfl
            have e193 : f184 32 = u174 := hf192
            obtain ⟨S194, hS195, hf196⟩ := hphi188 9 33 _ rfl rfl rfl
            obtain ⟨e197, hr198⟩ : f184 33 = (Value.int .i64 (k51 : Int)) ∧ InR .i64 (k51 : Int) := hf196
            exact OpX.val (Value.pointer (some (elA u174 ((k51 : Int)).toNat))) wd185 rfl (op_idx sl_35 (Ty.lift _ (Ext.trans hE7 hS189.ext) hr176) e193 e197 ha200 hb201) (Ext.refl _) rfl
          · refine ObX.op rfl ?_
            intro f203 wd204 he205 hout206 hphi207
            have hS208 : St wd2 wd204 [bx b9 [(Value.int .i64 (0 : Int)), (Value.int .i64 (0 : Int)), (Value.int .i64 (0 : Int)), (Value.int .i64 (0 : Int))], bx b13 [(Value.int .i64 x22), (Value.int .i64 x23), (Value.int .i64 x24), (Value.int .i64 x25)]] := St.extend hS71 he205
            obtain ⟨S209, hS210, hf211⟩ := hphi207 10 34 _ rfl rfl rfl
            have e212 : f203 34 = (Value.pointer (some (elA u174 ((k51 : Int)).toNat))) := hf211
            exact OpX.val (Value.int .i64 x199) wd204 rfl (op_load one_2 e212 (Ext.cell (Ext.trans hE7 hS208.ext) hc214)) (Ext.refl _) ⟨rfl, hr215⟩
          · refine ObX.op rfl ?_
            intro f216 wd217 he218 hout219 hphi220
            have hS221 : St wd2 wd217 [bx b9 [(Value.int .i64 (0 : Int)), (Value.int .i64 (0 : Int)), (Value.int .i64 (0 : Int)), (Value.int .i64 (0 : Int))], bx b13 [(Value.int .i64 x22), (Value.int .i64 x23), (Value.int .i64 x24), (Value.int .i64 x25)]] := St.extend hS71 he218
            have e222 : f216 2 = v_w1 := (hout219 2 rfl).trans hf62
            exact OpX.val v_w1 wd217 rfl (op_move e222) (Ext.refl _) rfl
          · refine ObX.op rfl ?_
            intro f223 wd224 he225 hout226 hphi227
            have hS228 : St wd2 wd224 [bx b9 [(Value.int .i64 (0 : Int)), (Value.int .i64 (0 : Int)), (Value.int .i64 (0 : Int)), (Value.int .i64 (0 : Int))], bx b13 [(Value.int .i64 x22), (Value.int .i64 x23), (Value.int .i64 x24), (Value.int .i64 x25)]] := St.extend hS71 he225
            have e229 : f223 10 = (Value.int .i64 (k51 : Int)) := (hout226 10 rfl).trans hf69
            exact OpX.val (Value.int .i64 (k51 : Int)) wd224 rfl (op_move e229) (Ext.refl _) ⟨rfl, hr70⟩
          · refine ObX.op rfl ?_
            intro f230 wd231 he232 hout233 hphi234
            have hS235 : St wd2 wd231 [bx b9 [(Value.int .i64 (0 : Int)), (Value.int .i64 (0 : Int)), (Value.int .i64 (0 : Int)), (Value.int .i64 (0 : Int))], bx b13 [(Value.int .i64 x22), (Value.int .i64 x23), (Value.int .i64 x24), (Value.int .i64 x25)]] := St.extend hS71 he232
            obtain ⟨S236, hS237, hf238⟩ := hphi234 12 36 _ rfl rfl rfl
            have e239 : f230 36 = v_w1 := hf238
            obtain ⟨S240, hS241, hf242⟩ := hphi234 13 37 _ rfl rfl rfl
            obtain ⟨e243, hr244⟩ : f230 37 = (Value.int .i64 (k51 : Int)) ∧ InR .i64 (k51 : Int) := hf242
            exact OpX.val (Value.pointer (some (elA v_w1 ((k51 : Int)).toNat))) wd231 rfl (op_idx sl_35 (Ty.lift _ (Ext.trans hE7 hS235.ext) r_w1) e239 e243 ha246 hb247) (Ext.refl _) rfl
          · refine ObX.op rfl ?_
            intro f249 wd250 he251 hout252 hphi253
            have hS254 : St wd2 wd250 [bx b9 [(Value.int .i64 (0 : Int)), (Value.int .i64 (0 : Int)), (Value.int .i64 (0 : Int)), (Value.int .i64 (0 : Int))], bx b13 [(Value.int .i64 x22), (Value.int .i64 x23), (Value.int .i64 x24), (Value.int .i64 x25)]] := St.extend hS71 he251
            obtain ⟨S255, hS256, hf257⟩ := hphi253 14 38 _ rfl rfl rfl
            have e258 : f249 38 = (Value.pointer (some (elA v_w1 ((k51 : Int)).toNat))) := hf257
            exact OpX.val (Value.int .i64 x245) wd250 rfl (op_load one_2 e258 (Ext.cell (Ext.trans hE7 hS254.ext) hc260)) (Ext.refl _) ⟨rfl, hr261⟩
          · refine ObX.op rfl ?_
            intro f262 wd263 he264 hout265 hphi266
            have hS267 : St wd2 wd263 [bx b9 [(Value.int .i64 (0 : Int)), (Value.int .i64 (0 : Int)), (Value.int .i64 (0 : Int)), (Value.int .i64 (0 : Int))], bx b13 [(Value.int .i64 x22), (Value.int .i64 x23), (Value.int .i64 x24), (Value.int .i64 x25)]] := St.extend hS71 he264
            obtain ⟨S268, hS269, hf270⟩ := hphi266 11 35 _ rfl rfl rfl
            obtain ⟨e271, hr272⟩ : f262 35 = (Value.int .i64 x199) ∧ InR .i64 x199 := hf270
            obtain ⟨S273, hS274, hf275⟩ := hphi266 15 39 _ rfl rfl rfl
            obtain ⟨e276, hr277⟩ : f262 39 = (Value.int .i64 x245) ∧ InR .i64 x245 := hf275
            exact OpX.val (Value.int .i64 (w64 (x199 * x245))) wd263 rfl (op_mul e271 e276) (Ext.refl _) ⟨rfl, (inR_wrap _ _)⟩
          · intro f278 wd279 Ss280 he281 hout282 hSn283 hSd284 hphi285
            show WL _ _ _ _ _ _ _
            have hS286 : St wd2 wd279 [bx b9 [(Value.int .i64 (0 : Int)), (Value.int .i64 (0 : Int)), (Value.int .i64 (0 : Int)), (Value.int .i64 (0 : Int))], bx b13 [(Value.int .i64 x22), (Value.int .i64 x23), (Value.int .i64 x24), (Value.int .i64 x25)]] := St.extend hS71 he281
            obtain ⟨e287, hr288⟩ : f278 24 = (Value.int .i64 x52) ∧ InR .i64 x52 := hphi285 0 24 _ (by decide) rfl rfl
            obtain ⟨e289, hr290⟩ : f278 40 = (Value.int .i64 (w64 (x199 * x245))) ∧ InR .i64 (w64 (x199 * x245)) := hphi285 16 40 _ (by decide) rfl rfl
            have e291 : f278 1 = (Value.int .i64 i) := (hout282 1 rfl).trans hf61
            have e292 : f278 2 = v_w1 := (hout282 2 rfl).trans hf62
            have e293 : f278 3 = (Value.pointer (some ⟨b1, 0, none⟩)) := (hout282 3 rfl).trans hf63
            have e294 : f278 6 = (Value.pointer (some ⟨b9, 0, none⟩)) := (hout282 6 rfl).trans hf64
            have e295 : f278 7 = (Value.pointer (some ⟨b13, 0, none⟩)) := (hout282 7 rfl).trans hf65
            have e296 : f278 8 = (Value.int .i64 (k21 : Int)) := (hout282 8 rfl).trans hf66
            have e297 : f278 10 = (Value.int .i64 (k51 : Int)) := (hout282 10 rfl).trans hf69
            refine WL.val (Value.int .i64 (w64 (x52 + (w64 (x199 * x245))))) _ (op_add e287 e289) rfl ?_
            refine WL.val (Value.int .i64 (w64 (x52 + (w64 (x199 * x245))))) _ (op_assign rfl) rfl ?_
            refine WL.nil ?_
            show W _ _ _ _ _ _
            refine W.region ?_
            refine WL.val (Value.int .i64 (k51 : Int)) _ (op_move e297) rfl ?_
            refine WL.val (Value.int .i64 (w64 ((k51 : Int) + (1 : Int)))) _ (op_add rfl rfl) rfl ?_
            refine WL.val (Value.int .i64 (w64 ((k51 : Int) + (1 : Int)))) _ (op_assign rfl) rfl ?_
            refine WL.nil ?_
            obtain rfl := Option.some.inj hb57
            show ∃ s, _ = Ctl.next s ∧ _
            exact ⟨_, rfl, e291, e292, e293, e294, e295, e296, rfl, (inR_wrap _ _), (ctr_next hl73 hr72), (ctr_rng hl73 hr72), hS286⟩
        · intro x304 f299 wd300 hs301 hI302
          replace hI302 : f299 1 = (Value.int .i64 i) ∧ f299 2 = v_w1 ∧ f299 3 = (Value.pointer (some ⟨b1, 0, none⟩)) ∧ f299 6 = (Value.pointer (some ⟨b9, 0, none⟩)) ∧ f299 7 = (Value.pointer (some ⟨b13, 0, none⟩)) ∧ f299 8 = (Value.int .i64 (k21 : Int)) ∧ f299 9 = Value.int .i64 x304 ∧ InR .i64 x304 ∧ f299 10 = Value.int .i64 (((w1).length : Nat) : Int) ∧ InR .i64 (((w1).length : Nat) : Int) ∧ St wd2 wd300 [bx b9 [(Value.int .i64 (0 : Int)), (Value.int .i64 (0 : Int)), (Value.int .i64 (0 : Int)), (Value.int .i64 (0 : Int))], bx b13 [(Value.int .i64 x22), (Value.int .i64 x23), (Value.int .i64 x24), (Value.int .i64 x25)]] := hI302
          obtain ⟨hf305, hf306, hf307, hf308, hf309, hf310, hf311, hr312, hf313, hr314, hS315⟩ := hI302
          refine W.seq (W.seq (W.region ?_))
          refine WL.val (Value.int .i64 (((w1).length : Nat) : Int)) _ (op_move hf313) rfl ?_
          refine WL.val v_w1 _ (op_move hf306) rfl ?_
          have hr316 := inR_len (Ty.lift _ (Ext.trans hE7 hS315.ext) r_w1)
          refine WL.val (Value.int .i64 ((w1).length : Int)) _ (op_lenL sl_35 (Ty.lift _ (Ext.trans hE7 hS315.ext) r_w1) rfl) rfl ?_
          refine WL.val (Value.bool (decide ((((w1).length : Nat) : Int) < ((w1).length : Int)))) _ (op_lss rfl rfl) rfl ?_
          have hl317 : ¬ (((w1).length : Nat) : Int) < ((w1).length : Int) := by omega
          refine WL.nil ?_
          show W _ _ _ _ _ _
          refine W.condF (decide ((((w1).length : Nat) : Int) < ((w1).length : Int))) rfl (decide_eq_false hl317) ?_
          refine W.exit ?_
          show _ = _ ∧ _
          exact ⟨rfl, _, hs301, hf305, hf306, hf307, hf308, hf309, hf310, hf311, hr312, hS315⟩
      · rintro f318 wd319 ⟨x322, rfl, hq320⟩
        replace hb30 := onRes_fin hb30
        replace hq320 : f318 1 = (Value.int .i64 i) ∧ f318 2 = v_w1 ∧ f318 3 = (Value.pointer (some ⟨b1, 0, none⟩)) ∧ f318 6 = (Value.pointer (some ⟨b9, 0, none⟩)) ∧ f318 7 = (Value.pointer (some ⟨b13, 0, none⟩)) ∧ f318 8 = (Value.int .i64 (k21 : Int)) ∧ f318 9 = Value.int .i64 x322 ∧ InR .i64 x322 ∧ St wd2 wd319 [bx b9 [(Value.int .i64 (0 : Int)), (Value.int .i64 (0 : Int)), (Value.int .i64 (0 : Int)), (Value.int .i64 (0 : Int))], bx b13 [(Value.int .i64 x22), (Value.int .i64 x23), (Value.int .i64 x24), (Value.int .i64 x25)]] := hq320
        obtain ⟨hf323, hf324, hf325, hf326, hf327, hf328, hf329, hr330, hS331⟩ := hq320
        show W _ _ _ _ _ _
        refine W.seq (W.seq ?_)
        obtain ⟨x360, hj361, hb30⟩ := bs hb30
        refine W.cutCode (fun fq wq => fq 1 = (Value.int .i64 i) ∧ fq 2 = v_w1 ∧ fq 3 = (Value.pointer (some ⟨b1, 0, none⟩)) ∧ fq 6 = (Value.pointer (some ⟨b9, 0, none⟩)) ∧ fq 7 = (Value.pointer (some ⟨b13, 0, none⟩)) ∧ fq 8 = (Value.int .i64 (k21 : Int)) ∧ fq 9 = (Value.int .i64 x322) ∧ fq 57 = Value.bool x360 ∧ St wd2 wq [bx b9 [(Value.int .i64 (0 : Int)), (Value.int .i64 (0 : Int)), (Value.int .i64 (0 : Int)), (Value.int .i64 (0 : Int))], bx b13 [(Value.int .i64 x22), (Value.int .i64 x23), (Value.int .i64 x24), (Value.int .i64 x25)]]) ?_ ?_
        · rcases Bool.eq_false_or_eq_true ((k21 : Int) == (0 : Int)) with hc362 | hc362
          · replace hj361 := ip hj361 hc362
            refine W.drawR mixo 14 [] [fun _ v _ _ => v = (Value.int .i64 (k21 : Int)) ∧ InR .i64 (k21 : Int), fun _ v _ _ => v = (Value.bool ((k21 : Int) == (0 : Int))), fun _ v _ _ => v = (Value.bool ((k21 : Int) == (0 : Int))), fun _ v _ _ => v = undef, fun _ v _ _ => v = undef, fun _ v _ _ => v = undef, fun _ v _ _ => v = undef, fun _ v _ _ => v = undef, fun _ v _ _ => v = undef, fun _ v _ _ => v = undef, fun _ v _ _ => v = undef, fun _ v _ _ => v = undef, fun _ v _ _ => v = undef, fun _ v _ _ => v = undef] (by kernel_rfl) (by kernel_rfl) ⟨⟨fun _ _ _ _ _ _ h => h, fun _ _ _ _ _ _ h => h⟩, ⟨fun _ _ _ _ _ _ h => h, fun _ _ _ _ _ _ h => h⟩, ⟨fun _ _ _ _ _ _ h => h, fun _ _ _ _ _ _ h => h⟩, ⟨fun _ _ _ _ _ _ h => h, fun _ _ _ _ _ _ h => h⟩, ⟨fun _ _ _ _ _ _ h => h, fun _ _ _ _ _ _ h => h⟩, ⟨fun _ _ _ _ _ _ h => h, fun _ _ _ _ _ _ h => h⟩, ⟨fun _ _ _ _ _ _ h => h, fun _ _ _ _ _ _ h => h⟩, ⟨fun _ _ _ _ _ _ h => h, fun _ _ _ _ _ _ h => h⟩, ⟨fun _ _ _ _ _ _ h => h, fun _ _ _ _ _ _ h => h⟩, ⟨fun _ _ _ _ _ _ h => h, fun _ _ _ _ _ _ h => h⟩, ⟨fun _ _ _ _ _ _ h => h, fun _ _ _ _ _ _ h => h⟩, ⟨fun _ _ _ _ _ _ h => h, fun _ _ _ _ _ _ h => h⟩, ⟨fun _ _ _ _ _ _ h => h, fun _ _ _ _ _ _ h => h⟩, ⟨fun _ _ _ _ _ _ h => h, fun _ _ _ _ _ _ h => h⟩, trivial⟩ ⟨?_, ?_, ?_, ?_, ?_, ?_, ?_, ?_, ?_, ?_, ?_, ?_, ?_, ?_, trivial⟩ ?_
            · refine ObX.op rfl ?_
              intro f332 wd333 he334 hout335 hphi336
              have hS337 : St wd2 wd333 [bx b9 [(Value.int .i64 (0 : Int)), (Value.int .i64 (0 : Int)), (Value.int .i64 (0 : Int)), (Value.int .i64 (0 : Int))], bx b13 [(Value.int .i64 x22), (Value.int .i64 x23), (Value.int .i64 x24), (Value.int .i64 x25)]] := St.extend hS331 he334
              have e338 : f332 8 = (Value.int .i64 (k21 : Int)) := (hout335 8 rfl).trans hf328
              exact OpX.val (Value.int .i64 (k21 : Int)) wd333 rfl (op_move e338) (Ext.refl _) ⟨rfl, hr40⟩
            · refine ObX.op rfl ?_
              intro f339 wd340 he341 hout342 hphi343
              have hS344 : St wd2 wd340 [bx b9 [(Value.int .i64 (0 : Int)), (Value.int .i64 (0 : Int)), (Value.int .i64 (0 : Int)), (Value.int .i64 (0 : Int))], bx b13 [(Value.int .i64 x22), (Value.int .i64 x23), (Value.int .i64 x24), (Value.int .i64 x25)]] := St.extend hS331 he341
              obtain ⟨S345, hS346, hf347⟩ := hphi343 0 42 _ rfl rfl rfl
              obtain ⟨e348, hr349⟩ : f339 42 = (Value.int .i64 (k21 : Int)) ∧ InR .i64 (k21 : Int) := hf347
              exact OpX.val (Value.bool ((k21 : Int) == (0 : Int))) wd340 rfl (op_eql e348 rfl) (Ext.refl _) rfl
            · refine ObX.op rfl ?_
              intro f350 wd351 he352 hout353 hphi354
              have hS355 : St wd2 wd351 [bx b9 [(Value.int .i64 (0 : Int)), (Value.int .i64 (0 : Int)), (Value.int .i64 (0 : Int)), (Value.int .i64 (0 : Int))], bx b13 [(Value.int .i64 x22), (Value.int .i64 x23), (Value.int .i64 x24), (Value.int .i64 x25)]] := St.extend hS331 he352
              obtain ⟨S356, hS357, hf358⟩ := hphi354 1 43 _ rfl rfl rfl
              have e359 : f350 43 = (Value.bool ((k21 : Int) == (0 : Int))) := hf358
              exact OpX.val (Value.bool ((k21 : Int) == (0 : Int))) wd351 rfl (op_move e359) (Ext.refl _) rfl
            · refine ObX.op rfl ?_
              intro f363 wd364 he365 hout366 hphi367
              obtain ⟨S368, hS369, hf370⟩ := hphi367 2 44 _ rfl rfl rfl
              have e371 : f363 44 = (Value.bool ((k21 : Int) == (0 : Int))) := hf370
              exact OpX.skip (wanted_skip rfl rfl e371 hc362) rfl
            · refine ObX.op rfl ?_
              intro f372 wd373 he374 hout375 hphi376
              obtain ⟨S377, hS378, hf379⟩ := hphi376 2 44 _ rfl rfl rfl
              have e380 : f372 44 = (Value.bool ((k21 : Int) == (0 : Int))) := hf379
              exact OpX.skip (wanted_skip rfl rfl e380 hc362) rfl
            · refine ObX.op rfl ?_
              intro f381 wd382 he383 hout384 hphi385
              obtain ⟨S386, hS387, hf388⟩ := hphi385 2 44 _ rfl rfl rfl
              have e389 : f381 44 = (Value.bool ((k21 : Int) == (0 : Int))) := hf388
              exact OpX.skip (wanted_skip rfl rfl e389 hc362) rfl
            · refine ObX.op rfl ?_
              intro f390 wd391 he392 hout393 hphi394
              obtain ⟨S395, hS396, hf397⟩ := hphi394 2 44 _ rfl rfl rfl
              have e398 : f390 44 = (Value.bool ((k21 : Int) == (0 : Int))) := hf397
              exact OpX.skip (wanted_skip rfl rfl e398 hc362) rfl
            · refine ObX.op rfl ?_
              intro f399 wd400 he401 hout402 hphi403
              obtain ⟨S404, hS405, hf406⟩ := hphi403 2 44 _ rfl rfl rfl
              have e407 : f399 44 = (Value.bool ((k21 : Int) == (0 : Int))) := hf406
              exact OpX.skip (wanted_skip rfl rfl e407 hc362) rfl
            · refine ObX.op rfl ?_
              intro f408 wd409 he410 hout411 hphi412
              obtain ⟨S413, hS414, hf415⟩ := hphi412 2 44 _ rfl rfl rfl
              have e416 : f408 44 = (Value.bool ((k21 : Int) == (0 : Int))) := hf415
              exact OpX.skip (wanted_skip rfl rfl e416 hc362) rfl
            · refine ObX.op rfl ?_
              intro f417 wd418 he419 hout420 hphi421
              obtain ⟨S422, hS423, hf424⟩ := hphi421 2 44 _ rfl rfl rfl
              have e425 : f417 44 = (Value.bool ((k21 : Int) == (0 : Int))) := hf424
              exact OpX.skip (wanted_skip rfl rfl e425 hc362) rfl
            · refine ObX.op rfl ?_
              intro f426 wd427 he428 hout429 hphi430
              obtain ⟨S431, hS432, hf433⟩ := hphi430 2 44 _ rfl rfl rfl
              have e434 : f426 44 = (Value.bool ((k21 : Int) == (0 : Int))) := hf433
              exact OpX.skip (wanted_skip rfl rfl e434 hc362) rfl
            · refine ObX.op rfl ?_
              intro f435 wd436 he437 hout438 hphi439
              obtain ⟨S440, hS441, hf442⟩ := hphi439 2 44 _ rfl rfl rfl
              have e443 : f435 44 = (Value.bool ((k21 : Int) == (0 : Int))) := hf442
              exact OpX.skip (wanted_skip rfl rfl e443 hc362) rfl
            · refine ObX.op rfl ?_
              intro f444 wd445 he446 hout447 hphi448
              obtain ⟨S449, hS450, hf451⟩ := hphi448 2 44 _ rfl rfl rfl
              have e452 : f444 44 = (Value.bool ((k21 : Int) == (0 : Int))) := hf451
              exact OpX.skip (wanted_skip rfl rfl e452 hc362) rfl
            · refine ObX.op rfl ?_
              intro f453 wd454 he455 hout456 hphi457
              obtain ⟨S458, hS459, hf460⟩ := hphi457 2 44 _ rfl rfl rfl
              have e461 : f453 44 = (Value.bool ((k21 : Int) == (0 : Int))) := hf460
              exact OpX.skip (wanted_skip rfl rfl e461 hc362) rfl
            · intro f462 wd463 Ss464 he465 hout466 hSn467 hSd468 hphi469
              show WL _ _ _ _ _ _ _
              have hS470 : St wd2 wd463 [bx b9 [(Value.int .i64 (0 : Int)), (Value.int .i64 (0 : Int)), (Value.int .i64 (0 : Int)), (Value.int .i64 (0 : Int))], bx b13 [(Value.int .i64 x22), (Value.int .i64 x23), (Value.int .i64 x24), (Value.int .i64 x25)]] := St.extend hS331 he465
              have e471 : f462 44 = (Value.bool ((k21 : Int) == (0 : Int))) := hphi469 2 44 _ (by decide) rfl rfl
              have e472 : f462 45 = undef := hphi469 3 45 _ (by decide) rfl rfl
              have e473 : f462 46 = undef := hphi469 4 46 _ (by decide) rfl rfl
              have e474 : f462 47 = undef := hphi469 5 47 _ (by decide) rfl rfl
              have e475 : f462 48 = undef := hphi469 6 48 _ (by decide) rfl rfl
              have e476 : f462 49 = undef := hphi469 7 49 _ (by decide) rfl rfl
              have e477 : f462 50 = undef := hphi469 8 50 _ (by decide) rfl rfl
              have e478 : f462 51 = undef := hphi469 9 51 _ (by decide) rfl rfl
              have e479 : f462 52 = undef := hphi469 10 52 _ (by decide) rfl rfl
              have e480 : f462 53 = undef := hphi469 11 53 _ (by decide) rfl rfl
              have e481 : f462 54 = undef := hphi469 12 54 _ (by decide) rfl rfl
              have e482 : f462 55 = undef := hphi469 13 55 _ (by decide) rfl rfl
              have e483 : f462 1 = (Value.int .i64 i) := (hout466 1 rfl).trans hf323
              have e484 : f462 2 = v_w1 := (hout466 2 rfl).trans hf324
              have e485 : f462 3 = (Value.pointer (some ⟨b1, 0, none⟩)) := (hout466 3 rfl).trans hf325
              have e486 : f462 6 = (Value.pointer (some ⟨b9, 0, none⟩)) := (hout466 6 rfl).trans hf326
              have e487 : f462 7 = (Value.pointer (some ⟨b13, 0, none⟩)) := (hout466 7 rfl).trans hf327
              have e488 : f462 8 = (Value.int .i64 (k21 : Int)) := (hout466 8 rfl).trans hf328
              have e489 : f462 9 = (Value.int .i64 x322) := (hout466 9 rfl).trans hf329
              refine WL.gskip rfl (bool_of e471 hc362) rfl ?_
              refine WL.val (Value.bool true) _ (op_pick_t (evb_of e471 hc362) rfl) rfl ?_
              refine WL.nil ?_
              obtain rfl := Option.some.inj hj361
              exact ⟨e483, e484, e485, e486, e487, e488, e489, rfl, hS470⟩
          · replace hj361 := inegb hj361 hc362
            obtain ⟨x612, hx615, hj361⟩ := bs hj361
            obtain ⟨ha613, hb614, hx615⟩ := idx_some hx615
            obtain ⟨u630, hc631, hr632⟩ := repSl.el r_w1 hx615
            obtain ⟨rfl, hr632⟩ := hr632
            refine W.drawR mixo 14 [] [fun _ v _ _ => v = (Value.int .i64 (k21 : Int)) ∧ InR .i64 (k21 : Int), fun _ v _ _ => v = (Value.bool ((k21 : Int) == (0 : Int))), fun _ v _ _ => v = (Value.bool ((k21 : Int) == (0 : Int))), fun _ v _ _ => v = (Value.int .i64 x322) ∧ InR .i64 x322, fun _ v _ _ => v = (Value.pointer (some ⟨b13, 1, none⟩)), fun _ v _ _ => v = (Value.int .i64 x23) ∧ InR .i64 x23, fun _ v _ _ => v = (Value.int .i64 (w64 (x322 * x23))) ∧ InR .i64 (w64 (x322 * x23)), fun _ v _ _ => v = (Value.pointer (some ⟨b13, 0, none⟩)), fun _ v _ _ => v = (Value.int .i64 x22) ∧ InR .i64 x22, fun _ v _ _ => v = v_w1, fun _ v _ _ => v = (Value.int .i64 (k21 : Int)) ∧ InR .i64 (k21 : Int), fun _ v _ _ => v = (Value.pointer (some (elA v_w1 ((k21 : Int)).toNat))), fun _ v _ _ => v = (Value.int .i64 x612) ∧ InR .i64 x612, fun _ v _ _ => v = (Value.int .i64 (w64 (x22 * x612))) ∧ InR .i64 (w64 (x22 * x612))] (by kernel_rfl) (by kernel_rfl) ⟨⟨fun _ _ _ _ _ _ h => h, fun _ _ _ _ _ _ h => h⟩, ⟨fun _ _ _ _ _ _ h => h, fun _ _ _ _ _ _ h => h⟩, ⟨fun _ _ _ _ _ _ h => h, fun _ _ _ _ _ _ h => h⟩, ⟨fun _ _ _ _ _ _ h => h, fun _ _ _ _ _ _ h => h⟩, ⟨fun _ _ _ _ _ _ h => h, fun _ _ _ _ _ _ h => h⟩, ⟨fun _ _ _ _ _ _ h => h, fun _ _ _ _ _ _ h => h⟩, ⟨fun _ _ _ _ _ _ h => h, fun _ _ _ _ _ _ h => h⟩, ⟨fun _ _ _ _ _ _ h => h, fun _ _ _ _ _ _ h => h⟩, ⟨fun _ _ _ _ _ _ h => h, fun _ _ _ _ _ _ h => h⟩, ⟨fun _ _ _ _ _ _ h => h, fun _ _ _ _ _ _ h => h⟩, ⟨fun _ _ _ _ _ _ h => h, fun _ _ _ _ _ _ h => h⟩, ⟨fun _ _ _ _ _ _ h => h, fun _ _ _ _ _ _ h => h⟩, ⟨fun _ _ _ _ _ _ h => h, fun _ _ _ _ _ _ h => h⟩, ⟨fun _ _ _ _ _ _ h => h, fun _ _ _ _ _ _ h => h⟩, trivial⟩ ⟨?_, ?_, ?_, ?_, ?_, ?_, ?_, ?_, ?_, ?_, ?_, ?_, ?_, ?_, trivial⟩ ?_
            · refine ObX.op rfl ?_
              intro f332 wd333 he334 hout335 hphi336
              have hS337 : St wd2 wd333 [bx b9 [(Value.int .i64 (0 : Int)), (Value.int .i64 (0 : Int)), (Value.int .i64 (0 : Int)), (Value.int .i64 (0 : Int))], bx b13 [(Value.int .i64 x22), (Value.int .i64 x23), (Value.int .i64 x24), (Value.int .i64 x25)]] := St.extend hS331 he334
              have e338 : f332 8 = (Value.int .i64 (k21 : Int)) := (hout335 8 rfl).trans hf328
              exact OpX.val (Value.int .i64 (k21 : Int)) wd333 rfl (op_move e338) (Ext.refl _) ⟨rfl, hr40⟩
            · refine ObX.op rfl ?_
              intro f339 wd340 he341 hout342 hphi343
              have hS344 : St wd2 wd340 [bx b9 [(Value.int .i64 (0 : Int)), (Value.int .i64 (0 : Int)), (Value.int .i64 (0 : Int)), (Value.int .i64 (0 : Int))], bx b13 [(Value.int .i64 x22), (Value.int .i64 x23), (Value.int .i64 x24), (Value.int .i64 x25)]] := St.extend hS331 he341
              obtain ⟨S345, hS346, hf347⟩ := hphi343 0 42 _ rfl rfl rfl
              obtain ⟨e348, hr349⟩ : f339 42 = (Value.int .i64 (k21 : Int)) ∧ InR .i64 (k21 : Int) := hf347
              exact OpX.val (Value.bool ((k21 : Int) == (0 : Int))) wd340 rfl (op_eql e348 rfl) (Ext.refl _) rfl
            · refine ObX.op rfl ?_
              intro f350 wd351 he352 hout353 hphi354
              have hS355 : St wd2 wd351 [bx b9 [(Value.int .i64 (0 : Int)), (Value.int .i64 (0 : Int)), (Value.int .i64 (0 : Int)), (Value.int .i64 (0 : Int))], bx b13 [(Value.int .i64 x22), (Value.int .i64 x23), (Value.int .i64 x24), (Value.int .i64 x25)]] := St.extend hS331 he352
              obtain ⟨S356, hS357, hf358⟩ := hphi354 1 43 _ rfl rfl rfl
              have e359 : f350 43 = (Value.bool ((k21 : Int) == (0 : Int))) := hf358
              exact OpX.val (Value.bool ((k21 : Int) == (0 : Int))) wd351 rfl (op_move e359) (Ext.refl _) rfl
            · refine ObX.op rfl ?_
              intro f490 wd491 he492 hout493 hphi494
              have hS495 : St wd2 wd491 [bx b9 [(Value.int .i64 (0 : Int)), (Value.int .i64 (0 : Int)), (Value.int .i64 (0 : Int)), (Value.int .i64 (0 : Int))], bx b13 [(Value.int .i64 x22), (Value.int .i64 x23), (Value.int .i64 x24), (Value.int .i64 x25)]] := St.extend hS331 he492
              have e496 : f490 9 = (Value.int .i64 x322) := (hout493 9 rfl).trans hf329
              obtain ⟨S497, hS498, hf499⟩ := hphi494 2 44 _ rfl rfl rfl
              have e500 : f490 44 = (Value.bool ((k21 : Int) == (0 : Int))) := hf499
              exact OpX.val (Value.int .i64 x322) wd491 (wanted_run rfl rfl e500 hc362) (op_move e496) (Ext.refl _) ⟨rfl, hr330⟩
            · refine ObX.op rfl ?_
              intro f501 wd502 he503 hout504 hphi505
              have hS506 : St wd2 wd502 [bx b9 [(Value.int .i64 (0 : Int)), (Value.int .i64 (0 : Int)), (Value.int .i64 (0 : Int)), (Value.int .i64 (0 : Int))], bx b13 [(Value.int .i64 x22), (Value.int .i64 x23), (Value.int .i64 x24), (Value.int .i64 x25)]] := St.extend hS331 he503
              have e507 : f501 7 = (Value.pointer (some ⟨b13, 0, none⟩)) := (hout504 7 rfl).trans hf327
              obtain ⟨S508, hS509, hf510⟩ := hphi505 2 44 _ rfl rfl rfl
              have e511 : f501 44 = (Value.bool ((k21 : Int) == (0 : Int))) := hf510
              exact OpX.val (Value.pointer (some ⟨b13, 1, none⟩)) wd502 (wanted_run rfl rfl e511 hc362) (op_fieldAddr fd_42_1 e507) (Ext.refl _) rfl
            · refine ObX.op rfl ?_
              intro f512 wd513 he514 hout515 hphi516
              have hS517 : St wd2 wd513 [bx b9 [(Value.int .i64 (0 : Int)), (Value.int .i64 (0 : Int)), (Value.int .i64 (0 : Int)), (Value.int .i64 (0 : Int))], bx b13 [(Value.int .i64 x22), (Value.int .i64 x23), (Value.int .i64 x24), (Value.int .i64 x25)]] := St.extend hS331 he514
              obtain ⟨S518, hS519, hf520⟩ := hphi516 2 44 _ rfl rfl rfl
              have e521 : f512 44 = (Value.bool ((k21 : Int) == (0 : Int))) := hf520
              obtain ⟨S522, hS523, hf524⟩ := hphi516 4 46 _ rfl rfl rfl
              have e525 : f512 46 = (Value.pointer (some ⟨b13, 1, none⟩)) := hf524
              exact OpX.val (Value.int .i64 x23) wd513 (wanted_run rfl rfl e521 hc362) (op_load one_2 e525 (BoxAt.cell (St.boxAt hS517 1 rfl) rfl)) (Ext.refl _) ⟨rfl, hr42⟩
            · refine ObX.op rfl ?_
              intro f526 wd527 he528 hout529 hphi530
              have hS531 : St wd2 wd527 [bx b9 [(Value.int .i64 (0 : Int)), (Value.int .i64 (0 : Int)), (Value.int .i64 (0 : Int)), (Value.int .i64 (0 : Int))], bx b13 [(Value.int .i64 x22), (Value.int .i64 x23), (Value.int .i64 x24), (Value.int .i64 x25)]] := St.extend hS331 he528
              obtain ⟨S532, hS533, hf534⟩ := hphi530 2 44 _ rfl rfl rfl
              have e535 : f526 44 = (Value.bool ((k21 : Int) == (0 : Int))) := hf534
              obtain ⟨S536, hS537, hf538⟩ := hphi530 3 45 _ rfl rfl rfl
              obtain ⟨e539, hr540⟩ : f526 45 = (Value.int .i64 x322) ∧ InR .i64 x322 := hf538
              obtain ⟨S541, hS542, hf543⟩ := hphi530 5 47 _ rfl rfl rfl
              obtain ⟨e544, hr545⟩ : f526 47 = (Value.int .i64 x23) ∧ InR .i64 x23 := hf543
              exact OpX.val (Value.int .i64 (w64 (x322 * x23))) wd527 (wanted_run rfl rfl e535 hc362) (op_mul e539 e544) (Ext.refl _) ⟨rfl, (inR_wrap _ _)⟩
            · refine ObX.op rfl ?_
              intro f546 wd547 he548 hout549 hphi550
              have hS551 : St wd2 wd547 [bx b9 [(Value.int .i64 (0 : Int)), (Value.int .i64 (0 : Int)), (Value.int .i64 (0 : Int)), (Value.int .i64 (0 : Int))], bx b13 [(Value.int .i64 x22), (Value.int .i64 x23), (Value.int .i64 x24), (Value.int .i64 x25)]] := St.extend hS331 he548
              have e552 : f546 7 = (Value.pointer (some ⟨b13, 0, none⟩)) := (hout549 7 rfl).trans hf327
              obtain ⟨S553, hS554, hf555⟩ := hphi550 2 44 _ rfl rfl rfl
              have e556 : f546 44 = (Value.bool ((k21 : Int) == (0 : Int))) := hf555
              exact OpX.val (Value.pointer (some ⟨b13, 0, none⟩)) wd547 (wanted_run rfl rfl e556 hc362) (op_fieldAddr fd_42_0 e552) (Ext.refl _) rfl
            · refine ObX.op rfl ?_
              intro f557 wd558 he559 hout560 hphi561
              have hS562 : St wd2 wd558 [bx b9 [(Value.int .i64 (0 : Int)), (Value.int .i64 (0 : Int)), (Value.int .i64 (0 : Int)), (Value.int .i64 (0 : Int))], bx b13 [(Value.int .i64 x22), (Value.int .i64 x23), (Value.int .i64 x24), (Value.int .i64 x25)]] := St.extend hS331 he559
              obtain ⟨S563, hS564, hf565⟩ := hphi561 2 44 _ rfl rfl rfl
              have e566 : f557 44 = (Value.bool ((k21 : Int) == (0 : Int))) := hf565
              obtain ⟨S567, hS568, hf569⟩ := hphi561 7 49 _ rfl rfl rfl
              have e570 : f557 49 = (Value.pointer (some ⟨b13, 0, none⟩)) := hf569
              exact OpX.val (Value.int .i64 x22) wd558 (wanted_run rfl rfl e566 hc362) (op_load one_2 e570 (BoxAt.cell (St.boxAt hS562 1 rfl) rfl)) (Ext.refl _) ⟨rfl, hr41⟩
            · refine ObX.op rfl ?_
              intro f571 wd572 he573 hout574 hphi575
              have hS576 : St wd2 wd572 [bx b9 [(Value.int .i64 (0 : Int)), (Value.int .i64 (0 : Int)), (Value.int .i64 (0 : Int)), (Value.int .i64 (0 : Int))], bx b13 [(Value.int .i64 x22), (Value.int .i64 x23), (Value.int .i64 x24), (Value.int .i64 x25)]] := St.extend hS331 he573
              have e577 : f571 2 = v_w1 := (hout574 2 rfl).trans hf324
              obtain ⟨S578, hS579, hf580⟩ := hphi575 2 44 _ rfl rfl rfl
              have e581 : f571 44 = (Value.bool ((k21 : Int) == (0 : Int))) := hf580
              exact OpX.val v_w1 wd572 (wanted_run rfl rfl e581 hc362) (op_move e577) (Ext.refl _) rfl
            · refine ObX.op rfl ?_
              intro f582 wd583 he584 hout585 hphi586
              have hS587 : St wd2 wd583 [bx b9 [(Value.int .i64 (0 : Int)), (Value.int .i64 (0 : Int)), (Value.int .i64 (0 : Int)), (Value.int .i64 (0 : Int))], bx b13 [(Value.int .i64 x22), (Value.int .i64 x23), (Value.int .i64 x24), (Value.int .i64 x25)]] := St.extend hS331 he584
              have e588 : f582 8 = (Value.int .i64 (k21 : Int)) := (hout585 8 rfl).trans hf328
              obtain ⟨S589, hS590, hf591⟩ := hphi586 2 44 _ rfl rfl rfl
              have e592 : f582 44 = (Value.bool ((k21 : Int) == (0 : Int))) := hf591
              exact OpX.val (Value.int .i64 (k21 : Int)) wd583 (wanted_run rfl rfl e592 hc362) (op_move e588) (Ext.refl _) ⟨rfl, hr40⟩
            · refine ObX.op rfl ?_
              intro f593 wd594 he595 hout596 hphi597
              have hS598 : St wd2 wd594 [bx b9 [(Value.int .i64 (0 : Int)), (Value.int .i64 (0 : Int)), (Value.int .i64 (0 : Int)), (Value.int .i64 (0 : Int))], bx b13 [(Value.int .i64 x22), (Value.int .i64 x23), (Value.int .i64 x24), (Value.int .i64 x25)]] := St.extend hS331 he595
              obtain ⟨S599, hS600, hf601⟩ := hphi597 2 44 _ rfl rfl rfl
              have e602 : f593 44 = (Value.bool ((k21 : Int) == (0 : Int))) := hf601
              obtain ⟨S603, hS604, hf605⟩ := hphi597 9 51 _ rfl rfl rfl
              have e606 : f593 51 = v_w1 := hf605
              obtain ⟨S607, hS608, hf609⟩ := hphi597 10 52 _ rfl rfl rfl
              obtain ⟨e610, hr611⟩ : f593 52 = (Value.int .i64 (k21 : Int)) ∧ InR .i64 (k21 : Int) := hf609
              exact OpX.val (Value.pointer (some (elA v_w1 ((k21 : Int)).toNat))) wd594 (wanted_run rfl rfl e602 hc362) (op_idx sl_35 (Ty.lift _ (Ext.trans hE7 hS598.ext) r_w1) e606 e610 ha613 hb614) (Ext.refl _) rfl
            · refine ObX.op rfl ?_
              intro f616 wd617 he618 hout619 hphi620
              have hS621 : St wd2 wd617 [bx b9 [(Value.int .i64 (0 : Int)), (Value.int .i64 (0 : Int)), (Value.int .i64 (0 : Int)), (Value.int .i64 (0 : Int))], bx b13 [(Value.int .i64 x22), (Value.int .i64 x23), (Value.int .i64 x24), (Value.int .i64 x25)]] := St.extend hS331 he618
              obtain ⟨S622, hS623, hf624⟩ := hphi620 2 44 _ rfl rfl rfl
              have e625 : f616 44 = (Value.bool ((k21 : Int) == (0 : Int))) := hf624
              obtain ⟨S626, hS627, hf628⟩ := hphi620 11 53 _ rfl rfl rfl
              have e629 : f616 53 = (Value.pointer (some (elA v_w1 ((k21 : Int)).toNat))) := hf628
              exact OpX.val (Value.int .i64 x612) wd617 (wanted_run rfl rfl e625 hc362) (op_load one_2 e629 (Ext.cell (Ext.trans hE7 hS621.ext) hc631)) (Ext.refl _) ⟨rfl, hr632⟩
            · refine ObX.op rfl ?_
              intro f633 wd634 he635 hout636 hphi637
              have hS638 : St wd2 wd634 [bx b9 [(Value.int .i64 (0 : Int)), (Value.int .i64 (0 : Int)), (Value.int .i64 (0 : Int)), (Value.int .i64 (0 : Int))], bx b13 [(Value.int .i64 x22), (Value.int .i64 x23), (Value.int .i64 x24), (Value.int .i64 x25)]] := St.extend hS331 he635
              obtain ⟨S639, hS640, hf641⟩ := hphi637 2 44 _ rfl rfl rfl
              have e642 : f633 44 = (Value.bool ((k21 : Int) == (0 : Int))) := hf641
              obtain ⟨S643, hS644, hf645⟩ := hphi637 8 50 _ rfl rfl rfl
              obtain ⟨e646, hr647⟩ : f633 50 = (Value.int .i64 x22) ∧ InR .i64 x22 := hf645
              obtain ⟨S648, hS649, hf650⟩ := hphi637 12 54 _ rfl rfl rfl
              obtain ⟨e651, hr652⟩ : f633 54 = (Value.int .i64 x612) ∧ InR .i64 x612 := hf650
              exact OpX.val (Value.int .i64 (w64 (x22 * x612))) wd634 (wanted_run rfl rfl e642 hc362) (op_mul e646 e651) (Ext.refl _) ⟨rfl, (inR_wrap _ _)⟩
            · intro f653 wd654 Ss655 he656 hout657 hSn658 hSd659 hphi660
              show WL _ _ _ _ _ _ _
              have hS661 : St wd2 wd654 [bx b9 [(Value.int .i64 (0 : Int)), (Value.int .i64 (0 : Int)), (Value.int .i64 (0 : Int)), (Value.int .i64 (0 : Int))], bx b13 [(Value.int .i64 x22), (Value.int .i64 x23), (Value.int .i64 x24), (Value.int .i64 x25)]] := St.extend hS331 he656
              have e662 : f653 44 = (Value.bool ((k21 : Int) == (0 : Int))) := hphi660 2 44 _ (by decide) rfl rfl
              obtain ⟨e663, hr664⟩ : f653 45 = (Value.int .i64 x322) ∧ InR .i64 x322 := hphi660 3 45 _ (by decide) rfl rfl
              have e665 : f653 46 = (Value.pointer (some ⟨b13, 1, none⟩)) := hphi660 4 46 _ (by decide) rfl rfl
              obtain ⟨e666, hr667⟩ : f653 47 = (Value.int .i64 x23) ∧ InR .i64 x23 := hphi660 5 47 _ (by decide) rfl rfl
              obtain ⟨e668, hr669⟩ : f653 48 = (Value.int .i64 (w64 (x322 * x23))) ∧ InR .i64 (w64 (x322 * x23)) := hphi660 6 48 _ (by decide) rfl rfl
              have e670 : f653 49 = (Value.pointer (some ⟨b13, 0, none⟩)) := hphi660 7 49 _ (by decide) rfl rfl
              obtain ⟨e671, hr672⟩ : f653 50 = (Value.int .i64 x22) ∧ InR .i64 x22 := hphi660 8 50 _ (by decide) rfl rfl
              have e673 : f653 51 = v_w1 := hphi660 9 51 _ (by decide) rfl rfl
              obtain ⟨e674, hr675⟩ : f653 52 = (Value.int .i64 (k21 : Int)) ∧ InR .i64 (k21 : Int) := hphi660 10 52 _ (by decide) rfl rfl
              have e676 : f653 53 = (Value.pointer (some (elA v_w1 ((k21 : Int)).toNat))) := hphi660 11 53 _ (by decide) rfl rfl
              obtain ⟨e677, hr678⟩ : f653 54 = (Value.int .i64 x612) ∧ InR .i64 x612 := hphi660 12 54 _ (by decide) rfl rfl
              obtain ⟨e679, hr680⟩ : f653 55 = (Value.int .i64 (w64 (x22 * x612))) ∧ InR .i64 (w64 (x22 * x612)) := hphi660 13 55 _ (by decide) rfl rfl
              have e681 : f653 1 = (Value.int .i64 i) := (hout657 1 rfl).trans hf323
              have e682 : f653 2 = v_w1 := (hout657 2 rfl).trans hf324
              have e683 : f653 3 = (Value.pointer (some ⟨b1, 0, none⟩)) := (hout657 3 rfl).trans hf325
              have e684 : f653 6 = (Value.pointer (some ⟨b9, 0, none⟩)) := (hout657 6 rfl).trans hf326
              have e685 : f653 7 = (Value.pointer (some ⟨b13, 0, none⟩)) := (hout657 7 rfl).trans hf327
              have e686 : f653 8 = (Value.int .i64 (k21 : Int)) := (hout657 8 rfl).trans hf328
              have e687 : f653 9 = (Value.int .i64 x322) := (hout657 9 rfl).trans hf329
              refine WL.grun rfl (bool_of e662 hc362) ?_
              refine WL.val (Value.bool (decide ((w64 (x322 * x23)) < (w64 (x22 * x612))))) _ (op_lss e668 e679) rfl ?_
              refine WL.val (Value.bool (decide ((w64 (x322 * x23)) < (w64 (x22 * x612))))) _ (op_pick_f (evb_of e662 hc362) rfl) rfl ?_
              refine WL.nil ?_
              obtain rfl := Option.some.inj hj361
              exact ⟨e681, e682, e683, e684, e685, e686, e687, rfl, hS661⟩
        · intro f688 wd689 hq690
          obtain ⟨hf691, hf692, hf693, hf694, hf695, hf696, hf697, hf698, hS699⟩ := hq690
          show W _ _ _ _ _ _
          obtain ⟨⟨x700, x701⟩, hj702, hb30⟩ := bs hb30
          refine W.cutCode (fun fq wq => fq 1 = (Value.int .i64 i) ∧ fq 2 = v_w1 ∧ fq 3 = (Value.pointer (some ⟨b1, 0, none⟩)) ∧ fq 6 = (Value.pointer (some ⟨b9, 0, none⟩)) ∧ fq 7 = (Value.pointer (some ⟨b13, 0, none⟩)) ∧ fq 8 = (Value.int .i64 (k21 : Int)) ∧ fq 9 = (Value.int .i64 x322) ∧ InR .i64 x700 ∧ InR .i64 x701 ∧ St wd2 wq [bx b9 [(Value.int .i64 (0 : Int)), (Value.int .i64 (0 : Int)), (Value.int .i64 (0 : Int)), (Value.int .i64 (0 : Int))], bx b13 [(Value.int .i64 x700), (Value.int .i64 x701), (Value.int .i64 x24), (Value.int .i64 x25)]]) ?_ ?_
          · refine W.cond x360 hf698 (fun hc703 => ?_) (fun hc703 => ?_)
            · replace hj702 := ip hj702 hc703
              refine W.seq (W.region ?_)
              refine WL.val (Value.int .i64 x322) _ (op_move hf697) rfl ?_
              refine WL.val (Value.pointer (some ⟨b13, 0, none⟩)) _ (op_fieldAddr fd_42_0 hf695) rfl ?_
              refine WL.storeBox [(Value.int .i64 x322), (Value.int .i64 x23), (Value.int .i64 x24), (Value.int .i64 x25)] hS699 (k := 1) rfl rfl rfl (us := [(Value.int .i64 x322)]) rfl sz_2 rfl rfl (all_cons rfl all_nil) rfl ?_
              intro wd704 hS705
              replace hS705 : St wd2 wd704 [bx b9 [(Value.int .i64 (0 : Int)), (Value.int .i64 (0 : Int)), (Value.int .i64 (0 : Int)), (Value.int .i64 (0 : Int))], bx b13 [(Value.int .i64 x322), (Value.int .i64 x23), (Value.int .i64 x24), (Value.int .i64 x25)]] := hS705
              refine WL.nil ?_
              show W _ _ _ _ _ _
              refine W.region ?_
              refine WL.val v_w1 _ (op_move hf692) rfl ?_
              refine WL.val (Value.int .i64 (k21 : Int)) _ (op_move hf696) rfl ?_
              obtain ⟨x706, hx709, hj702⟩ := bs hj702
              obtain ⟨ha707, hb708, hx709⟩ := idx_some hx709
              refine WL.val (Value.pointer (some (elA v_w1 ((k21 : Int)).toNat))) _ (op_idx sl_35 (Ty.lift _ (Ext.trans hE7 hS705.ext) r_w1) rfl rfl ha707 hb708) rfl ?_
              obtain ⟨u710, hc711, hr712⟩ := repSl.el r_w1 hx709
              obtain ⟨rfl, hr712⟩ := hr712
              refine WL.val (Value.int .i64 x706) _ (op_load one_2 rfl (Ext.cell (Ext.trans hE7 hS705.ext) hc711)) rfl ?_
              refine WL.val (Value.pointer (some ⟨b13, 1, none⟩)) _ (op_fieldAddr fd_42_1 hf695) rfl ?_
              refine WL.storeBox [(Value.int .i64 x322), (Value.int .i64 x706), (Value.int .i64 x24), (Value.int .i64 x25)] hS705 (k := 1) rfl rfl rfl (us := [(Value.int .i64 x706)]) rfl sz_2 rfl rfl (all_cons rfl all_nil) rfl ?_
              intro wd713 hS714
              replace hS714 : St wd2 wd713 [bx b9 [(Value.int .i64 (0 : Int)), (Value.int .i64 (0 : Int)), (Value.int .i64 (0 : Int)), (Value.int .i64 (0 : Int))], bx b13 [(Value.int .i64 x322), (Value.int .i64 x706), (Value.int .i64 x24), (Value.int .i64 x25)]] := hS714
              refine WL.nil ?_
              simp only [Option.some.injEq, Prod.mk.injEq] at hj702
              obtain ⟨rfl, rfl⟩ := hj702
              exact ⟨hf691, hf692, hf693, hf694, hf695, hf696, hf697, hr330, hr712, hS714⟩
            · replace hj702 := inegb hj702 hc703
              refine W.skip ?_
              simp only [Option.some.injEq, Prod.mk.injEq] at hj702
              obtain ⟨rfl, rfl⟩ := hj702
              exact ⟨hf691, hf692, hf693, hf694, hf695, hf696, hf697, hr41, hr42, hS699⟩
          · intro f715 wd716 hq717
            obtain ⟨hf718, hf719, hf720, hf721, hf722, hf723, hf724, hr725, hr726, hS727⟩ := hq717
            show W _ _ _ _ _ _
            refine W.seq ?_
            obtain ⟨x756, hj757, hb30⟩ := bs hb30
            refine W.cutCode (fun fq wq => fq 1 = (Value.int .i64 i) ∧ fq 2 = v_w1 ∧ fq 3 = (Value.pointer (some ⟨b1, 0, none⟩)) ∧ fq 6 = (Value.pointer (some ⟨b9, 0, none⟩)) ∧ fq 7 = (Value.pointer (some ⟨b13, 0, none⟩)) ∧ fq 8 = (Value.int .i64 (k21 : Int)) ∧ fq 9 = (Value.int .i64 x322) ∧ fq 80 = Value.bool x756 ∧ St wd2 wq [bx b9 [(Value.int .i64 (0 : Int)), (Value.int .i64 (0 : Int)), (Value.int .i64 (0 : Int)), (Value.int .i64 (0 : Int))], bx b13 [(Value.int .i64 x700), (Value.int .i64 x701), (Value.int .i64 x24), (Value.int .i64 x25)]]) ?_ ?_
            · rcases Bool.eq_false_or_eq_true ((k21 : Int) == (0 : Int)) with hc758 | hc758
              · replace hj757 := ip hj757 hc758
                refine W.drawR mixo 14 [] [fun _ v _ _ => v = (Value.int .i64 (k21 : Int)) ∧ InR .i64 (k21 : Int), fun _ v _ _ => v = (Value.bool ((k21 : Int) == (0 : Int))), fun _ v _ _ => v = (Value.bool ((k21 : Int) == (0 : Int))), fun _ v _ _ => v = undef, fun _ v _ _ => v = undef, fun _ v _ _ => v = undef, fun _ v _ _ => v = undef, fun _ v _ _ => v = undef, fun _ v _ _ => v = undef, fun _ v _ _ => v = undef, fun _ v _ _ => v = undef, fun _ v _ _ => v = undef, fun _ v _ _ => v = undef, fun _ v _ _ => v = undef] (by kernel_rfl) (by kernel_rfl) ⟨⟨fun _ _ _ _ _ _ h => h, fun _ _ _ _ _ _ h => h⟩, ⟨fun _ _ _ _ _ _ h => h, fun _ _ _ _ _ _ h => h⟩, ⟨fun _ _ _ _ _ _ h => h, fun _ _ _ _ _ _ h => h⟩, ⟨fun _ _ _ _ _ _ h => h, fun _ _ _ _ _ _ h => h⟩, ⟨fun _ _ _ _ _ _ h => h, fun _ _ _ _ _ _ h => h⟩, ⟨fun _ _ _ _ _ _ h => h, fun _ _ _ _ _ _ h => h⟩, ⟨fun _ _ _ _ _ _ h => h, fun _ _ _ _ _ _ h => h⟩, ⟨fun _ _ _ _ _ _ h => h, fun _ _ _ _ _ _ h => h⟩, ⟨fun _ _ _ _ _ _ h => h, fun _ _ _ _ _ _ h => h⟩, ⟨fun _ _ _ _ _ _ h => h, fun _ _ _ _ _ _ h => h⟩, ⟨fun _ _ _ _ _ _ h => h, fun _ _ _ _ _ _ h => h⟩, ⟨fun _ _ _ _ _ _ h => h, fun _ _ _ _ _ _ h => h⟩, ⟨fun _ _ _ _ _ _ h => h, fun _ _ _ _ _ _ h => h⟩, ⟨fun _ _ _ _ _ _ h => h, fun _ _ _ _ _ _ h => h⟩, trivial⟩ ⟨?_, ?_, ?_, ?_, ?_, ?_, ?_, ?_, ?_, ?_, ?_, ?_, ?_, ?_, trivial⟩ ?_
                · refine ObX.op rfl ?_
                  intro f728 wd729 he730 hout731 hphi732
                  have hS733 : St wd2 wd729 [bx b9 [(Value.int .i64 (0 : Int)), (Value.int .i64 (0 : Int)), (Value.int .i64 (0 : Int)), (Value.int .i64 (0 : Int))], bx b13 [(Value.int .i64 x700), (Value.int .i64 x701), (Value.int .i64 x24), (Value.int .i64 x25)]] := St.extend hS727 he730
                  have e734 : f728 8 = (Value.int .i64 (k21 : Int)) := (hout731 8 rfl).trans hf723
                  exact OpX.val (Value.int .i64 (k21 : Int)) wd729 rfl (op_move e734) (Ext.refl _) ⟨rfl, hr40⟩
                · refine ObX.op rfl ?_
                  intro f735 wd736 he737 hout738 hphi739
                  have hS740 : St wd2 wd736 [bx b9 [(Value.int .i64 (0 : Int)), (Value.int .i64 (0 : Int)), (Value.int .i64 (0 : Int)), (Value.int .i64 (0 : Int))], bx b13 [(Value.int .i64 x700), (Value.int .i64 x701), (Value.int .i64 x24), (Value.int .i64 x25)]] := St.extend hS727 he737
                  obtain ⟨S741, hS742, hf743⟩ := hphi739 0 65 _ rfl rfl rfl
                  obtain ⟨e744, hr745⟩ : f735 65 = (Value.int .i64 (k21 : Int)) ∧ InR .i64 (k21 : Int) := hf743
                  exact OpX.val (Value.bool ((k21 : Int) == (0 : Int))) wd736 rfl (op_eql e744 rfl) (Ext.refl _) rfl
                · refine ObX.op rfl ?_
                  intro f746 wd747 he748 hout749 hphi750
                  have hS751 : St wd2 wd747 [bx b9 [(Value.int .i64 (0 : Int)), (Value.int .i64 (0 : Int)), (Value.int .i64 (0 : Int)), (Value.int .i64 (0 : Int))], bx b13 [(Value.int .i64 x700), (Value.int .i64 x701), (Value.int .i64 x24), (Value.int .i64 x25)]] := St.extend hS727 he748
                  obtain ⟨S752, hS753, hf754⟩ := hphi750 1 66 _ rfl rfl rfl
                  have e755 : f746 66 = (Value.bool ((k21 : Int) == (0 : Int))) := hf754
                  exact OpX.val (Value.bool ((k21 : Int) == (0 : Int))) wd747 rfl (op_move e755) (Ext.refl _) rfl
                · refine ObX.op rfl ?_
                  intro f759 wd760 he761 hout762 hphi763
                  obtain ⟨S764, hS765, hf766⟩ := hphi763 2 67 _ rfl rfl rfl
                  have e767 : f759 67 = (Value.bool ((k21 : Int) == (0 : Int))) := hf766
                  exact OpX.skip (wanted_skip rfl rfl e767 hc758) rfl
                · refine ObX.op rfl ?_
                  intro f768 wd769 he770 hout771 hphi772
                  obtain ⟨S773, hS774, hf775⟩ := hphi772 2 67 _ rfl rfl rfl
                  have e776 : f768 67 = (Value.bool ((k21 : Int) == (0 : Int))) := hf775
                  exact OpX.skip (wanted_skip rfl rfl e776 hc758) rfl
                · refine ObX.op rfl ?_
                  intro f777 wd778 he779 hout780 hphi781
                  obtain ⟨S782, hS783, hf784⟩ := hphi781 2 67 _ rfl rfl rfl
                  have e785 : f777 67 = (Value.bool ((k21 : Int) == (0 : Int))) := hf784
                  exact OpX.skip (wanted_skip rfl rfl e785 hc758) rfl
                · refine ObX.op rfl ?_
                  intro f786 wd787 he788 hout789 hphi790
                  obtain ⟨S791, hS792, hf793⟩ := hphi790 2 67 _ rfl rfl rfl
                  have e794 : f786 67 = (Value.bool ((k21 : Int) == (0 : Int))) := hf793
                  exact OpX.skip (wanted_skip rfl rfl e794 hc758) rfl
                · refine ObX.op rfl ?_
                  intro f795 wd796 he797 hout798 hphi799
                  obtain ⟨S800, hS801, hf802⟩ := hphi799 2 67 _ rfl rfl rfl
                  have e803 : f795 67 = (Value.bool ((k21 : Int) == (0 : Int))) := hf802
                  exact OpX.skip (wanted_skip rfl rfl e803 hc758) rfl
                · refine ObX.op rfl ?_
                  intro f804 wd805 he806 hout807 hphi808
                  obtain ⟨S809, hS810, hf811⟩ := hphi808 2 67 _ rfl rfl rfl
                  have e812 : f804 67 = (Value.bool ((k21 : Int) == (0 : Int))) := hf811
                  exact OpX.skip (wanted_skip rfl rfl e812 hc758) rfl
                · refine ObX.op rfl ?_
                  intro f813 wd814 he815 hout816 hphi817
                  obtain ⟨S818, hS819, hf820⟩ := hphi817 2 67 _ rfl rfl rfl
                  have e821 : f813 67 = (Value.bool ((k21 : Int) == (0 : Int))) := hf820
                  exact OpX.skip (wanted_skip rfl rfl e821 hc758) rfl
                · refine ObX.op rfl ?_
                  intro f822 wd823 he824 hout825 hphi826
                  obtain ⟨S827, hS828, hf829⟩ := hphi826 2 67 _ rfl rfl rfl
                  have e830 : f822 67 = (Value.bool ((k21 : Int) == (0 : Int))) := hf829
                  exact OpX.skip (wanted_skip rfl rfl e830 hc758) rfl
                · refine ObX.op rfl ?_
                  intro f831 wd832 he833 hout834 hphi835
                  obtain ⟨S836, hS837, hf838⟩ := hphi835 2 67 _ rfl rfl rfl
                  have e839 : f831 67 = (Value.bool ((k21 : Int) == (0 : Int))) := hf838
                  exact OpX.skip (wanted_skip rfl rfl e839 hc758) rfl
                · refine ObX.op rfl ?_
                  intro f840 wd841 he842 hout843 hphi844
                  obtain ⟨S845, hS846, hf847⟩ := hphi844 2 67 _ rfl rfl rfl
                  have e848 : f840 67 = (Value.bool ((k21 : Int) == (0 : Int))) := hf847
                  exact OpX.skip (wanted_skip rfl rfl e848 hc758) rfl
                · refine ObX.op rfl ?_
                  intro f849 wd850 he851 hout852 hphi853
                  obtain ⟨S854, hS855, hf856⟩ := hphi853 2 67 _ rfl rfl rfl
                  have e857 : f849 67 = (Value.bool ((k21 : Int) == (0 : Int))) := hf856
                  exact OpX.skip (wanted_skip rfl rfl e857 hc758) rfl
                · intro f858 wd859 Ss860 he861 hout862 hSn863 hSd864 hphi865
                  show WL _ _ _ _ _ _ _
                  have hS866 : St wd2 wd859 [bx b9 [(Value.int .i64 (0 : Int)), (Value.int .i64 (0 : Int)), (Value.int .i64 (0 : Int)), (Value.int .i64 (0 : Int))], bx b13 [(Value.int .i64 x700), (Value.int .i64 x701), (Value.int .i64 x24), (Value.int .i64 x25)]] := St.extend hS727 he861
                  have e867 : f858 67 = (Value.bool ((k21 : Int) == (0 : Int))) := hphi865 2 67 _ (by decide) rfl rfl
                  have e868 : f858 68 = undef := hphi865 3 68 _ (by decide) rfl rfl
                  have e869 : f858 69 = undef := hphi865 4 69 _ (by decide) rfl rfl
                  have e870 : f858 70 = undef := hphi865 5 70 _ (by decide) rfl rfl
                  have e871 : f858 71 = undef := hphi865 6 71 _ (by decide) rfl rfl
                  have e872 : f858 72 = undef := hphi865 7 72 _ (by decide) rfl rfl
                  have e873 : f858 73 = undef := hphi865 8 73 _ (by decide) rfl rfl
                  have e874 : f858 74 = undef := hphi865 9 74 _ (by decide) rfl rfl
                  have e875 : f858 75 = undef := hphi865 10 75 _ (by decide) rfl rfl
                  have e876 : f858 76 = undef := hphi865 11 76 _ (by decide) rfl rfl
                  have e877 : f858 77 = undef := hphi865 12 77 _ (by decide) rfl rfl
                  have e878 : f858 78 = undef := hphi865 13 78 _ (by decide) rfl rfl
                  have e879 : f858 1 = (Value.int .i64 i) := (hout862 1 rfl).trans hf718
                  have e880 : f858 2 = v_w1 := (hout862 2 rfl).trans hf719
                  have e881 : f858 3 = (Value.pointer (some ⟨b1, 0, none⟩)) := (hout862 3 rfl).trans hf720
                  have e882 : f858 6 = (Value.pointer (some ⟨b9, 0, none⟩)) := (hout862 6 rfl).trans hf721
                  have e883 : f858 7 = (Value.pointer (some ⟨b13, 0, none⟩)) := (hout862 7 rfl).trans hf722
                  have e884 : f858 8 = (Value.int .i64 (k21 : Int)) := (hout862 8 rfl).trans hf723
                  have e885 : f858 9 = (Value.int .i64 x322) := (hout862 9 rfl).trans hf724
                  refine WL.gskip rfl (bool_of e867 hc758) rfl ?_
                  refine WL.val (Value.bool true) _ (op_pick_t (evb_of e867 hc758) rfl) rfl ?_
                  refine WL.nil ?_
                  obtain rfl := Option.some.inj hj757
                  exact ⟨e879, e880, e881, e882, e883, e884, e885, rfl, hS866⟩
              · replace hj757 := inegb hj757 hc758
                obtain ⟨x1008, hx1011, hj757⟩ := bs hj757
                obtain ⟨ha1009, hb1010, hx1011⟩ := idx_some hx1011
                obtain ⟨u1026, hc1027, hr1028⟩ := repSl.el r_w1 hx1011
                obtain ⟨rfl, hr1028⟩ := hr1028
                refine W.drawR mixo 14 [] [fun _ v _ _ => v = (Value.int .i64 (k21 : Int)) ∧ InR .i64 (k21 : Int), fun _ v _ _ => v = (Value.bool ((k21 : Int) == (0 : Int))), fun _ v _ _ => v = (Value.bool ((k21 : Int) == (0 : Int))), fun _ v _ _ => v = (Value.int .i64 x322) ∧ InR .i64 x322, fun _ v _ _ => v = (Value.pointer (some ⟨b13, 3, none⟩)), fun _ v _ _ => v = (Value.int .i64 x25) ∧ InR .i64 x25, fun _ v _ _ => v = (Value.int .i64 (w64 (x322 * x25))) ∧ InR .i64 (w64 (x322 * x25)), fun _ v _ _ => v = (Value.pointer (some ⟨b13, 2, none⟩)), fun _ v _ _ => v = (Value.int .i64 x24) ∧ InR .i64 x24, fun _ v _ _ => v = v_w1, fun _ v _ _ => v = (Value.int .i64 (k21 : Int)) ∧ InR .i64 (k21 : Int), fun _ v _ _ => v = (Value.pointer (some (elA v_w1 ((k21 : Int)).toNat))), fun _ v _ _ => v = (Value.int .i64 x1008) ∧ InR .i64 x1008, fun _ v _ _ => v = (Value.int .i64 (w64 (x24 * x1008))) ∧ InR .i64 (w64 (x24 * x1008))] (by kernel_rfl) (by kernel_rfl) ⟨⟨fun _ _ _ _ _ _ h => h, fun _ _ _ _ _ _ h => h⟩, ⟨fun _ _ _ _ _ _ h => h, fun _ _ _ _ _ _ h => h⟩, ⟨fun _ _ _ _ _ _ h => h, fun _ _ _ _ _ _ h => h⟩, ⟨fun _ _ _ _ _ _ h => h, fun _ _ _ _ _ _ h => h⟩, ⟨fun _ _ _ _ _ _ h => h, fun _ _ _ _ _ _ h => h⟩, ⟨fun _ _ _ _ _ _ h => h, fun _ _ _ _ _ _ h => h⟩, ⟨fun _ _ _ _ _ _ h => h, fun _ _ _ _ _ _ h => h⟩, ⟨fun _ _ _ _ _ _ h => h, fun _ _ _ _ _ _ h => h⟩, ⟨fun _ _ _ _ _ _ h => h, fun _ _ _ _ _ _ h => h⟩, ⟨fun _ _ _ _ _ _ h => h, fun _ _ _ _ _ _ h => h⟩, ⟨fun _ _ _ _ _ _ h => h, fun _ _ _ _ _ _ h => h⟩, ⟨fun _ _ _ _ _ _ h => h, fun _ _ _ _ _ _ h => h⟩, ⟨fun _ _ _ _ _ _ h => h, fun _ _ _ _ _ _ h => h⟩, ⟨fun _ _ _ _ _ _ h => h, fun _ _ _ _ _ _ h => h⟩, trivial⟩ ⟨?_, ?_, ?_, ?_, ?_, ?_, ?_, ?_, ?_, ?_, ?_, ?_, ?_, ?_, trivial⟩ ?_
                · refine ObX.op rfl ?_
                  intro f728 wd729 he730 hout731 hphi732
                  have hS733 : St wd2 wd729 [bx b9 [(Value.int .i64 (0 : Int)), (Value.int .i64 (0 : Int)), (Value.int .i64 (0 : Int)), (Value.int .i64 (0 : Int))], bx b13 [(Value.int .i64 x700), (Value.int .i64 x701), (Value.int .i64 x24), (Value.int .i64 x25)]] := St.extend hS727 he730
                  have e734 : f728 8 = (Value.int .i64 (k21 : Int)) := (hout731 8 rfl).trans hf723
                  exact OpX.val (Value.int .i64 (k21 : Int)) wd729 rfl (op_move e734) (Ext.refl _) ⟨rfl, hr40⟩
                · refine ObX.op rfl ?_
                  intro f735 wd736 he737 hout738 hphi739
                  have hS740 : St wd2 wd736 [bx b9 [(Value.int .i64 (0 : Int)), (Value.int .i64 (0 : Int)), (Value.int .i64 (0 : Int)), (Value.int .i64 (0 : Int))], bx b13 [(Value.int .i64 x700), (Value.int .i64 x701), (Value.int .i64 x24), (Value.int .i64 x25)]] := St.extend hS727 he737
                  obtain ⟨S741, hS742, hf743⟩ := hphi739 0 65 _ rfl rfl rfl
                  obtain ⟨e744, hr745⟩ : f735 65 = (Value.int .i64 (k21 : Int)) ∧ InR .i64 (k21 : Int) := hf743
                  exact OpX.val (Value.bool ((k21 : Int) == (0 : Int))) wd736 rfl (op_eql e744 rfl) (Ext.refl _) rfl
                · refine ObX.op rfl ?_
                  intro f746 wd747 he748 hout749 hphi750
                  have hS751 : St wd2 wd747 [bx b9 [(Value.int .i64 (0 : Int)), (Value.int .i64 (0 : Int)), (Value.int .i64 (0 : Int)), (Value.int .i64 (0 : Int))], bx b13 [(Value.int .i64 x700), (Value.int .i64 x701), (Value.int .i64 x24), (Value.int .i64 x25)]] := St.extend hS727 he748
                  obtain ⟨S752, hS753, hf754⟩ := hphi750 1 66 _ rfl rfl rfl
                  have e755 : f746 66 = (Value.bool ((k21 : Int) == (0 : Int))) := hf754
                  exact OpX.val (Value.bool ((k21 : Int) == (0 : Int))) wd747 rfl (op_move e755) (Ext.refl _) rfl
                · refine ObX.op rfl ?_
                  intro f886 wd887 he888 hout889 hphi890
                  have hS891 : St wd2 wd887 [bx b9 [(Value.int .i64 (0 : Int)), (Value.int .i64 (0 : Int)), (Value.int .i64 (0 : Int)), (Value.int .i64 (0 : Int))], bx b13 [(Value.int .i64 x700), (Value.int .i64 x701), (Value.int .i64 x24), (Value.int .i64 x25)]] := St.extend hS727 he888
                  have e892 : f886 9 = (Value.int .i64 x322) := (hout889 9 rfl).trans hf724
                  obtain ⟨S893, hS894, hf895⟩ := hphi890 2 67 _ rfl rfl rfl
                  have e896 : f886 67 = (Value.bool ((k21 : Int) == (0 : Int))) := hf895
                  exact OpX.val (Value.int .i64 x322) wd887 (wanted_run rfl rfl e896 hc758) (op_move e892) (Ext.refl _) ⟨rfl, hr330⟩
                · refine ObX.op rfl ?_
                  intro f897 wd898 he899 hout900 hphi901
                  have hS902 : St wd2 wd898 [bx b9 [(Value.int .i64 (0 : Int)), (Value.int .i64 (0 : Int)), (Value.int .i64 (0 : Int)), (Value.int .i64 (0 : Int))], bx b13 [(Value.int .i64 x700), (Value.int .i64 x701), (Value.int .i64 x24), (Value.int .i64 x25)]] := St.extend hS727 he899
                  have e903 : f897 7 = (Value.pointer (some ⟨b13, 0, none⟩)) := (hout900 7 rfl).trans hf722
                  obtain ⟨S904, hS905, hf906⟩ := hphi901 2 67 _ rfl rfl rfl
                  have e907 : f897 67 = (Value.bool ((k21 : Int) == (0 : Int))) := hf906
                  exact OpX.val (Value.pointer (some ⟨b13, 3, none⟩)) wd898 (wanted_run rfl rfl e907 hc758) (op_fieldAddr fd_42_3 e903) (Ext.refl _) rfl
                · refine ObX.op rfl ?_
                  intro f908 wd909 he910 hout911 hphi912
                  have hS913 : St wd2 wd909 [bx b9 [(Value.int .i64 (0 : Int)), (Value.int .i64 (0 : Int)), (Value.int .i64 (0 : Int)), (Value.int .i64 (0 : Int))], bx b13 [(Value.int .i64 x700), (Value.int .i64 x701), (Value.int .i64 x24), (Value.int .i64 x25)]] := St.extend hS727 he910
                  obtain ⟨S914, hS915, hf916⟩ := hphi912 2 67 _ rfl rfl rfl
                  have e917 : f908 67 = (Value.bool ((k21 : Int) == (0 : Int))) := hf916
                  obtain ⟨S918, hS919, hf920⟩ := hphi912 4 69 _ rfl rfl rfl
                  have e921 : f908 69 = (Value.pointer (some ⟨b13, 3, none⟩)) := hf920
                  exact OpX.val (Value.int .i64 x25) wd909 (wanted_run rfl rfl e917 hc758) (op_load one_2 e921 (BoxAt.cell (St.boxAt hS913 1 rfl) rfl)) (Ext.refl _) ⟨rfl, hr44⟩
                · refine ObX.op rfl ?_
                  intro f922 wd923 he924 hout925 hphi926
                  have hS927 : St wd2 wd923 [bx b9 [(Value.int .i64 (0 : Int)), (Value.int .i64 (0 : Int)), (Value.int .i64 (0 : Int)), (Value.int .i64 (0 : Int))], bx b13 [(Value.int .i64 x700), (Value.int .i64 x701), (Value.int .i64 x24), (Value.int .i64 x25)]] := St.extend hS727 he924
                  obtain ⟨S928, hS929, hf930⟩ := hphi926 2 67 _ rfl rfl rfl
                  have e931 : f922 67 = (Value.bool ((k21 : Int) == (0 : Int))) := hf930
                  obtain ⟨S932, hS933, hf934⟩ := hphi926 3 68 _ rfl rfl rfl
                  obtain ⟨e935, hr936⟩ : f922 68 = (Value.int .i64 x322) ∧ InR .i64 x322 := hf934
                  obtain ⟨S937, hS938, hf939⟩ := hphi926 5 70 _ rfl rfl rfl
                  obtain ⟨e940, hr941⟩ : f922 70 = (Value.int .i64 x25) ∧ InR .i64 x25 := hf939
                  exact OpX.val (Value.int .i64 (w64 (x322 * x25))) wd923 (wanted_run rfl rfl e931 hc758) (op_mul e935 e940) (Ext.refl _) ⟨rfl, (inR_wrap _ _)⟩
                · refine ObX.op rfl ?_
                  intro f942 wd943 he944 hout945 hphi946
                  have hS947 : St wd2 wd943 [bx b9 [(Value.int .i64 (0 : Int)), (Value.int .i64 (0 : Int)), (Value.int .i64 (0 : Int)), (Value.int .i64 (0 : Int))], bx b13 [(Value.int .i64 x700), (Value.int .i64 x701), (Value.int .i64 x24), (Value.int .i64 x25)]] := St.extend hS727 he944
                  have e948 : f942 7 = (Value.pointer (some ⟨b13, 0, none⟩)) := (hout945 7 rfl).trans hf722
                  obtain ⟨S949, hS950, hf951⟩ := hphi946 2 67 _ rfl rfl rfl
                  have e952 : f942 67 = (Value.bool ((k21 : Int) == (0 : Int))) := hf951
                  exact OpX.val (Value.pointer (some ⟨b13, 2, none⟩)) wd943 (wanted_run rfl rfl e952 hc758) (op_fieldAddr fd_42_2 e948) (Ext.refl _) rfl
                · refine ObX.op rfl ?_
                  intro f953 wd954 he955 hout956 hphi957
                  have hS958 : St wd2 wd954 [bx b9 [(Value.int .i64 (0 : Int)), (Value.int .i64 (0 : Int)), (Value.int .i64 (0 : Int)), (Value.int .i64 (0 : Int))], bx b13 [(Value.int .i64 x700), (Value.int .i64 x701), (Value.int .i64 x24), (Value.int .i64 x25)]] := St.extend hS727 he955
                  obtain ⟨S959, hS960, hf961⟩ := hphi957 2 67 _ rfl rfl rfl
                  have e962 : f953 67 = (Value.bool ((k21 : Int) == (0 : Int))) := hf961
                  obtain ⟨S963, hS964, hf965⟩ := hphi957 7 72 _ rfl rfl rfl
                  have e966 : f953 72 = (Value.pointer (some ⟨b13, 2, none⟩)) := hf965
                  exact OpX.val (Value.int .i64 x24) wd954 (wanted_run rfl rfl e962 hc758) (op_load one_2 e966 (BoxAt.cell (St.boxAt hS958 1 rfl) rfl)) (Ext.refl _) ⟨rfl, hr43⟩
                · refine ObX.op rfl ?_
                  intro f967 wd968 he969 hout970 hphi971
                  have hS972 : St wd2 wd968 [bx b9 [(Value.int .i64 (0 : Int)), (Value.int .i64 (0 : Int)), (Value.int .i64 (0 : Int)), (Value.int .i64 (0 : Int))], bx b13 [(Value.int .i64 x700), (Value.int .i64 x701), (Value.int .i64 x24), (Value.int .i64 x25)]] := St.extend hS727 he969
                  have e973 : f967 2 = v_w1 := (hout970 2 rfl).trans hf719
                  obtain ⟨S974, hS975, hf976⟩ := hphi971 2 67 _ rfl rfl rfl
                  have e977 : f967 67 = (Value.bool ((k21 : Int) == (0 : Int))) := hf976
                  exact OpX.val v_w1 wd968 (wanted_run rfl rfl e977 hc758) (op_move e973) (Ext.refl _) rfl
                · refine ObX.op rfl ?_
                  intro f978 wd979 he980 hout981 hphi982
                  have hS983 : St wd2 wd979 [bx b9 [(Value.int .i64 (0 : Int)), (Value.int .i64 (0 : Int)), (Value.int .i64 (0 : Int)), (Value.int .i64 (0 : Int))], bx b13 [(Value.int .i64 x700), (Value.int .i64 x701), (Value.int .i64 x24), (Value.int .i64 x25)]] := St.extend hS727 he980
                  have e984 : f978 8 = (Value.int .i64 (k21 : Int)) := (hout981 8 rfl).trans hf723
                  obtain ⟨S985, hS986, hf987⟩ := hphi982 2 67 _ rfl rfl rfl
                  have e988 : f978 67 = (Value.bool ((k21 : Int) == (0 : Int))) := hf987
                  exact OpX.val (Value.int .i64 (k21 : Int)) wd979 (wanted_run rfl rfl e988 hc758) (op_move e984) (Ext.refl _) ⟨rfl, hr40⟩
                · refine ObX.op rfl ?_
                  intro f989 wd990 he991 hout992 hphi993
                  have hS994 : St wd2 wd990 [bx b9 [(Value.int .i64 (0 : Int)), (Value.int .i64 (0 : Int)), (Value.int .i64 (0 : Int)), (Value.int .i64 (0 : Int))], bx b13 [(Value.int .i64 x700), (Value.int .i64 x701), (Value.int .i64 x24), (Value.int .i64 x25)]] := St.extend hS727 he991
                  obtain ⟨S995, hS996, hf997⟩ := hphi993 2 67 _ rfl rfl rfl
                  have e998 : f989 67 = (Value.bool ((k21 : Int) == (0 : Int))) := hf997
                  obtain ⟨S999, hS1000, hf1001⟩ := hphi993 9 74 _ rfl rfl rfl
                  have e1002 : f989 74 = v_w1 := hf1001
                  obtain ⟨S1003, hS1004, hf1005⟩ := hphi993 10 75 _ rfl rfl rfl
                  obtain ⟨e1006, hr1007⟩ : f989 75 = (Value.int .i64 (k21 : Int)) ∧ InR .i64 (k21 : Int) := hf1005
                  exact OpX.val (Value.pointer (some (elA v_w1 ((k21 : Int)).toNat))) wd990 (wanted_run rfl rfl e998 hc758) (op_idx sl_35 (Ty.lift _ (Ext.trans hE7 hS994.ext) r_w1) e1002 e1006 ha1009 hb1010) (Ext.refl _) rfl
                · refine ObX.op rfl ?_
                  intro f1012 wd1013 he1014 hout1015 hphi1016
                  have hS1017 : St wd2 wd1013 [bx b9 [(Value.int .i64 (0 : Int)), (Value.int .i64 (0 : Int)), (Value.int .i64 (0 : Int)), (Value.int .i64 (0 : Int))], bx b13 [(Value.int .i64 x700), (Value.int .i64 x701), (Value.int .i64 x24), (Value.int .i64 x25)]] := St.extend hS727 he1014
                  obtain ⟨S1018, hS1019, hf1020⟩ := hphi1016 2 67 _ rfl rfl rfl
                  have e1021 : f1012 67 = (Value.bool ((k21 : Int) == (0 : Int))) := hf1020
                  obtain ⟨S1022, hS1023, hf1024⟩ := hphi1016 11 76 _ rfl rfl rfl
                  have e1025 : f1012 76 = (Value.pointer (some (elA v_w1 ((k21 : Int)).toNat))) := hf1024
                  exact OpX.val (Value.int .i64 x1008) wd1013 (wanted_run rfl rfl e1021 hc758) (op_load one_2 e1025 (Ext.cell (Ext.trans hE7 hS1017.ext) hc1027)) (Ext.refl _) ⟨rfl, hr1028⟩
                · refine ObX.op rfl ?_
                  intro f1029 wd1030 he1031 hout1032 hphi1033
                  have hS1034 : St wd2 wd1030 [bx b9 [(Value.int .i64 (0 : Int)), (Value.int .i64 (0 : Int)), (Value.int .i64 (0 : Int)), (Value.int .i64 (0 : Int))], bx b13 [(Value.int .i64 x700), (Value.int .i64 x701), (Value.int .i64 x24), (Value.int .i64 x25)]] := St.extend hS727 he1031
                  obtain ⟨S1035, hS1036, hf1037⟩ := hphi1033 2 67 _ rfl rfl rfl
                  have e1038 : f1029 67 = (Value.bool ((k21 : Int) == (0 : Int))) := hf1037
                  obtain ⟨S1039, hS1040, hf1041⟩ := hphi1033 8 73 _ rfl rfl rfl
                  obtain ⟨e1042, hr1043⟩ : f1029 73 = (Value.int .i64 x24) ∧ InR .i64 x24 := hf1041
                  obtain ⟨S1044, hS1045, hf1046⟩ := hphi1033 12 77 _ rfl rfl rfl
                  obtain ⟨e1047, hr1048⟩ : f1029 77 = (Value.int .i64 x1008) ∧ InR .i64 x1008 := hf1046
                  exact OpX.val (Value.int .i64 (w64 (x24 * x1008))) wd1030 (wanted_run rfl rfl e1038 hc758) (op_mul e1042 e1047) (Ext.refl _) ⟨rfl, (inR_wrap _ _)⟩
                · intro f1049 wd1050 Ss1051 he1052 hout1053 hSn1054 hSd1055 hphi1056
                  show WL _ _ _ _ _ _ _
                  have hS1057 : St wd2 wd1050 [bx b9 [(Value.int .i64 (0 : Int)), (Value.int .i64 (0 : Int)), (Value.int .i64 (0 : Int)), (Value.int .i64 (0 : Int))], bx b13 [(Value.int .i64 x700), (Value.int .i64 x701), (Value.int .i64 x24), (Value.int .i64 x25)]] := St.extend hS727 he1052
                  have e1058 : f1049 67 = (Value.bool ((k21 : Int) == (0 : Int))) := hphi1056 2 67 _ (by decide) rfl rfl
                  obtain ⟨e1059, hr1060⟩ : f1049 68 = (Value.int .i64 x322) ∧ InR .i64 x322 := hphi1056 3 68 _ (by decide) rfl rfl
                  have e1061 : f1049 69 = (Value.pointer (some ⟨b13, 3, none⟩)) := hphi1056 4 69 _ (by decide) rfl rfl
                  obtain ⟨e1062, hr1063⟩ : f1049 70 = (Value.int .i64 x25) ∧ InR .i64 x25 := hphi1056 5 70 _ (by decide) rfl rfl
                  obtain ⟨e1064, hr1065⟩ : f1049 71 = (Value.int .i64 (w64 (x322 * x25))) ∧ InR .i64 (w64 (x322 * x25)) := hphi1056 6 71 _ (by decide) rfl rfl
                  have e1066 : f1049 72 = (Value.pointer (some ⟨b13, 2, none⟩)) := hphi1056 7 72 _ (by decide) rfl rfl
                  obtain ⟨e1067, hr1068⟩ : f1049 73 = (Value.int .i64 x24) ∧ InR .i64 x24 := hphi1056 8 73 _ (by decide) rfl rfl
                  have e1069 : f1049 74 = v_w1 := hphi1056 9 74 _ (by decide) rfl rfl
                  obtain ⟨e1070, hr1071⟩ : f1049 75 = (Value.int .i64 (k21 : Int)) ∧ InR .i64 (k21 : Int) := hphi1056 10 75 _ (by decide) rfl rfl
                  have e1072 : f1049 76 = (Value.pointer (some (elA v_w1 ((k21 : Int)).toNat))) := hphi1056 11 76 _ (by decide) rfl rfl
                  obtain ⟨e1073, hr1074⟩ : f1049 77 = (Value.int .i64 x1008) ∧ InR .i64 x1008 := hphi1056 12 77 _ (by decide) rfl rfl
                  obtain ⟨e1075, hr1076⟩ : f1049 78 = (Value.int .i64 (w64 (x24 * x1008))) ∧ InR .i64 (w64 (x24 * x1008)) := hphi1056 13 78 _ (by decide) rfl rfl
                  have e1077 : f1049 1 = (Value.int .i64 i) := (hout1053 1 rfl).trans hf718
                  have e1078 : f1049 2 = v_w1 := (hout1053 2 rfl).trans hf719
                  have e1079 : f1049 3 = (Value.pointer (some ⟨b1, 0, none⟩)) := (hout1053 3 rfl).trans hf720
                  have e1080 : f1049 6 = (Value.pointer (some ⟨b9, 0, none⟩)) := (hout1053 6 rfl).trans hf721
                  have e1081 : f1049 7 = (Value.pointer (some ⟨b13, 0, none⟩)) := (hout1053 7 rfl).trans hf722
                  have e1082 : f1049 8 = (Value.int .i64 (k21 : Int)) := (hout1053 8 rfl).trans hf723
                  have e1083 : f1049 9 = (Value.int .i64 x322) := (hout1053 9 rfl).trans hf724
                  refine WL.grun rfl (bool_of e1058 hc758) ?_
                  refine WL.val (Value.bool (decide ((w64 (x322 * x25)) > (w64 (x24 * x1008))))) _ (op_gtr e1064 e1075) rfl ?_
                  refine WL.val (Value.bool (decide ((w64 (x322 * x25)) > (w64 (x24 * x1008))))) _ (op_pick_f (evb_of e1058 hc758) rfl) rfl ?_
                  refine WL.nil ?_
                  obtain rfl := Option.some.inj hj757
                  exact ⟨e1077, e1078, e1079, e1080, e1081, e1082, e1083, rfl, hS1057⟩
            · intro f1084 wd1085 hq1086
              obtain ⟨hf1087, hf1088, hf1089, hf1090, hf1091, hf1092, hf1093, hf1094, hS1095⟩ := hq1086
              show W _ _ _ _ _ _
              obtain ⟨⟨x1096, x1097⟩, hj1098, hb30⟩ := bs hb30
              refine W.cutCode (fun fq wq => fq 1 = (Value.int .i64 i) ∧ fq 2 = v_w1 ∧ fq 3 = (Value.pointer (some ⟨b1, 0, none⟩)) ∧ fq 6 = (Value.pointer (some ⟨b9, 0, none⟩)) ∧ fq 7 = (Value.pointer (some ⟨b13, 0, none⟩)) ∧ fq 8 = (Value.int .i64 (k21 : Int)) ∧ InR .i64 x1096 ∧ InR .i64 x1097 ∧ St wd2 wq [bx b9 [(Value.int .i64 (0 : Int)), (Value.int .i64 (0 : Int)), (Value.int .i64 (0 : Int)), (Value.int .i64 (0 : Int))], bx b13 [(Value.int .i64 x700), (Value.int .i64 x701), (Value.int .i64 x1096), (Value.int .i64 x1097)]]) ?_ ?_
              · refine W.cond x756 hf1094 (fun hc1099 => ?_) (fun hc1099 => ?_)
                · replace hj1098 := ip hj1098 hc1099
                  refine W.seq (W.region ?_)
                  refine WL.val (Value.int .i64 x322) _ (op_move hf1093) rfl ?_
                  refine WL.val (Value.pointer (some ⟨b13, 2, none⟩)) _ (op_fieldAddr fd_42_2 hf1091) rfl ?_
                  refine WL.storeBox [(Value.int .i64 x700), (Value.int .i64 x701), (Value.int .i64 x322), (Value.int .i64 x25)] hS1095 (k := 1) rfl rfl rfl (us := [(Value.int .i64 x322)]) rfl sz_2 rfl rfl (all_cons rfl all_nil) rfl ?_
                  intro wd1100 hS1101
                  replace hS1101 : St wd2 wd1100 [bx b9 [(Value.int .i64 (0 : Int)), (Value.int .i64 (0 : Int)), (Value.int .i64 (0 : Int)), (Value.int .i64 (0 : Int))], bx b13 [(Value.int .i64 x700), (Value.int .i64 x701), (Value.int .i64 x322), (Value.int .i64 x25)]] := hS1101
                  refine WL.nil ?_
                  show W _ _ _ _ _ _
                  refine W.region ?_
                  refine WL.val v_w1 _ (op_move hf1088) rfl ?_
                  refine WL.val (Value.int .i64 (k21 : Int)) _ (op_move hf1092) rfl ?_
                  obtain ⟨x1102, hx1105, hj1098⟩ := bs hj1098
                  obtain ⟨ha1103, hb1104, hx1105⟩ := idx_some hx1105
                  refine WL.val (Value.pointer (some (elA v_w1 ((k21 : Int)).toNat))) _ (op_idx sl_35 (Ty.lift _ (Ext.trans hE7 hS1101.ext) r_w1) rfl rfl ha1103 hb1104) rfl ?_
                  obtain ⟨u1106, hc1107, hr1108⟩ := repSl.el r_w1 hx1105
                  obtain ⟨rfl, hr1108⟩ := hr1108
                  refine WL.val (Value.int .i64 x1102) _ (op_load one_2 rfl (Ext.cell (Ext.trans hE7 hS1101.ext) hc1107)) rfl ?_
                  refine WL.val (Value.pointer (some ⟨b13, 3, none⟩)) _ (op_fieldAddr fd_42_3 hf1091) rfl ?_
                  refine WL.storeBox [(Value.int .i64 x700), (Value.int .i64 x701), (Value.int .i64 x322), (Value.int .i64 x1102)] hS1101 (k := 1) rfl rfl rfl (us := [(Value.int .i64 x1102)]) rfl sz_2 rfl rfl (all_cons rfl all_nil) rfl ?_
                  intro wd1109 hS1110
                  replace hS1110 : St wd2 wd1109 [bx b9 [(Value.int .i64 (0 : Int)), (Value.int .i64 (0 : Int)), (Value.int .i64 (0 : Int)), (Value.int .i64 (0 : Int))], bx b13 [(Value.int .i64 x700), (Value.int .i64 x701), (Value.int .i64 x322), (Value.int .i64 x1102)]] := hS1110
                  refine WL.nil ?_
                  simp only [Option.some.injEq, Prod.mk.injEq] at hj1098
                  obtain ⟨rfl, rfl⟩ := hj1098
                  exact ⟨hf1087, hf1088, hf1089, hf1090, hf1091, hf1092, hr330, hr1108, hS1110⟩
                · replace hj1098 := inegb hj1098 hc1099
                  refine W.skip ?_
                  simp only [Option.some.injEq, Prod.mk.injEq] at hj1098
                  obtain ⟨rfl, rfl⟩ := hj1098
                  exact ⟨hf1087, hf1088, hf1089, hf1090, hf1091, hf1092, hr43, hr44, hS1095⟩
              · intro f1111 wd1112 hq1113
                obtain ⟨hf1114, hf1115, hf1116, hf1117, hf1118, hf1119, hr1120, hr1121, hS1122⟩ := hq1113
                show W _ _ _ _ _ _
                refine W.region ?_
                refine WL.val (Value.int .i64 (k21 : Int)) _ (op_move hf1119) rfl ?_
                refine WL.val (Value.int .i64 (w64 ((k21 : Int) + (1 : Int)))) _ (op_add rfl rfl) rfl ?_
                refine WL.val (Value.int .i64 (w64 ((k21 : Int) + (1 : Int)))) _ (op_assign rfl) rfl ?_
                refine WL.nil ?_
                obtain rfl := Option.some.inj hb30
                show ∃ s, _ = Ctl.next s ∧ _
                exact ⟨_, rfl, hf1114, hf1115, hf1116, hf1117, hf1118, (ctr_next hl47 hr46), (ctr_rng hl47 hr46), hr725, hr726, hr1120, hr1121, hS1122⟩
    · intro s1129 f1125 wd1126 hs1127 hI1128
      obtain ⟨x1130, x1131, x1132, x1133⟩ := s1129
      replace hI1128 : f1125 1 = (Value.int .i64 i) ∧ f1125 2 = v_w1 ∧ f1125 3 = (Value.pointer (some ⟨b1, 0, none⟩)) ∧ f1125 6 = (Value.pointer (some ⟨b9, 0, none⟩)) ∧ f1125 7 = (Value.pointer (some ⟨b13, 0, none⟩)) ∧ f1125 8 = Value.int .i64 (((w1).length : Nat) : Int) ∧ InR .i64 (((w1).length : Nat) : Int) ∧ InR .i64 x1130 ∧ InR .i64 x1131 ∧ InR .i64 x1132 ∧ InR .i64 x1133 ∧ St wd2 wd1126 [bx b9 [(Value.int .i64 (0 : Int)), (Value.int .i64 (0 : Int)), (Value.int .i64 (0 : Int)), (Value.int .i64 (0 : Int))], bx b13 [(Value.int .i64 x1130), (Value.int .i64 x1131), (Value.int .i64 x1132), (Value.int .i64 x1133)]] := hI1128
      obtain ⟨hf1134, hf1135, hf1136, hf1137, hf1138, hf1139, hr1140, hr1141, hr1142, hr1143, hr1144, hS1145⟩ := hI1128
      refine W.seq (W.seq (W.region ?_))
      refine WL.val (Value.int .i64 (((w1).length : Nat) : Int)) _ (op_move hf1139) rfl ?_
      refine WL.val v_w1 _ (op_move hf1135) rfl ?_
      have hr1146 := inR_len (Ty.lift _ (Ext.trans hE7 hS1145.ext) r_w1)
      refine WL.val (Value.int .i64 ((w1).length : Int)) _ (op_lenL sl_35 (Ty.lift _ (Ext.trans hE7 hS1145.ext) r_w1) rfl) rfl ?_
      refine WL.val (Value.bool (decide ((((w1).length : Nat) : Int) < ((w1).length : Int)))) _ (op_lss rfl rfl) rfl ?_
      have hl1147 : ¬ (((w1).length : Nat) : Int) < ((w1).length : Int) := by omega
      refine WL.nil ?_
      show W _ _ _ _ _ _
      refine W.condF (decide ((((w1).length : Nat) : Int) < ((w1).length : Int))) rfl (decide_eq_false hl1147) ?_
      refine W.exit ?_
      show _ = _ ∧ _
      exact ⟨rfl, _, hs1127, hf1137, hf1138, hr1141, hr1142, hr1143, hr1144, hS1145⟩
  · rintro f1148 wd1149 ⟨s1151, rfl, hq1150⟩
    replace h := onRes_fin h
    obtain ⟨x1152, x1153, x1154, x1155⟩ := s1151
    replace hq1150 : f1148 6 = (Value.pointer (some ⟨b9, 0, none⟩)) ∧ f1148 7 = (Value.pointer (some ⟨b13, 0, none⟩)) ∧ InR .i64 x1152 ∧ InR .i64 x1153 ∧ InR .i64 x1154 ∧ InR .i64 x1155 ∧ St wd2 wd1149 [bx b9 [(Value.int .i64 (0 : Int)), (Value.int .i64 (0 : Int)), (Value.int .i64 (0 : Int)), (Value.int .i64 (0 : Int))], bx b13 [(Value.int .i64 x1152), (Value.int .i64 x1153), (Value.int .i64 x1154), (Value.int .i64 x1155)]] := hq1150
    replace h : (_ : Option _) = _ := h
    dsimp only at h
    obtain ⟨hf1156, hf1157, hr1158, hr1159, hr1160, hr1161, hS1162⟩ := hq1150
    show W _ _ _ _ _ _
    refine W.seq (W.region ?_)
    refine WL.val (Value.agg #[(Value.int .i64 x1152), (Value.int .i64 x1153), (Value.int .i64 x1154), (Value.int .i64 x1155)]) _ (op_loadBox st_42 hf1157 (St.boxAt hS1162 1 rfl) rfl rfl) rfl ?_
    refine WL.storeBox [(Value.int .i64 x1152), (Value.int .i64 x1153), (Value.int .i64 x1154), (Value.int .i64 x1155)] hS1162 (k := 0) rfl hf1156 rfl (us := [(Value.int .i64 x1152), (Value.int .i64 x1153), (Value.int .i64 x1154), (Value.int .i64 x1155)]) rfl sz_42 rfl rfl (all_cons rfl (all_cons rfl (all_cons rfl (all_cons rfl all_nil)))) rfl ?_
    intro wd1163 hS1164
    replace hS1164 : St wd2 wd1163 [bx b9 [(Value.int .i64 x1152), (Value.int .i64 x1153), (Value.int .i64 x1154), (Value.int .i64 x1155)], bx b13 [(Value.int .i64 x1152), (Value.int .i64 x1153), (Value.int .i64 x1154), (Value.int .i64 x1155)]] := hS1164
    refine WL.nil ?_
    show W _ _ _ _ _ _
    refine W.ret ?_
    obtain rfl := Option.some.inj h
    show FinP _ _ _ _ _ _ _
    exact FinP.ret _ (resC rfl hf1156 st_42 (St.boxAt hS1164 0 rfl) rfl) ⟨rfl, hr1158, hr1159, hr1160, hr1161, (Ext.trans hE7 hS1164.ext)⟩

theorem c_spec_BoundsOf {w : World} {r_Table : (List (List (List Int)))} {v_r_Table : Value} {i : Int} {t : Int} (r_r_Table : (Ty.sl (Ty.sl (Ty.sl (Ty.i .i64)))).rep w v_r_Table r_Table) (r_i : InR .i64 i) (r_t : InR .i64 t) {res : Int × Int × Int × Int × Int} (h : p_spec_BoundsOf r_Table i t  = some res) :
    Ret Try.prog 24 #[(Value.agg #[v_r_Table]), (Value.int .i64 i), (Value.int .i64 t)] w (fun v w' => v = (Value.tuple #[(Value.agg #[Value.int .i64 res.1, Value.int .i64 res.2.1, Value.int .i64 res.2.2.1, Value.int .i64 res.2.2.2.1]), Value.int .i64 res.2.2.2.2]) ∧ InR .i64 res.1 ∧ InR .i64 res.2.1 ∧ InR .i64 res.2.2.1 ∧ InR .i64 res.2.2.2.1 ∧ InR .i64 res.2.2.2.2 ∧ Ext w w') := by
  unfold p_spec_BoundsOf at h
  have hS0 : St w w [] := St.start w
  refine Ret.start (fn := Try.f24) Try.func24 rfl 39 rfl rfl ?_
  refine W.seq (W.region ?_)
  refine WL.box hS0 rfl (cs := [v_r_Table]) rfl rfl ?_
  intro b1 wd2 hS3 he4 hx5
  replace hS3 : St w wd2 [bx b1 [v_r_Table]] := hS3
  have hx6 := St.boxAt hS3 0 rfl
  have hE7 : Ext w wd2 := hS3.ext
  have hS8 : St wd2 wd2 [] := St.start wd2
  refine WL.alloc hS8 ze_42 (cs := [(Value.int .i64 (0 : Int)), (Value.int .i64 (0 : Int)), (Value.int .i64 (0 : Int)), (Value.int .i64 (0 : Int))]) rfl rfl ?_
  intro b9 wd10 hS11 he12
  replace hS11 : St wd2 wd10 [bx b9 [(Value.int .i64 (0 : Int)), (Value.int .i64 (0 : Int)), (Value.int .i64 (0 : Int)), (Value.int .i64 (0 : Int))]] := hS11
  refine WL.val (Value.int .i64 (0 : Int)) _ (op_assign rfl) rfl ?_
  refine WL.nil ?_
  show W _ _ _ _ _ _
  refine W.seq ?_
  refine W.block ?_
  refine W.seq (W.region ?_)
  refine WL.val (Value.agg #[v_r_Table]) _ (op_loadBox st_26 rfl (BoxAt.lift hS11.ext hx6) rfl rfl) rfl ?_
  obtain ⟨x13, hx14, h⟩ := bs h
  refine WL.call _ (op_call fn_35 (args1 rfl)) (c_spec_l03Is (Ty.lift _ (Ext.trans hE7 hS11.ext) r_r_Table) hx14) rfl ?_
  rintro _ wd15 ⟨rfl, he16⟩
  have hS18 := St.extend hS11 he16
  replace hS18 : St wd2 wd15 [bx b9 [(Value.int .i64 (0 : Int)), (Value.int .i64 (0 : Int)), (Value.int .i64 (0 : Int)), (Value.int .i64 (0 : Int))]] := hS18
  refine WL.val (Value.bool (!x13)) _ (op_not rfl) rfl ?_
  refine WL.val (Value.bool (!x13)) _ (op_assign rfl) rfl ?_
  refine WL.nil ?_
  show W _ _ _ _ _ _
  refine W.cond (!x13) rfl (fun hc19 => ?_) (fun hc19 => ?_)
  · replace h := ip h hc19
    refine W.seq (W.region ?_)
    refine WL.val (Value.agg #[(Value.int .i64 (0 : Int)), (Value.int .i64 (0 : Int)), (Value.int .i64 (0 : Int)), (Value.int .i64 (0 : Int))]) _ (op_build bd_42 (parts := []) (partsL trivial) trivial rfl) rfl ?_
    refine WL.storeBox [(Value.int .i64 (0 : Int)), (Value.int .i64 (0 : Int)), (Value.int .i64 (0 : Int)), (Value.int .i64 (0 : Int))] hS18 (k := 0) rfl rfl rfl (us := [(Value.int .i64 (0 : Int)), (Value.int .i64 (0 : Int)), (Value.int .i64 (0 : Int)), (Value.int .i64 (0 : Int))]) rfl sz_42 rfl rfl (all_cons rfl (all_cons rfl (all_cons rfl (all_cons rfl all_nil)))) rfl ?_
    intro wd21 hS22
    replace hS22 : St wd2 wd21 [bx b9 [(Value.int .i64 (0 : Int)), (Value.int .i64 (0 : Int)), (Value.int .i64 (0 : Int)), (Value.int .i64 (0 : Int))]] := hS22
    refine WL.val (Value.int .i64 (1 : Int)) _ (op_assign rfl) rfl ?_
    refine WL.nil ?_
    show W _ _ _ _ _ _
    refine W.ret ?_
    obtain rfl := Option.some.inj h
    show FinP _ _ _ _ _ _ _
    exact FinP.ret _ (resCT rfl rfl st_42 (St.boxAt hS22 0 rfl) rfl rfl) ⟨rfl, (inR_i64.2 (show (-9223372036854775808 : Int) ≤ 0 ∧ (0 : Int) ≤ 9223372036854775807 from by decide)), (inR_i64.2 (show (-9223372036854775808 : Int) ≤ 0 ∧ (0 : Int) ≤ 9223372036854775807 from by decide)), (inR_i64.2 (show (-9223372036854775808 : Int) ≤ 0 ∧ (0 : Int) ≤ 9223372036854775807 from by decide)), (inR_i64.2 (show (-9223372036854775808 : Int) ≤ 0 ∧ (0 : Int) ≤ 9223372036854775807 from by decide)), (inR_i64.2 (show (-9223372036854775808 : Int) ≤ 1 ∧ (1 : Int) ≤ 9223372036854775807 from by decide)), (Ext.trans hE7 hS22.ext)⟩
  · replace h := inegb h hc19
    refine W.seq (W.region ?_)
    refine WL.val (Value.agg #[v_r_Table]) _ (op_loadBox st_26 rfl (BoxAt.lift hS18.ext hx6) rfl rfl) rfl ?_
    refine WL.val (Value.int .i64 i) _ (op_move rfl) rfl ?_
    obtain ⟨x23, hx24, h⟩ := bs h
    refine WL.call _ (op_call fn_51 (args2 rfl rfl)) (c_spec_l03Label (Ty.lift _ (Ext.trans hE7 hS18.ext) r_r_Table) r_i hx24) rfl ?_
    rintro _ wd25 ⟨rfl, he26⟩
    have hS28 := St.extend hS18 he26
    replace hS28 : St wd2 wd25 [bx b9 [(Value.int .i64 (0 : Int)), (Value.int .i64 (0 : Int)), (Value.int .i64 (0 : Int)), (Value.int .i64 (0 : Int))]] := hS28
    refine WL.val (Value.bool (!x23)) _ (op_not rfl) rfl ?_
    refine WL.val (Value.bool (!x23)) _ (op_move rfl) rfl ?_
    obtain ⟨x30, hj31, h⟩ := bs h
    refine WL.cut 4 (fun fq wq => fq 1 = (Value.int .i64 i) ∧ fq 2 = (Value.int .i64 t) ∧ fq 3 = (Value.pointer (some ⟨b1, 0, none⟩)) ∧ fq 6 = (Value.pointer (some ⟨b9, 0, none⟩)) ∧ fq 24 = Value.bool x30 ∧ St wd2 wq [bx b9 [(Value.int .i64 (0 : Int)), (Value.int .i64 (0 : Int)), (Value.int .i64 (0 : Int)), (Value.int .i64 (0 : Int))]]) ?_ ?_
    · rcases Bool.eq_false_or_eq_true (!x23) with hc29 | hc29
      · replace hj31 := ip hj31 hc29
        refine WL.gskip rfl (bool_of rfl hc29) rfl ?_
        refine WL.gskip rfl (bool_of rfl hc29) rfl ?_
        refine WL.gskip rfl (bool_of rfl hc29) rfl ?_
        refine WL.val (Value.bool true) _ (op_pick_t (evb_of rfl hc29) rfl) rfl ?_
        refine WL.nil ?_
        obtain rfl := Option.some.inj hj31
        exact ⟨rfl, rfl, rfl, rfl, rfl, rfl, hS28⟩
      · replace hj31 := inegb hj31 hc29
        refine WL.grun rfl (bool_of rfl hc29) ?_
        refine WL.val (Value.int .i64 t) _ (op_move rfl) rfl ?_
        refine WL.grun rfl (bool_of rfl hc29) ?_
        obtain ⟨x35, hx36, hj31⟩ := bs hj31
        refine WL.call _ (op_call fn_47 (args3 rfl rfl rfl)) (c_spec_l01In r_t (inR_i64.2 (show (-9223372036854775808 : Int) ≤ 0 ∧ (0 : Int) ≤ 9223372036854775807 from by decide)) (inR_i64.2 (show (-9223372036854775808 : Int) ≤ 20 ∧ (20 : Int) ≤ 9223372036854775807 from by decide)) hx36) rfl ?_
        rintro _ wd37 ⟨rfl, he38⟩
        have hS40 := St.extend hS28 he38
        replace hS40 : St wd2 wd37 [bx b9 [(Value.int .i64 (0 : Int)), (Value.int .i64 (0 : Int)), (Value.int .i64 (0 : Int)), (Value.int .i64 (0 : Int))]] := hS40
        refine WL.grun rfl (bool_of rfl hc29) ?_
        refine WL.val (Value.bool (!x35)) _ (op_not rfl) rfl ?_
        refine WL.val (Value.bool (!x35)) _ (op_pick_f (evb_of rfl hc29) rfl) rfl ?_
        refine WL.nil ?_
        obtain rfl := Option.some.inj hj31
        exact ⟨rfl, rfl, rfl, rfl, rfl, rfl, hS40⟩
    · intro f32 wd33 hq34
      obtain ⟨hf41, hf42, hf43, hf44, hf45, hS46⟩ := hq34
      refine WL.val (Value.bool x30) _ (op_assign hf45) rfl ?_
      refine WL.nil ?_
      show W _ _ _ _ _ _
      refine W.cond x30 rfl (fun hc47 => ?_) (fun hc47 => ?_)
      · replace h := ip h hc47
        refine W.seq (W.region ?_)
        refine WL.val (Value.agg #[(Value.int .i64 (0 : Int)), (Value.int .i64 (0 : Int)), (Value.int .i64 (0 : Int)), (Value.int .i64 (0 : Int))]) _ (op_build bd_42 (parts := []) (partsL trivial) trivial rfl) rfl ?_
        refine WL.storeBox [(Value.int .i64 (0 : Int)), (Value.int .i64 (0 : Int)), (Value.int .i64 (0 : Int)), (Value.int .i64 (0 : Int))] hS46 (k := 0) rfl hf44 rfl (us := [(Value.int .i64 (0 : Int)), (Value.int .i64 (0 : Int)), (Value.int .i64 (0 : Int)), (Value.int .i64 (0 : Int))]) rfl sz_42 rfl rfl (all_cons rfl (all_cons rfl (all_cons rfl (all_cons rfl all_nil)))) rfl ?_
        intro wd49 hS50
        replace hS50 : St wd2 wd49 [bx b9 [(Value.int .i64 (0 : Int)), (Value.int .i64 (0 : Int)), (Value.int .i64 (0 : Int)), (Value.int .i64 (0 : Int))]] := hS50
        refine WL.val (Value.int .i64 (2 : Int)) _ (op_assign rfl) rfl ?_
        refine WL.nil ?_
        show W _ _ _ _ _ _
        refine W.ret ?_
        obtain rfl := Option.some.inj h
        show FinP _ _ _ _ _ _ _
        exact FinP.ret _ (resCT rfl hf44 st_42 (St.boxAt hS50 0 rfl) rfl rfl) ⟨rfl, (inR_i64.2 (show (-9223372036854775808 : Int) ≤ 0 ∧ (0 : Int) ≤ 9223372036854775807 from by decide)), (inR_i64.2 (show (-9223372036854775808 : Int) ≤ 0 ∧ (0 : Int) ≤ 9223372036854775807 from by decide)), (inR_i64.2 (show (-9223372036854775808 : Int) ≤ 0 ∧ (0 : Int) ≤ 9223372036854775807 from by decide)), (inR_i64.2 (show (-9223372036854775808 : Int) ≤ 0 ∧ (0 : Int) ≤ 9223372036854775807 from by decide)), (inR_i64.2 (show (-9223372036854775808 : Int) ≤ 2 ∧ (2 : Int) ≤ 9223372036854775807 from by decide)), (Ext.trans hE7 hS50.ext)⟩
      · replace h := inegb h hc47
        refine W.skip ?_
        show W _ _ _ _ _ _
        refine W.seq (W.region ?_)
        refine WL.val (Value.agg #[v_r_Table]) _ (op_loadBox st_26 hf43 (BoxAt.lift hS46.ext hx6) rfl rfl) rfl ?_
        refine WL.val (Value.int .i64 t) _ (op_move hf42) rfl ?_
        obtain ⟨x51, hx52, h⟩ := bs h
        refine WL.call _ (op_call fn_48 (args2 rfl rfl)) (c_spec_l04Weights (Ty.lift _ (Ext.trans hE7 hS46.ext) r_r_Table) r_t hx52) rfl ?_
        rintro _ wd54 ⟨u53, rfl, he55, hs56⟩
        have hS57 := St.join hS46 he55 hs56
        replace hS57 : St wd2 wd54 [bx b9 [(Value.int .i64 (0 : Int)), (Value.int .i64 (0 : Int)), (Value.int .i64 (0 : Int)), (Value.int .i64 (0 : Int))], (Ty.sl (Ty.i .i64)).at u53 x51.1] := hS57
        refine WL.val (Value.tuple #[u53, (Value.bool x51.2)]) _ (op_move rfl) rfl ?_
        refine WL.val u53 _ (op_extract rfl rfl) rfl ?_
        refine WL.val (Value.bool x51.2) _ (op_extract rfl rfl) rfl ?_
        refine WL.val u53 _ (op_assign rfl) rfl ?_
        refine WL.val (Value.bool x51.2) _ (op_assign rfl) rfl ?_
        refine WL.nil ?_
        show W _ _ _ _ _ _
        refine W.seq (W.seq (W.region ?_))
        refine WL.val (Value.bool x51.2) _ (op_move rfl) rfl ?_
        refine WL.val (Value.bool (!x51.2)) _ (op_not rfl) rfl ?_
        refine WL.nil ?_
        show W _ _ _ _ _ _
        refine W.cond (!x51.2) rfl (fun hc58 => ?_) (fun hc58 => ?_)
        · replace h := ip h hc58
          refine W.seq (W.region ?_)
          refine WL.val (Value.agg #[(Value.int .i64 (0 : Int)), (Value.int .i64 (0 : Int)), (Value.int .i64 (0 : Int)), (Value.int .i64 (0 : Int))]) _ (op_build bd_42 (parts := []) (partsL trivial) trivial rfl) rfl ?_
          refine WL.storeBox [(Value.int .i64 (0 : Int)), (Value.int .i64 (0 : Int)), (Value.int .i64 (0 : Int)), (Value.int .i64 (0 : Int))] hS57 (k := 0) rfl hf44 rfl (us := [(Value.int .i64 (0 : Int)), (Value.int .i64 (0 : Int)), (Value.int .i64 (0 : Int)), (Value.int .i64 (0 : Int))]) rfl sz_42 rfl rfl (all_cons rfl (all_cons rfl (all_cons rfl (all_cons rfl all_nil)))) rfl ?_
          intro wd60 hS61
          replace hS61 : St wd2 wd60 [bx b9 [(Value.int .i64 (0 : Int)), (Value.int .i64 (0 : Int)), (Value.int .i64 (0 : Int)), (Value.int .i64 (0 : Int))], (Ty.sl (Ty.i .i64)).at u53 x51.1] := hS61
          refine WL.val (Value.int .i64 (3 : Int)) _ (op_assign rfl) rfl ?_
          refine WL.nil ?_
          show W _ _ _ _ _ _
          refine W.ret ?_
          obtain rfl := Option.some.inj h
          show FinP _ _ _ _ _ _ _
          exact FinP.ret _ (resCT rfl hf44 st_42 (St.boxAt hS61 0 rfl) rfl rfl) ⟨rfl, (inR_i64.2 (show (-9223372036854775808 : Int) ≤ 0 ∧ (0 : Int) ≤ 9223372036854775807 from by decide)), (inR_i64.2 (show (-9223372036854775808 : Int) ≤ 0 ∧ (0 : Int) ≤ 9223372036854775807 from by decide)), (inR_i64.2 (show (-9223372036854775808 : Int) ≤ 0 ∧ (0 : Int) ≤ 9223372036854775807 from by decide)), (inR_i64.2 (show (-9223372036854775808 : Int) ≤ 0 ∧ (0 : Int) ≤ 9223372036854775807 from by decide)), (inR_i64.2 (show (-9223372036854775808 : Int) ≤ 3 ∧ (3 : Int) ≤ 9223372036854775807 from by decide)), (Ext.trans hE7 hS61.ext)⟩
        · replace h := inegb h hc58
          refine W.skip ?_
          show W _ _ _ _ _ _
          refine W.seq (W.region ?_)
          refine WL.val (Value.agg #[v_r_Table]) _ (op_loadBox st_26 hf43 (BoxAt.lift hS57.ext hx6) rfl rfl) rfl ?_
          refine WL.val (Value.int .i64 i) _ (op_move hf41) rfl ?_
          refine WL.val u53 _ (op_move rfl) rfl ?_
          obtain ⟨x62, hx63, h⟩ := bs h
          refine WL.call _ (op_call fn_52 (args3 rfl rfl rfl)) (c_spec_l04Bounds (Ty.lift _ (Ext.trans hE7 hS57.ext) r_r_Table) r_i (St.rep (t := (Ty.sl (Ty.i .i64))) hS57 1 rfl) hx63) rfl ?_
          rintro _ wd68 ⟨rfl, hr64, hr65, hr66, hr67, he69⟩
          have hS71 := St.extend hS57 he69
          replace hS71 : St wd2 wd68 [bx b9 [(Value.int .i64 (0 : Int)), (Value.int .i64 (0 : Int)), (Value.int .i64 (0 : Int)), (Value.int .i64 (0 : Int))], (Ty.sl (Ty.i .i64)).at u53 x51.1] := hS71
          refine WL.storeBox [(Value.int .i64 x62.1), (Value.int .i64 x62.2.1), (Value.int .i64 x62.2.2.1), (Value.int .i64 x62.2.2.2)] hS71 (k := 0) rfl hf44 rfl (us := [(Value.int .i64 x62.1), (Value.int .i64 x62.2.1), (Value.int .i64 x62.2.2.1), (Value.int .i64 x62.2.2.2)]) rfl sz_42 rfl rfl (all_cons rfl (all_cons rfl (all_cons rfl (all_cons rfl all_nil)))) rfl ?_
          intro wd72 hS73
          replace hS73 : St wd2 wd72 [bx b9 [(Value.int .i64 x62.1), (Value.int .i64 x62.2.1), (Value.int .i64 x62.2.2.1), (Value.int .i64 x62.2.2.2)], (Ty.sl (Ty.i .i64)).at u53 x51.1] := hS73
          refine WL.val (Value.int .i64 (0 : Int)) _ (op_assign rfl) rfl ?_
          refine WL.nil ?_
          show W _ _ _ _ _ _
          refine W.ret ?_
          obtain rfl := Option.some.inj h
          show FinP _ _ _ _ _ _ _
          exact FinP.ret _ (resCT rfl hf44 st_42 (St.boxAt hS73 0 rfl) rfl rfl) ⟨rfl, hr64, hr65, hr66, hr67, (inR_i64.2 (show (-9223372036854775808 : Int) ≤ 0 ∧ (0 : Int) ≤ 9223372036854775807 from by decide)), (Ext.trans hE7 hS73.ext)⟩

theorem c_impl_Ring_isLabel {w : World} {r_Table : (List (List (List Int)))} {v_r_Table : Value} {i : Int} (r_r_Table : (Ty.sl (Ty.sl (Ty.sl (Ty.i .i64)))).rep w v_r_Table r_Table) (r_i : InR .i64 i) {res : Bool} (h : p_impl_Ring_isLabel r_Table i  = some res) :
    Ret Try.prog 53 #[(Value.agg #[v_r_Table]), (Value.int .i64 i)] w (fun v w' => v = Value.bool res ∧ Ext w w') := by
  unfold p_impl_Ring_isLabel at h
  have hS0 : St w w [] := St.start w
  refine Ret.start (fn := Try.f53) Try.func53 rfl 11 rfl rfl ?_
  refine W.seq (W.region ?_)
  refine WL.box hS0 rfl (cs := [v_r_Table]) rfl rfl ?_
  intro b1 wd2 hS3 he4 hx5
  replace hS3 : St w wd2 [bx b1 [v_r_Table]] := hS3
  have hx6 := St.boxAt hS3 0 rfl
  have hE7 : Ext w wd2 := hS3.ext
  have hS8 : St wd2 wd2 [] := St.start wd2
  refine WL.val (Value.bool false) _ (op_assign rfl) rfl ?_
  refine WL.nil ?_
  show W _ _ _ _ _ _
  refine W.seq (W.region ?_)
  refine WL.val (Value.int .i64 i) _ (op_move rfl) rfl ?_
  refine WL.val (Value.pointer (some ⟨b1, 0, none⟩)) _ (op_fieldAddr fd_26_0 rfl) rfl ?_
  refine WL.val v_r_Table _ (op_load one_22 rfl (BoxAt.cell (BoxAt.lift hS8.ext hx6) rfl)) rfl ?_
  have hr9 := inR_len (Ty.lift _ (Ext.trans hE7 hS8.ext) r_r_Table)
  refine WL.val (Value.int .i64 ((r_Table).length : Int)) _ (op_lenL sl_22 (Ty.lift _ (Ext.trans hE7 hS8.ext) r_r_Table) rfl) rfl ?_
  refine WL.val (Value.int .i64 (w64 (((r_Table).length : Int) - (1 : Int)))) _ (op_sub rfl rfl) rfl ?_
  obtain ⟨x10, hx11, h⟩ := bs h
  refine WL.call _ (op_call fn_49 (args3 rfl rfl rfl)) (c_impl_within r_i (inR_i64.2 (show (-9223372036854775808 : Int) ≤ 0 ∧ (0 : Int) ≤ 9223372036854775807 from by decide)) (inR_wrap _ _) hx11) rfl ?_
  rintro _ wd12 ⟨rfl, he13⟩
  have hS15 := St.extend hS8 he13
  replace hS15 : St wd2 wd12 [] := hS15
  refine WL.val (Value.bool x10) _ (op_assign rfl) rfl ?_
  refine WL.nil ?_
  show W _ _ _ _ _ _
  refine W.ret ?_
  obtain rfl := Option.some.inj h
  show FinP _ _ _ _ _ _ _
  exact FinP.ret _ (res1 rfl rfl) ⟨rfl, (Ext.trans hE7 hS15.ext)⟩

end Go.VG
