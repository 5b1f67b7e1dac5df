/- The walks, part 3: each Go function returns what its plain twin returns. No condition beyond what each names. -/
import Derived.Test.YtlcedidbkhedjaaGWalk2
set_option linter.all false
namespace Go.VG
open Go.Proofs
attribute [local irreducible] W WL Sep FinP

theorem c_laws_eqInt64SS {w : World} {a : (List (List Int))} {v_a : Value} {b : (List (List Int))} {v_b : Value} (r_a : (Ty.sl (Ty.sl (Ty.i .i64))).rep w v_a a) (r_b : (Ty.sl (Ty.sl (Ty.i .i64))).rep w v_b b) {res : Bool} (h : p_laws_eqInt64SS a b  = some res) :
    Ret Try.prog 68 #[v_a, v_b] w (fun v w' => v = Value.bool res ∧ Ext w w') := by
  unfold p_laws_eqInt64SS at h
  have hS0 : St w w [] := St.start w
  refine Ret.start (fn := Try.f68) Try.func68 rfl 27 rfl rfl ?_
  refine W.seq (W.region ?_)
  refine WL.val (Value.bool false) _ (op_assign rfl) rfl ?_
  refine WL.nil ?_
  show W _ _ _ _ _ _
  refine W.seq (W.seq (W.region ?_))
  refine WL.val v_a _ (op_move rfl) rfl ?_
  have hr1 := inR_len (Ty.lift _ hS0.ext r_a)
  refine WL.val (Value.int .i64 ((a).length : Int)) _ (op_lenL sl_57 (Ty.lift _ hS0.ext r_a) rfl) rfl ?_
  refine WL.val v_b _ (op_move rfl) rfl ?_
  have hr2 := inR_len (Ty.lift _ hS0.ext r_b)
  refine WL.val (Value.int .i64 ((b).length : Int)) _ (op_lenL sl_57 (Ty.lift _ hS0.ext r_b) rfl) rfl ?_
  refine WL.val (Value.bool (((a).length : Int) != ((b).length : Int))) _ (op_neq rfl rfl) rfl ?_
  refine WL.nil ?_
  show W _ _ _ _ _ _
  refine W.cond (((a).length : Int) != ((b).length : Int)) rfl (fun hc3 => ?_) (fun hc3 => ?_)
  · replace h := ip h hc3
    refine W.seq (W.region ?_)
    refine WL.val (Value.bool false) _ (op_assign rfl) rfl ?_
    refine WL.nil ?_
    show W _ _ _ _ _ _
    refine W.ret ?_
    obtain rfl := Option.some.inj h
    show FinP _ _ _ _ _ _ _
    exact FinP.ret _ (res1 rfl rfl) ⟨rfl, hS0.ext⟩
  · replace h := inegb h hc3
    refine W.skip ?_
    show W _ _ _ _ _ _
    refine W.seq (W.seq (W.region ?_))
    refine WL.val (Value.int .i64 (0 : Int)) _ (op_assign rfl) rfl ?_
    refine WL.nil ?_
    show W _ _ _ _ _ _
    obtain ⟨res5, hres6, h⟩ := bs h
    refine W.blockLoop (fun fq wq => ∃ s, res5 = Res.fin s ∧ St w wq []) ?_ ?_
    · refine W.forN (fun k (s : Unit) fq wq => fq 0 = v_a ∧ fq 1 = v_b ∧ fq 5 = Value.int .i64 (k : Int) ∧ InR .i64 (k : Int) ∧ St w wq []) hres6 ⟨rfl, rfl, rfl, (inR_i64.2 (show (-9223372036854775808 : Int) ≤ 0 ∧ (0 : Int) ≤ 9223372036854775807 from by decide)), hS0⟩ ?_ ?_
      · intro k7 s138 ct8 f9 wd10 hk11 hb12 hI13 hbrk14 hret15
        obtain ⟨⟩ := s138
        replace hI13 : f9 0 = v_a ∧ f9 1 = v_b ∧ f9 5 = Value.int .i64 (k7 : Int) ∧ InR .i64 (k7 : Int) ∧ St w wd10 [] := hI13
        replace hb12 : p_laws_eqInt64SS_L1 a b k7  = some ct8 := hb12
        unfold p_laws_eqInt64SS_L1 at hb12
        obtain ⟨hf16, hf17, hf18, hr19, hS20⟩ := hI13
        refine W.seq (W.seq (W.region ?_))
        refine WL.val (Value.int .i64 (k7 : Int)) _ (op_move hf18) rfl ?_
        refine WL.val v_a _ (op_move hf16) rfl ?_
        have hr21 := inR_len (Ty.lift _ hS20.ext r_a)
        refine WL.val (Value.int .i64 ((a).length : Int)) _ (op_lenL sl_57 (Ty.lift _ hS20.ext r_a) rfl) rfl ?_
        refine WL.val (Value.bool (decide ((k7 : Int) < ((a).length : Int)))) _ (op_lss rfl rfl) rfl ?_
        have hl22 : (k7 : Int) < ((a).length : Int) := by omega
        refine WL.nil ?_
        show W _ _ _ _ _ _
        refine W.condT (decide ((k7 : Int) < ((a).length : Int))) rfl (decide_eq_true hl22) ?_
        refine W.skip ?_
        show W _ _ _ _ _ _
        refine W.seq ?_
        refine W.block ?_
        refine W.seq ?_
        obtain ⟨x53, hx56, hb12⟩ := bs hb12
        obtain ⟨ha54, hb55, hx56⟩ := idx_some hx56
        obtain ⟨u67, hc68, hr69⟩ := repSl.el r_a hx56
        obtain ⟨x99, hx102, hb12⟩ := bs hb12
        obtain ⟨ha100, hb101, hx102⟩ := idx_some hx102
        obtain ⟨u113, hc114, hr115⟩ := repSl.el r_b hx102
        refine W.drawR mixo 8 [] [fun _ v _ _ => v = v_a, fun _ v _ _ => v = (Value.int .i64 (k7 : Int)) ∧ InR .i64 (k7 : Int), fun _ v _ _ => v = (Value.pointer (some (elA v_a ((k7 : Int)).toNat))), fun _ v _ _ => v = u67, fun _ v _ _ => v = v_b, fun _ v _ _ => v = (Value.int .i64 (k7 : Int)) ∧ InR .i64 (k7 : Int), fun _ v _ _ => v = (Value.pointer (some (elA v_b ((k7 : Int)).toNat))), fun _ v _ _ => v = u113] (by kernel_rfl) (by kernel_rfl) ⟨⟨fun _ _ _ _ _ _ h => h, fun _ _ _ _ _ _ h => h⟩, ⟨fun _ _ _ _ _ _ h => h, fun _ _ _ _ _ _ h => h⟩, ⟨fun _ _ _ _ _ _ h => h, fun _ _ _ _ _ _ h => h⟩, ⟨fun _ _ _ _ _ _ h => h, fun _ _ _ _ _ _ h => h⟩, ⟨fun _ _ _ _ _ _ h => h, fun _ _ _ _ _ _ h => h⟩, ⟨fun _ _ _ _ _ _ h => h, fun _ _ _ _ _ _ h => h⟩, ⟨fun _ _ _ _ _ _ h => h, fun _ _ _ _ _ _ h => h⟩, ⟨fun _ _ _ _ _ _ h => h, fun _ _ _ _ _ _ h => h⟩, trivial⟩ ⟨?_, ?_, ?_, ?_, ?_, ?_, ?_, ?_, trivial⟩ ?_
        · refine ObX.op rfl ?_
          intro f24 wd25 he26 hout27 hphi28
          have hS29 : St w wd25 [] := St.extend hS20 he26
          have e30 : f24 0 = v_a := (hout27 0 rfl).trans hf16
          exact OpX.val v_a wd25 rfl (op_move e30) (Ext.refl _) rfl
        · refine ObX.op rfl ?_
          intro f31 wd32 he33 hout34 hphi35
          have hS36 : St w wd32 [] := St.extend hS20 he33
          have e37 : f31 5 = (Value.int .i64 (k7 : Int)) := (hout34 5 rfl).trans hf18
          exact OpX.val (Value.int .i64 (k7 : Int)) wd32 rfl (op_move e37) (Ext.refl _) ⟨rfl, hr19⟩
        · refine ObX.op rfl ?_
          intro f38 wd39 he40 hout41 hphi42
          have hS43 : St w wd39 [] := St.extend hS20 he40
          obtain ⟨S44, hS45, hf46⟩ := hphi42 0 17 _ rfl rfl rfl
          have e47 : f38 17 = v_a := hf46
          obtain ⟨S48, hS49, hf50⟩ := hphi42 1 18 _ rfl rfl rfl
          obtain ⟨e51, hr52⟩ : f38 18 = (Value.int .i64 (k7 : Int)) ∧ InR .i64 (k7 : Int) := hf50
          exact OpX.val (Value.pointer (some (elA v_a ((k7 : Int)).toNat))) wd39 rfl (op_idx sl_57 (Ty.lift _ hS43.ext r_a) e47 e51 ha54 hb55) (Ext.refl _) rfl
        · refine ObX.op rfl ?_
          intro f57 wd58 he59 hout60 hphi61
          have hS62 : St w wd58 [] := St.extend hS20 he59
          obtain ⟨S63, hS64, hf65⟩ := hphi61 2 19 _ rfl rfl rfl
          have e66 : f57 19 = (Value.pointer (some (elA v_a ((k7 : Int)).toNat))) := hf65
          exact OpX.val u67 wd58 rfl (op_load one_35 e66 (Ext.cell hS62.ext hc68)) (Ext.refl _) rfl
        · refine ObX.op rfl ?_
          intro f70 wd71 he72 hout73 hphi74
          have hS75 : St w wd71 [] := St.extend hS20 he72
          have e76 : f70 1 = v_b := (hout73 1 rfl).trans hf17
          exact OpX.val v_b wd71 rfl (op_move e76) (Ext.refl _) rfl
        · refine ObX.op rfl ?_
          intro f77 wd78 he79 hout80 hphi81
          have hS82 : St w wd78 [] := St.extend hS20 he79
          have e83 : f77 5 = (Value.int .i64 (k7 : Int)) := (hout80 5 rfl).trans hf18
          exact OpX.val (Value.int .i64 (k7 : Int)) wd78 rfl (op_move e83) (Ext.refl _) ⟨rfl, hr19⟩
        · refine ObX.op rfl ?_
          intro f84 wd85 he86 hout87 hphi88
          have hS89 : St w wd85 [] := St.extend hS20 he86
          obtain ⟨S90, hS91, hf92⟩ := hphi88 4 21 _ rfl rfl rfl
          have e93 : f84 21 = v_b := hf92
          obtain ⟨S94, hS95, hf96⟩ := hphi88 5 22 _ rfl rfl rfl
          obtain ⟨e97, hr98⟩ : f84 22 = (Value.int .i64 (k7 : Int)) ∧ InR .i64 (k7 : Int) := hf96
          exact OpX.val (Value.pointer (some (elA v_b ((k7 : Int)).toNat))) wd85 rfl (op_idx sl_57 (Ty.lift _ hS89.ext r_b) e93 e97 ha100 hb101) (Ext.refl _) rfl
        · refine ObX.op rfl ?_
          intro f103 wd104 he105 hout106 hphi107
          have hS108 : St w wd104 [] := St.extend hS20 he105
          obtain ⟨S109, hS110, hf111⟩ := hphi107 6 23 _ rfl rfl rfl
          have e112 : f103 23 = (Value.pointer (some (elA v_b ((k7 : Int)).toNat))) := hf111
          exact OpX.val u113 wd104 rfl (op_load one_35 e112 (Ext.cell hS108.ext hc114)) (Ext.refl _) rfl
        · intro f116 wd117 Ss118 he119 hout120 hSn121 hSd122 hphi123
          show WL _ _ _ _ _ _ _
          have hS124 : St w wd117 [] := St.extend hS20 he119
          have e125 : f116 20 = u67 := hphi123 3 20 _ (by decide) rfl rfl
          have e126 : f116 24 = u113 := hphi123 7 24 _ (by decide) rfl rfl
          have e127 : f116 0 = v_a := (hout120 0 rfl).trans hf16
          have e128 : f116 1 = v_b := (hout120 1 rfl).trans hf17
          have e129 : f116 5 = (Value.int .i64 (k7 : Int)) := (hout120 5 rfl).trans hf18
          obtain ⟨x130, hx131, hb12⟩ := bs hb12
          refine WL.call _ (op_call fn_21 (args2 e125 e126)) (c_laws_eqInt64S (Ty.lift _ hS124.ext hr69) (Ty.lift _ hS124.ext hr115) hx131) rfl ?_
          rintro _ wd132 ⟨rfl, he133⟩
          have hS135 := St.extend hS124 he133
          replace hS135 : St w wd132 [] := hS135
          refine WL.val (Value.bool (!x130)) _ (op_not rfl) rfl ?_
          refine WL.nil ?_
          show W _ _ _ _ _ _
          refine W.cond (!x130) rfl (fun hc136 => ?_) (fun hc136 => ?_)
          · replace hb12 := ip hb12 hc136
            refine W.seq (W.region ?_)
            refine WL.val (Value.bool false) _ (op_assign rfl) rfl ?_
            refine WL.nil ?_
            show W _ _ _ _ _ _
            refine W.ret ?_
            obtain rfl := Option.some.inj hb12
            obtain rfl := hret15 _ rfl
            replace h := onRes_ret h
            obtain rfl := Option.some.inj h
            show FinP _ _ _ _ _ _ _
            exact FinP.ret _ (res1 rfl rfl) ⟨rfl, hS135.ext⟩
          · replace hb12 := inegb hb12 hc136
            refine W.skip ?_
            show W _ _ _ _ _ _
            refine W.region ?_
            refine WL.val (Value.int .i64 (k7 : Int)) _ (op_move e129) rfl ?_
            refine WL.val (Value.int .i64 (w64 ((k7 : Int) + (1 : Int)))) _ (op_add rfl rfl) rfl ?_
            refine WL.val (Value.int .i64 (w64 ((k7 : Int) + (1 : Int)))) _ (op_assign rfl) rfl ?_
            refine WL.nil ?_
            obtain rfl := Option.some.inj hb12
            show ∃ s, _ = Ctl.next s ∧ _
            exact ⟨_, rfl, e127, e128, (ctr_next hl22 hr21), (ctr_rng hl22 hr21), hS135⟩
      · intro s143 f139 wd140 hs141 hI142
        obtain ⟨⟩ := s143
        replace hI142 : f139 0 = v_a ∧ f139 1 = v_b ∧ f139 5 = Value.int .i64 (((a).length : Nat) : Int) ∧ InR .i64 (((a).length : Nat) : Int) ∧ St w wd140 [] := hI142
        obtain ⟨hf144, hf145, hf146, hr147, hS148⟩ := hI142
        refine W.seq (W.seq (W.region ?_))
        refine WL.val (Value.int .i64 (((a).length : Nat) : Int)) _ (op_move hf146) rfl ?_
        refine WL.val v_a _ (op_move hf144) rfl ?_
        have hr149 := inR_len (Ty.lift _ hS148.ext r_a)
        refine WL.val (Value.int .i64 ((a).length : Int)) _ (op_lenL sl_57 (Ty.lift _ hS148.ext r_a) rfl) rfl ?_
        refine WL.val (Value.bool (decide ((((a).length : Nat) : Int) < ((a).length : Int)))) _ (op_lss rfl rfl) rfl ?_
        have hl150 : ¬ (((a).length : Nat) : Int) < ((a).length : Int) := by omega
        refine WL.nil ?_
        show W _ _ _ _ _ _
        refine W.condF (decide ((((a).length : Nat) : Int) < ((a).length : Int))) rfl (decide_eq_false hl150) ?_
        refine W.exit ?_
        show _ = _ ∧ _
        exact ⟨rfl, _, hs141, hS148⟩
    · rintro f151 wd152 ⟨s154, rfl, hq153⟩
      replace h := onRes_fin h
      obtain ⟨⟩ := s154
      replace hq153 : St w wd152 [] := hq153
      have hS155 := hq153
      show W _ _ _ _ _ _
      refine W.seq (W.region ?_)
      refine WL.val (Value.bool true) _ (op_assign rfl) rfl ?_
      refine WL.nil ?_
      show W _ _ _ _ _ _
      refine W.ret ?_
      obtain rfl := Option.some.inj h
      show FinP _ _ _ _ _ _ _
      exact FinP.ret _ (res1 rfl rfl) ⟨rfl, hS155.ext⟩

theorem c_laws_eqInt64SSS {w : World} {a : (List (List (List Int)))} {v_a : Value} {b : (List (List (List Int)))} {v_b : Value} (r_a : (Ty.sl (Ty.sl (Ty.sl (Ty.i .i64)))).rep w v_a a) (r_b : (Ty.sl (Ty.sl (Ty.sl (Ty.i .i64)))).rep w v_b b) {res : Bool} (h : p_laws_eqInt64SSS a b  = some res) :
    Ret Try.prog 40 #[v_a, v_b] w (fun v w' => v = Value.bool res ∧ Ext w w') := by
  unfold p_laws_eqInt64SSS at h
  have hS0 : St w w [] := St.start w
  refine Ret.start (fn := Try.f40) Try.func40 rfl 27 rfl rfl ?_
  refine W.seq (W.region ?_)
  refine WL.val (Value.bool false) _ (op_assign rfl) rfl ?_
  refine WL.nil ?_
  show W _ _ _ _ _ _
  refine W.seq (W.seq (W.region ?_))
  refine WL.val v_a _ (op_move rfl) rfl ?_
  have hr1 := inR_len (Ty.lift _ hS0.ext r_a)
  refine WL.val (Value.int .i64 ((a).length : Int)) _ (op_lenL sl_22 (Ty.lift _ hS0.ext r_a) rfl) rfl ?_
  refine WL.val v_b _ (op_move rfl) rfl ?_
  have hr2 := inR_len (Ty.lift _ hS0.ext r_b)
  refine WL.val (Value.int .i64 ((b).length : Int)) _ (op_lenL sl_22 (Ty.lift _ hS0.ext r_b) rfl) rfl ?_
  refine WL.val (Value.bool (((a).length : Int) != ((b).length : Int))) _ (op_neq rfl rfl) rfl ?_
  refine WL.nil ?_
  show W _ _ _ _ _ _
  refine W.cond (((a).length : Int) != ((b).length : Int)) rfl (fun hc3 => ?_) (fun hc3 => ?_)
  · replace h := ip h hc3
    refine W.seq (W.region ?_)
    refine WL.val (Value.bool false) _ (op_assign rfl) rfl ?_
    refine WL.nil ?_
    show W _ _ _ _ _ _
    refine W.ret ?_
    obtain rfl := Option.some.inj h
    show FinP _ _ _ _ _ _ _
    exact FinP.ret _ (res1 rfl rfl) ⟨rfl, hS0.ext⟩
  · replace h := inegb h hc3
    refine W.skip ?_
    show W _ _ _ _ _ _
    refine W.seq (W.seq (W.region ?_))
    refine WL.val (Value.int .i64 (0 : Int)) _ (op_assign rfl) rfl ?_
    refine WL.nil ?_
    show W _ _ _ _ _ _
    obtain ⟨res5, hres6, h⟩ := bs h
    refine W.blockLoop (fun fq wq => ∃ s, res5 = Res.fin s ∧ St w wq []) ?_ ?_
    · refine W.forN (fun k (s : Unit) fq wq => fq 0 = v_a ∧ fq 1 = v_b ∧ fq 5 = Value.int .i64 (k : Int) ∧ InR .i64 (k : Int) ∧ St w wq []) hres6 ⟨rfl, rfl, rfl, (inR_i64.2 (show (-9223372036854775808 : Int) ≤ 0 ∧ (0 : Int) ≤ 9223372036854775807 from by decide)), hS0⟩ ?_ ?_
      · intro k7 s138 ct8 f9 wd10 hk11 hb12 hI13 hbrk14 hret15
        obtain ⟨⟩ := s138
        replace hI13 : f9 0 = v_a ∧ f9 1 = v_b ∧ f9 5 = Value.int .i64 (k7 : Int) ∧ InR .i64 (k7 : Int) ∧ St w wd10 [] := hI13
        replace hb12 : p_laws_eqInt64SSS_L1 a b k7  = some ct8 := hb12
        unfold p_laws_eqInt64SSS_L1 at hb12
        obtain ⟨hf16, hf17, hf18, hr19, hS20⟩ := hI13
        refine W.seq (W.seq (W.region ?_))
        refine WL.val (Value.int .i64 (k7 : Int)) _ (op_move hf18) rfl ?_
        refine WL.val v_a _ (op_move hf16) rfl ?_
        have hr21 := inR_len (Ty.lift _ hS20.ext r_a)
        refine WL.val (Value.int .i64 ((a).length : Int)) _ (op_lenL sl_22 (Ty.lift _ hS20.ext r_a) rfl) rfl ?_
        refine WL.val (Value.bool (decide ((k7 : Int) < ((a).length : Int)))) _ (op_lss rfl rfl) rfl ?_
        have hl22 : (k7 : Int) < ((a).length : Int) := by omega
        refine WL.nil ?_
        show W _ _ _ _ _ _
        refine W.condT (decide ((k7 : Int) < ((a).length : Int))) rfl (decide_eq_true hl22) ?_
        refine W.skip ?_
        show W _ _ _ _ _ _
        refine W.seq ?_
        refine W.block ?_
        refine W.seq ?_
        obtain ⟨x53, hx56, hb12⟩ := bs hb12
        obtain ⟨ha54, hb55, hx56⟩ := idx_some hx56
        obtain ⟨u67, hc68, hr69⟩ := repSl.el r_a hx56
        obtain ⟨x99, hx102, hb12⟩ := bs hb12
        obtain ⟨ha100, hb101, hx102⟩ := idx_some hx102
        obtain ⟨u113, hc114, hr115⟩ := repSl.el r_b hx102
        refine W.drawR mixo 8 [] [fun _ v _ _ => v = v_a, fun _ v _ _ => v = (Value.int .i64 (k7 : Int)) ∧ InR .i64 (k7 : Int), fun _ v _ _ => v = (Value.pointer (some (elA v_a ((k7 : Int)).toNat))), fun _ v _ _ => v = u67, fun _ v _ _ => v = v_b, fun _ v _ _ => v = (Value.int .i64 (k7 : Int)) ∧ InR .i64 (k7 : Int), fun _ v _ _ => v = (Value.pointer (some (elA v_b ((k7 : Int)).toNat))), fun _ v _ _ => v = u113] (by kernel_rfl) (by kernel_rfl) ⟨⟨fun _ _ _ _ _ _ h => h, fun _ _ _ _ _ _ h => h⟩, ⟨fun _ _ _ _ _ _ h => h, fun _ _ _ _ _ _ h => h⟩, ⟨fun _ _ _ _ _ _ h => h, fun _ _ _ _ _ _ h => h⟩, ⟨fun _ _ _ _ _ _ h => h, fun _ _ _ _ _ _ h => h⟩, ⟨fun _ _ _ _ _ _ h => h, fun _ _ _ _ _ _ h => h⟩, ⟨fun _ _ _ _ _ _ h => h, fun _ _ _ _ _ _ h => h⟩, ⟨fun _ _ _ _ _ _ h => h, fun _ _ _ _ _ _ h => h⟩, ⟨fun _ _ _ _ _ _ h => h, fun _ _ _ _ _ _ h => h⟩, trivial⟩ ⟨?_, ?_, ?_, ?_, ?_, ?_, ?_, ?_, trivial⟩ ?_
        · refine ObX.op rfl ?_
          intro f24 wd25 he26 hout27 hphi28
          have hS29 : St w wd25 [] := St.extend hS20 he26
          have e30 : f24 0 = v_a := (hout27 0 rfl).trans hf16
          exact OpX.val v_a wd25 rfl (op_move e30) (Ext.refl _) rfl
        · refine ObX.op rfl ?_
          intro f31 wd32 he33 hout34 hphi35
          have hS36 : St w wd32 [] := St.extend hS20 he33
          have e37 : f31 5 = (Value.int .i64 (k7 : Int)) := (hout34 5 rfl).trans hf18
          exact OpX.val (Value.int .i64 (k7 : Int)) wd32 rfl (op_move e37) (Ext.refl _) ⟨rfl, hr19⟩
        · refine ObX.op rfl ?_
          intro f38 wd39 he40 hout41 hphi42
          have hS43 : St w wd39 [] := St.extend hS20 he40
          obtain ⟨S44, hS45, hf46⟩ := hphi42 0 17 _ rfl rfl rfl
          have e47 : f38 17 = v_a := hf46
          obtain ⟨S48, hS49, hf50⟩ := hphi42 1 18 _ rfl rfl rfl
          obtain ⟨e51, hr52⟩ : f38 18 = (Value.int .i64 (k7 : Int)) ∧ InR .i64 (k7 : Int) := hf50
          exact OpX.val (Value.pointer (some (elA v_a ((k7 : Int)).toNat))) wd39 rfl (op_idx sl_22 (Ty.lift _ hS43.ext r_a) e47 e51 ha54 hb55) (Ext.refl _) rfl
        · refine ObX.op rfl ?_
          intro f57 wd58 he59 hout60 hphi61
          have hS62 : St w wd58 [] := St.extend hS20 he59
          obtain ⟨S63, hS64, hf65⟩ := hphi61 2 19 _ rfl rfl rfl
          have e66 : f57 19 = (Value.pointer (some (elA v_a ((k7 : Int)).toNat))) := hf65
          exact OpX.val u67 wd58 rfl (op_load one_57 e66 (Ext.cell hS62.ext hc68)) (Ext.refl _) rfl
        · refine ObX.op rfl ?_
          intro f70 wd71 he72 hout73 hphi74
          have hS75 : St w wd71 [] := St.extend hS20 he72
          have e76 : f70 1 = v_b := (hout73 1 rfl).trans hf17
          exact OpX.val v_b wd71 rfl (op_move e76) (Ext.refl _) rfl
        · refine ObX.op rfl ?_
          intro f77 wd78 he79 hout80 hphi81
          have hS82 : St w wd78 [] := St.extend hS20 he79
          have e83 : f77 5 = (Value.int .i64 (k7 : Int)) := (hout80 5 rfl).trans hf18
          exact OpX.val (Value.int .i64 (k7 : Int)) wd78 rfl (op_move e83) (Ext.refl _) ⟨rfl, hr19⟩
        · refine ObX.op rfl ?_
          intro f84 wd85 he86 hout87 hphi88
          have hS89 : St w wd85 [] := St.extend hS20 he86
          obtain ⟨S90, hS91, hf92⟩ := hphi88 4 21 _ rfl rfl rfl
          have e93 : f84 21 = v_b := hf92
          obtain ⟨S94, hS95, hf96⟩ := hphi88 5 22 _ rfl rfl rfl
          obtain ⟨e97, hr98⟩ : f84 22 = (Value.int .i64 (k7 : Int)) ∧ InR .i64 (k7 : Int) := hf96
          exact OpX.val (Value.pointer (some (elA v_b ((k7 : Int)).toNat))) wd85 rfl (op_idx sl_22 (Ty.lift _ hS89.ext r_b) e93 e97 ha100 hb101) (Ext.refl _) rfl
        · refine ObX.op rfl ?_
          intro f103 wd104 he105 hout106 hphi107
          have hS108 : St w wd104 [] := St.extend hS20 he105
          obtain ⟨S109, hS110, hf111⟩ := hphi107 6 23 _ rfl rfl rfl
          have e112 : f103 23 = (Value.pointer (some (elA v_b ((k7 : Int)).toNat))) := hf111
          exact OpX.val u113 wd104 rfl (op_load one_57 e112 (Ext.cell hS108.ext hc114)) (Ext.refl _) rfl
        · intro f116 wd117 Ss118 he119 hout120 hSn121 hSd122 hphi123
          show WL _ _ _ _ _ _ _
          have hS124 : St w wd117 [] := St.extend hS20 he119
          have e125 : f116 20 = u67 := hphi123 3 20 _ (by decide) rfl rfl
          have e126 : f116 24 = u113 := hphi123 7 24 _ (by decide) rfl rfl
          have e127 : f116 0 = v_a := (hout120 0 rfl).trans hf16
          have e128 : f116 1 = v_b := (hout120 1 rfl).trans hf17
          have e129 : f116 5 = (Value.int .i64 (k7 : Int)) := (hout120 5 rfl).trans hf18
          obtain ⟨x130, hx131, hb12⟩ := bs hb12
          refine WL.call _ (op_call fn_68 (args2 e125 e126)) (c_laws_eqInt64SS (Ty.lift _ hS124.ext hr69) (Ty.lift _ hS124.ext hr115) hx131) rfl ?_
          rintro _ wd132 ⟨rfl, he133⟩
          have hS135 := St.extend hS124 he133
          replace hS135 : St w wd132 [] := hS135
          refine WL.val (Value.bool (!x130)) _ (op_not rfl) rfl ?_
          refine WL.nil ?_
          show W _ _ _ _ _ _
          refine W.cond (!x130) rfl (fun hc136 => ?_) (fun hc136 => ?_)
          · replace hb12 := ip hb12 hc136
            refine W.seq (W.region ?_)
            refine WL.val (Value.bool false) _ (op_assign rfl) rfl ?_
            refine WL.nil ?_
            show W _ _ _ _ _ _
            refine W.ret ?_
            obtain rfl := Option.some.inj hb12
            obtain rfl := hret15 _ rfl
            replace h := onRes_ret h
            obtain rfl := Option.some.inj h
            show FinP _ _ _ _ _ _ _
            exact FinP.ret _ (res1 rfl rfl) ⟨rfl, hS135.ext⟩
          · replace hb12 := inegb hb12 hc136
            refine W.skip ?_
            show W _ _ _ _ _ _
            refine W.region ?_
            refine WL.val (Value.int .i64 (k7 : Int)) _ (op_move e129) rfl ?_
            refine WL.val (Value.int .i64 (w64 ((k7 : Int) + (1 : Int)))) _ (op_add rfl rfl) rfl ?_
            refine WL.val (Value.int .i64 (w64 ((k7 : Int) + (1 : Int)))) _ (op_assign rfl) rfl ?_
            refine WL.nil ?_
            obtain rfl := Option.some.inj hb12
            show ∃ s, _ = Ctl.next s ∧ _
            exact ⟨_, rfl, e127, e128, (ctr_next hl22 hr21), (ctr_rng hl22 hr21), hS135⟩
      · intro s143 f139 wd140 hs141 hI142
        obtain ⟨⟩ := s143
        replace hI142 : f139 0 = v_a ∧ f139 1 = v_b ∧ f139 5 = Value.int .i64 (((a).length : Nat) : Int) ∧ InR .i64 (((a).length : Nat) : Int) ∧ St w wd140 [] := hI142
        obtain ⟨hf144, hf145, hf146, hr147, hS148⟩ := hI142
        refine W.seq (W.seq (W.region ?_))
        refine WL.val (Value.int .i64 (((a).length : Nat) : Int)) _ (op_move hf146) rfl ?_
        refine WL.val v_a _ (op_move hf144) rfl ?_
        have hr149 := inR_len (Ty.lift _ hS148.ext r_a)
        refine WL.val (Value.int .i64 ((a).length : Int)) _ (op_lenL sl_22 (Ty.lift _ hS148.ext r_a) rfl) rfl ?_
        refine WL.val (Value.bool (decide ((((a).length : Nat) : Int) < ((a).length : Int)))) _ (op_lss rfl rfl) rfl ?_
        have hl150 : ¬ (((a).length : Nat) : Int) < ((a).length : Int) := by omega
        refine WL.nil ?_
        show W _ _ _ _ _ _
        refine W.condF (decide ((((a).length : Nat) : Int) < ((a).length : Int))) rfl (decide_eq_false hl150) ?_
        refine W.exit ?_
        show _ = _ ∧ _
        exact ⟨rfl, _, hs141, hS148⟩
    · rintro f151 wd152 ⟨s154, rfl, hq153⟩
      replace h := onRes_fin h
      obtain ⟨⟩ := s154
      replace hq153 : St w wd152 [] := hq153
      have hS155 := hq153
      show W _ _ _ _ _ _
      refine W.seq (W.region ?_)
      refine WL.val (Value.bool true) _ (op_assign rfl) rfl ?_
      refine WL.nil ?_
      show W _ _ _ _ _ _
      refine W.ret ?_
      obtain rfl := Option.some.inj h
      show FinP _ _ _ _ _ _ _
      exact FinP.ret _ (res1 rfl rfl) ⟨rfl, hS155.ext⟩

theorem c_laws_eqRing {w : World} {a_Table : (List (List (List Int)))} {v_a_Table : Value} {b_Table : (List (List (List Int)))} {v_b_Table : Value} (r_a_Table : (Ty.sl (Ty.sl (Ty.sl (Ty.i .i64)))).rep w v_a_Table a_Table) (r_b_Table : (Ty.sl (Ty.sl (Ty.sl (Ty.i .i64)))).rep w v_b_Table b_Table) {res : Bool} (h : p_laws_eqRing a_Table b_Table  = some res) :
    Ret Try.prog 14 #[(Value.agg #[v_a_Table]), (Value.agg #[v_b_Table])] w (fun v w' => v = Value.bool res ∧ Ext w w') := by
  unfold p_laws_eqRing at h
  have hS0 : St w w [] := St.start w
  refine Ret.start (fn := Try.f14) Try.func14 rfl 11 rfl rfl ?_
  refine W.seq (W.region ?_)
  refine WL.box hS0 rfl (cs := [v_a_Table]) rfl rfl ?_
  intro b1 wd2 hS3 he4 hx5
  replace hS3 : St w wd2 [bx b1 [v_a_Table]] := hS3
  have hx6 := St.boxAt hS3 0 rfl
  have hE7 : Ext w wd2 := hS3.ext
  have hS8 : St wd2 wd2 [] := St.start wd2
  refine WL.box hS8 rfl (cs := [v_b_Table]) rfl rfl ?_
  intro b9 wd10 hS11 he12 hx13
  replace hS11 : St wd2 wd10 [bx b9 [v_b_Table]] := hS11
  have hx14 := St.boxAt hS11 0 rfl
  have hE15 : Ext w wd10 := (Ext.trans hE7 hS11.ext)
  have hE16 : Ext wd2 wd10 := hS11.ext
  have hS17 : St wd10 wd10 [] := St.start wd10
  refine WL.val (Value.bool false) _ (op_assign rfl) rfl ?_
  refine WL.nil ?_
  show W _ _ _ _ _ _
  refine W.seq (W.seq (W.region ?_))
  refine WL.val (Value.pointer (some ⟨b1, 0, none⟩)) _ (op_fieldAddr fd_26_0 rfl) rfl ?_
  refine WL.val v_a_Table _ (op_load one_22 rfl (BoxAt.cell (BoxAt.lift (Ext.trans hE16 hS17.ext) hx6) rfl)) rfl ?_
  refine WL.val (Value.pointer (some ⟨b9, 0, none⟩)) _ (op_fieldAddr fd_26_0 rfl) rfl ?_
  refine WL.val v_b_Table _ (op_load one_22 rfl (BoxAt.cell (BoxAt.lift hS17.ext hx14) rfl)) rfl ?_
  obtain ⟨x18, hx19, h⟩ := bs h
  refine WL.call _ (op_call fn_40 (args2 rfl rfl)) (c_laws_eqInt64SSS (Ty.lift _ (Ext.trans hE15 hS17.ext) r_a_Table) (Ty.lift _ (Ext.trans hE15 hS17.ext) r_b_Table) hx19) rfl ?_
  rintro _ wd20 ⟨rfl, he21⟩
  have hS23 := St.extend hS17 he21
  replace hS23 : St wd10 wd20 [] := hS23
  refine WL.val (Value.bool (!x18)) _ (op_not rfl) rfl ?_
  refine WL.nil ?_
  show W _ _ _ _ _ _
  refine W.cond (!x18) rfl (fun hc24 => ?_) (fun hc24 => ?_)
  · replace h := ip h hc24
    refine W.seq (W.region ?_)
    refine WL.val (Value.bool false) _ (op_assign rfl) rfl ?_
    refine WL.nil ?_
    show W _ _ _ _ _ _
    refine W.ret ?_
    obtain rfl := Option.some.inj h
    show FinP _ _ _ _ _ _ _
    exact FinP.ret _ (res1 rfl rfl) ⟨rfl, (Ext.trans hE15 hS23.ext)⟩
  · replace h := inegb h hc24
    refine W.skip ?_
    show W _ _ _ _ _ _
    refine W.seq (W.region ?_)
    refine WL.val (Value.bool true) _ (op_assign rfl) rfl ?_
    refine WL.nil ?_
    show W _ _ _ _ _ _
    refine W.ret ?_
    obtain rfl := Option.some.inj h
    show FinP _ _ _ _ _ _ _
    exact FinP.ret _ (res1 rfl rfl) ⟨rfl, (Ext.trans hE15 hS23.ext)⟩

theorem c_laws_markInt64S {w : World} {a : (List Int)} {v_a : Value} {k1 : Int} {w0 : World} {R : Ent} (hS0 : St w0 w [(Ty.sl (Ty.i .i64)).at v_a a, R]) (r_k1 : InR .i64 k1) {res : Int × (List Int)} (h : p_laws_markInt64S a k1  = some res) :
    Ret Try.prog 22 #[v_a, (Value.int .i64 k1)] w (fun v w' => v = Value.int .i64 res.1 ∧ InR .i64 res.1 ∧ St w0 w' [(Ty.sl (Ty.i .i64)).at v_a res.2, R]) := by
  unfold p_laws_markInt64S at h
  refine Ret.start (fn := Try.f22) Try.func22 rfl 19 rfl rfl ?_
  refine W.seq (W.region ?_)
  refine WL.val (Value.int .i64 (0 : Int)) _ (op_assign rfl) rfl ?_
  refine WL.nil ?_
  show W _ _ _ _ _ _
  refine W.seq (W.seq (W.region ?_))
  refine WL.val (Value.int .i64 (0 : Int)) _ (op_assign rfl) rfl ?_
  refine WL.nil ?_
  show W _ _ _ _ _ _
  obtain ⟨res1, hres2, h⟩ := bs h
  refine W.blockLoop (fun fq wq => ∃ s, res1 = Res.fin s ∧ fq 1 = Value.int .i64 s.2 ∧ InR .i64 s.2 ∧ (s.1).length = (a).length ∧ St w0 wq [(Ty.sl (Ty.i .i64)).at v_a s.1, R]) ?_ ?_
  · refine W.forN (fun k (s : (List Int) × Int) fq wq => fq 0 = v_a ∧ fq 1 = Value.int .i64 s.2 ∧ InR .i64 s.2 ∧ fq 5 = Value.int .i64 (k : Int) ∧ InR .i64 (k : Int) ∧ (s.1).length = (a).length ∧ St w0 wq [(Ty.sl (Ty.i .i64)).at v_a s.1, R]) hres2 ⟨rfl, rfl, r_k1, rfl, (inR_i64.2 (show (-9223372036854775808 : Int) ≤ 0 ∧ (0 : Int) ≤ 9223372036854775807 from by decide)), rfl, hS0⟩ ?_ ?_
    · intro k3 s30 ct6 f7 wd8 hk9 hb10 hI11 hbrk12 hret13
      obtain ⟨x4, x5⟩ := s30
      replace hI11 : f7 0 = v_a ∧ f7 1 = Value.int .i64 x5 ∧ InR .i64 x5 ∧ f7 5 = Value.int .i64 (k3 : Int) ∧ InR .i64 (k3 : Int) ∧ (x4).length = (a).length ∧ St w0 wd8 [(Ty.sl (Ty.i .i64)).at v_a x4, R] := hI11
      replace hb10 : p_laws_markInt64S_L1  k3 x4 x5 = some ct6 := hb10
      unfold p_laws_markInt64S_L1 at hb10
      obtain ⟨hf14, hf15, hr16, hf17, hr18, hL19, hS20⟩ := hI11
      refine W.seq (W.seq (W.region ?_))
      refine WL.val (Value.int .i64 (k3 : Int)) _ (op_move hf17) rfl ?_
      refine WL.val v_a _ (op_move hf14) rfl ?_
      have hr21 := inR_len (St.rep (t := (Ty.sl (Ty.i .i64))) hS20 0 rfl)
      refine WL.val (Value.int .i64 ((x4).length : Int)) _ (op_lenL sl_35 (St.rep (t := (Ty.sl (Ty.i .i64))) hS20 0 rfl) rfl) rfl ?_
      refine WL.val (Value.bool (decide ((k3 : Int) < ((x4).length : Int)))) _ (op_lss rfl rfl) rfl ?_
      have hl22 : (k3 : Int) < ((x4).length : Int) := by omega
      refine WL.nil ?_
      show W _ _ _ _ _ _
      refine W.condT (decide ((k3 : Int) < ((x4).length : Int))) rfl (decide_eq_true hl22) ?_
      refine W.skip ?_
      show W _ _ _ _ _ _
      refine W.seq ?_
      refine W.block ?_
      refine W.seq (W.region ?_)
      refine WL.val v_a _ (op_move hf14) rfl ?_
      refine WL.val (Value.int .i64 (k3 : Int)) _ (op_move hf17) rfl ?_
      refine WL.val (Value.int .i64 x5) _ (op_move hf15) rfl ?_
      obtain ⟨x24, hx27, hb10⟩ := bs hb10
      obtain ⟨ha25, hb26, hx27⟩ := idx_some hx27
      refine WL.val (Value.pointer (some (elA v_a ((k3 : Int)).toNat))) _ (op_idx sl_35 (St.rep (t := (Ty.sl (Ty.i .i64))) hS20 0 rfl) rfl rfl ha25 hb26) rfl ?_
      refine WL.storeEl (flat_i .i64) hS20 (k := 0) rfl sz_2 rfl rfl (lt_of_idx ha25 hb26) ⟨rfl, hr16⟩ ?_
      intro wd28 hS29
      replace hS29 : St w0 wd28 [(Ty.sl (Ty.i .i64)).at v_a ((x4).set ((k3 : Int)).toNat x5), R] := hS29
      refine WL.nil ?_
      show W _ _ _ _ _ _
      refine W.region ?_
      refine WL.val (Value.int .i64 x5) _ (op_move hf15) rfl ?_
      refine WL.val (Value.int .i64 (w64 (x5 + (1 : Int)))) _ (op_add rfl rfl) rfl ?_
      refine WL.val (Value.int .i64 (w64 (x5 + (1 : Int)))) _ (op_assign rfl) rfl ?_
      refine WL.nil ?_
      show W _ _ _ _ _ _
      refine W.region ?_
      refine WL.val (Value.int .i64 (k3 : Int)) _ (op_move hf17) rfl ?_
      refine WL.val (Value.int .i64 (w64 ((k3 : Int) + (1 : Int)))) _ (op_add rfl rfl) rfl ?_
      refine WL.val (Value.int .i64 (w64 ((k3 : Int) + (1 : Int)))) _ (op_assign rfl) rfl ?_
      refine WL.nil ?_
      obtain rfl := Option.some.inj hb10
      show ∃ s, _ = Ctl.next s ∧ _
      exact ⟨_, rfl, hf14, rfl, (inR_wrap _ _), (ctr_next hl22 hr21), (ctr_rng hl22 hr21), (by first | exact hL19 | (simp only [List.length_set]; exact hL19)), hS29⟩
    · intro s35 f31 wd32 hs33 hI34
      obtain ⟨x36, x37⟩ := s35
      replace hI34 : f31 0 = v_a ∧ f31 1 = Value.int .i64 x37 ∧ InR .i64 x37 ∧ f31 5 = Value.int .i64 (((a).length : Nat) : Int) ∧ InR .i64 (((a).length : Nat) : Int) ∧ (x36).length = (a).length ∧ St w0 wd32 [(Ty.sl (Ty.i .i64)).at v_a x36, R] := hI34
      obtain ⟨hf38, hf39, hr40, hf41, hr42, hL43, hS44⟩ := hI34
      refine W.seq (W.seq (W.region ?_))
      refine WL.val (Value.int .i64 (((a).length : Nat) : Int)) _ (op_move hf41) rfl ?_
      refine WL.val v_a _ (op_move hf38) rfl ?_
      have hr45 := inR_len (St.rep (t := (Ty.sl (Ty.i .i64))) hS44 0 rfl)
      refine WL.val (Value.int .i64 ((x36).length : Int)) _ (op_lenL sl_35 (St.rep (t := (Ty.sl (Ty.i .i64))) hS44 0 rfl) rfl) rfl ?_
      refine WL.val (Value.bool (decide ((((a).length : Nat) : Int) < ((x36).length : Int)))) _ (op_lss rfl rfl) rfl ?_
      have hl46 : ¬ (((a).length : Nat) : Int) < ((x36).length : Int) := by omega
      refine WL.nil ?_
      show W _ _ _ _ _ _
      refine W.condF (decide ((((a).length : Nat) : Int) < ((x36).length : Int))) rfl (decide_eq_false hl46) ?_
      refine W.exit ?_
      show _ = _ ∧ _
      exact ⟨rfl, _, hs33, hf39, hr40, (by first | exact hL43 | (simp only [List.length_set]; exact hL43)), hS44⟩
  · rintro f47 wd48 ⟨s50, rfl, hq49⟩
    replace h := onRes_fin h
    obtain ⟨x51, x52⟩ := s50
    replace hq49 : f47 1 = Value.int .i64 x52 ∧ InR .i64 x52 ∧ (x51).length = (a).length ∧ St w0 wd48 [(Ty.sl (Ty.i .i64)).at v_a x51, R] := hq49
    replace h : (_ : Option _) = _ := h
    dsimp only at h
    obtain ⟨hf53, hr54, hL55, hS56⟩ := hq49
    show W _ _ _ _ _ _
    refine W.seq (W.region ?_)
    refine WL.val (Value.int .i64 x52) _ (op_move hf53) rfl ?_
    refine WL.val (Value.int .i64 x52) _ (op_assign rfl) rfl ?_
    refine WL.nil ?_
    show W _ _ _ _ _ _
    refine W.ret ?_
    obtain rfl := Option.some.inj h
    show FinP _ _ _ _ _ _ _
    exact FinP.ret _ (res1 rfl rfl) ⟨rfl, hr54, (St.pick hS56 [0, 1] rfl)⟩

theorem c_laws_markInt64SS {w : World} {a : (List (List Int))} {v_a : Value} {k1 : Int} {w0 : World} {R : Ent} (hS0 : St w0 w [(Ty.sl (Ty.sl (Ty.i .i64))).at v_a a, R]) (r_k1 : InR .i64 k1) {res : Int × (List (List Int))} (h : p_laws_markInt64SS a k1  = some res) :
    Ret Try.prog 69 #[v_a, (Value.int .i64 k1)] w (fun v w' => v = Value.int .i64 res.1 ∧ InR .i64 res.1 ∧ St w0 w' [(Ty.sl (Ty.sl (Ty.i .i64))).at v_a res.2, R]) := by
  unfold p_laws_markInt64SS at h
  refine Ret.start (fn := Try.f69) Try.func69 rfl 19 rfl rfl ?_
  refine W.seq (W.region ?_)
  refine WL.val (Value.int .i64 (0 : Int)) _ (op_assign rfl) rfl ?_
  refine WL.nil ?_
  show W _ _ _ _ _ _
  refine W.seq (W.seq (W.region ?_))
  refine WL.val (Value.int .i64 (0 : Int)) _ (op_assign rfl) rfl ?_
  refine WL.nil ?_
  show W _ _ _ _ _ _
  obtain ⟨res1, hres2, h⟩ := bs h
  refine W.blockLoop (fun fq wq => ∃ s, res1 = Res.fin s ∧ fq 1 = Value.int .i64 s.2 ∧ InR .i64 s.2 ∧ (s.1).length = (a).length ∧ St w0 wq [(Ty.sl (Ty.sl (Ty.i .i64))).at v_a s.1, R]) ?_ ?_
  · refine W.forN (fun k (s : (List (List Int)) × Int) fq wq => fq 0 = v_a ∧ fq 1 = Value.int .i64 s.2 ∧ InR .i64 s.2 ∧ fq 5 = Value.int .i64 (k : Int) ∧ InR .i64 (k : Int) ∧ (s.1).length = (a).length ∧ St w0 wq [(Ty.sl (Ty.sl (Ty.i .i64))).at v_a s.1, R]) hres2 ⟨rfl, rfl, r_k1, rfl, (inR_i64.2 (show (-9223372036854775808 : Int) ≤ 0 ∧ (0 : Int) ≤ 9223372036854775807 from by decide)), rfl, hS0⟩ ?_ ?_
    · intro k3 s40 ct6 f7 wd8 hk9 hb10 hI11 hbrk12 hret13
      obtain ⟨x4, x5⟩ := s40
      replace hI11 : f7 0 = v_a ∧ f7 1 = Value.int .i64 x5 ∧ InR .i64 x5 ∧ f7 5 = Value.int .i64 (k3 : Int) ∧ InR .i64 (k3 : Int) ∧ (x4).length = (a).length ∧ St w0 wd8 [(Ty.sl (Ty.sl (Ty.i .i64))).at v_a x4, R] := hI11
      replace hb10 : p_laws_markInt64SS_L1  k3 x4 x5 = some ct6 := hb10
      unfold p_laws_markInt64SS_L1 at hb10
      obtain ⟨hf14, hf15, hr16, hf17, hr18, hL19, hS20⟩ := hI11
      refine W.seq (W.seq (W.region ?_))
      refine WL.val (Value.int .i64 (k3 : Int)) _ (op_move hf17) rfl ?_
      refine WL.val v_a _ (op_move hf14) rfl ?_
      have hr21 := inR_len (St.rep (t := (Ty.sl (Ty.sl (Ty.i .i64)))) hS20 0 rfl)
      refine WL.val (Value.int .i64 ((x4).length : Int)) _ (op_lenL sl_57 (St.rep (t := (Ty.sl (Ty.sl (Ty.i .i64)))) hS20 0 rfl) rfl) rfl ?_
      refine WL.val (Value.bool (decide ((k3 : Int) < ((x4).length : Int)))) _ (op_lss rfl rfl) rfl ?_
      have hl22 : (k3 : Int) < ((x4).length : Int) := by omega
      refine WL.nil ?_
      show W _ _ _ _ _ _
      refine W.condT (decide ((k3 : Int) < ((x4).length : Int))) rfl (decide_eq_true hl22) ?_
      refine W.skip ?_
      show W _ _ _ _ _ _
      refine W.seq ?_
      refine W.block ?_
      refine W.region ?_
      refine WL.val v_a _ (op_move hf14) rfl ?_
      refine WL.val (Value.int .i64 (k3 : Int)) _ (op_move hf17) rfl ?_
      obtain ⟨x24, hx27, hb10⟩ := bs hb10
      obtain ⟨ha25, hb26, hx27⟩ := idx_some hx27
      refine WL.val (Value.pointer (some (elA v_a ((k3 : Int)).toNat))) _ (op_idx sl_57 (St.rep (t := (Ty.sl (Ty.sl (Ty.i .i64)))) hS20 0 rfl) rfl rfl ha25 hb26) rfl ?_
      obtain ⟨u28, hc29, hr30⟩ := repSl.el (St.rep (t := (Ty.sl (Ty.sl (Ty.i .i64)))) hS20 0 rfl) hx27
      refine WL.val u28 _ (op_load one_35 rfl hc29) rfl ?_
      refine WL.val (Value.int .i64 x5) _ (op_move hf15) rfl ?_
      have hS31 := St.unrow (k := 0) hS20 rfl hx27 hc29
      replace hS31 : St w0 wd8 [holeAt (Ty.sl (Ty.i .i64)) v_a x4 ((k3 : Int)).toNat u28, R, (Ty.sl (Ty.i .i64)).at u28 x24] := hS31
      obtain ⟨x32, hx33, hb10⟩ := bs hb10
      have hS34 := St.fold [(Ty.sl (Ty.i .i64)).at u28 x24] [holeAt (Ty.sl (Ty.i .i64)) v_a x4 ((k3 : Int)).toNat u28, R] (St.pick hS31 [2, 0, 1] rfl)
      refine WL.call _ (op_call fn_22 (args2 rfl rfl)) (c_laws_markInt64S hS34 hr16 hx33) rfl ?_
      rintro _ wd37 ⟨rfl, hr38, hS35⟩
      have hS36 := St.pick (St.unfold [(Ty.sl (Ty.i .i64)).at u28 x32.2] [holeAt (Ty.sl (Ty.i .i64)) v_a x4 ((k3 : Int)).toNat u28, R] hS35) [1, 2, 0] rfl
      replace hS36 : St w0 wd37 [holeAt (Ty.sl (Ty.i .i64)) v_a x4 ((k3 : Int)).toNat u28, R, (Ty.sl (Ty.i .i64)).at u28 x32.2] := hS36
      have hS39 := St.rerow (k := 0) (k2 := 2) hS36 rfl rfl rfl
      replace hS39 : St w0 wd37 [(Ty.sl (Ty.sl (Ty.i .i64))).at v_a ((x4).set ((k3 : Int)).toNat x32.2), R, emp] := hS39
      refine WL.val (Value.int .i64 x32.1) _ (op_assign rfl) rfl ?_
      refine WL.nil ?_
      show W _ _ _ _ _ _
      refine W.region ?_
      refine WL.val (Value.int .i64 (k3 : Int)) _ (op_move hf17) rfl ?_
      refine WL.val (Value.int .i64 (w64 ((k3 : Int) + (1 : Int)))) _ (op_add rfl rfl) rfl ?_
      refine WL.val (Value.int .i64 (w64 ((k3 : Int) + (1 : Int)))) _ (op_assign rfl) rfl ?_
      refine WL.nil ?_
      obtain rfl := Option.some.inj hb10
      show ∃ s, _ = Ctl.next s ∧ _
      exact ⟨_, rfl, hf14, rfl, hr38, (ctr_next hl22 hr21), (ctr_rng hl22 hr21), (by first | exact hL19 | (simp only [List.length_set]; exact hL19)), (St.pick hS39 [0, 1] rfl)⟩
    · intro s45 f41 wd42 hs43 hI44
      obtain ⟨x46, x47⟩ := s45
      replace hI44 : f41 0 = v_a ∧ f41 1 = Value.int .i64 x47 ∧ InR .i64 x47 ∧ f41 5 = Value.int .i64 (((a).length : Nat) : Int) ∧ InR .i64 (((a).length : Nat) : Int) ∧ (x46).length = (a).length ∧ St w0 wd42 [(Ty.sl (Ty.sl (Ty.i .i64))).at v_a x46, R] := hI44
      obtain ⟨hf48, hf49, hr50, hf51, hr52, hL53, hS54⟩ := hI44
      refine W.seq (W.seq (W.region ?_))
      refine WL.val (Value.int .i64 (((a).length : Nat) : Int)) _ (op_move hf51) rfl ?_
      refine WL.val v_a _ (op_move hf48) rfl ?_
      have hr55 := inR_len (St.rep (t := (Ty.sl (Ty.sl (Ty.i .i64)))) hS54 0 rfl)
      refine WL.val (Value.int .i64 ((x46).length : Int)) _ (op_lenL sl_57 (St.rep (t := (Ty.sl (Ty.sl (Ty.i .i64)))) hS54 0 rfl) rfl) rfl ?_
      refine WL.val (Value.bool (decide ((((a).length : Nat) : Int) < ((x46).length : Int)))) _ (op_lss rfl rfl) rfl ?_
      have hl56 : ¬ (((a).length : Nat) : Int) < ((x46).length : Int) := by omega
      refine WL.nil ?_
      show W _ _ _ _ _ _
      refine W.condF (decide ((((a).length : Nat) : Int) < ((x46).length : Int))) rfl (decide_eq_false hl56) ?_
      refine W.exit ?_
      show _ = _ ∧ _
      exact ⟨rfl, _, hs43, hf49, hr50, (by first | exact hL53 | (simp only [List.length_set]; exact hL53)), hS54⟩
  · rintro f57 wd58 ⟨s60, rfl, hq59⟩
    replace h := onRes_fin h
    obtain ⟨x61, x62⟩ := s60
    replace hq59 : f57 1 = Value.int .i64 x62 ∧ InR .i64 x62 ∧ (x61).length = (a).length ∧ St w0 wd58 [(Ty.sl (Ty.sl (Ty.i .i64))).at v_a x61, R] := hq59
    replace h : (_ : Option _) = _ := h
    dsimp only at h
    obtain ⟨hf63, hr64, hL65, hS66⟩ := hq59
    show W _ _ _ _ _ _
    refine W.seq (W.region ?_)
    refine WL.val (Value.int .i64 x62) _ (op_move hf63) rfl ?_
    refine WL.val (Value.int .i64 x62) _ (op_assign rfl) rfl ?_
    refine WL.nil ?_
    show W _ _ _ _ _ _
    refine W.ret ?_
    obtain rfl := Option.some.inj h
    show FinP _ _ _ _ _ _ _
    exact FinP.ret _ (res1 rfl rfl) ⟨rfl, hr64, (St.pick hS66 [0, 1] rfl)⟩

theorem c_laws_markInt64SSS {w : World} {a : (List (List (List Int)))} {v_a : Value} {k1 : Int} {w0 : World} {R : Ent} (hS0 : St w0 w [(Ty.sl (Ty.sl (Ty.sl (Ty.i .i64)))).at v_a a, R]) (r_k1 : InR .i64 k1) {res : Int × (List (List (List Int)))} (h : p_laws_markInt64SSS a k1  = some res) :
    Ret Try.prog 41 #[v_a, (Value.int .i64 k1)] w (fun v w' => v = Value.int .i64 res.1 ∧ InR .i64 res.1 ∧ St w0 w' [(Ty.sl (Ty.sl (Ty.sl (Ty.i .i64)))).at v_a res.2, R]) := by
  unfold p_laws_markInt64SSS at h
  refine Ret.start (fn := Try.f41) Try.func41 rfl 19 rfl rfl ?_
  refine W.seq (W.region ?_)
  refine WL.val (Value.int .i64 (0 : Int)) _ (op_assign rfl) rfl ?_
  refine WL.nil ?_
  show W _ _ _ _ _ _
  refine W.seq (W.seq (W.region ?_))
  refine WL.val (Value.int .i64 (0 : Int)) _ (op_assign rfl) rfl ?_
  refine WL.nil ?_
  show W _ _ _ _ _ _
  obtain ⟨res1, hres2, h⟩ := bs h
  refine W.blockLoop (fun fq wq => ∃ s, res1 = Res.fin s ∧ fq 1 = Value.int .i64 s.2 ∧ InR .i64 s.2 ∧ (s.1).length = (a).length ∧ St w0 wq [(Ty.sl (Ty.sl (Ty.sl (Ty.i .i64)))).at v_a s.1, R]) ?_ ?_
  · refine W.forN (fun k (s : (List (List (List Int))) × Int) fq wq => fq 0 = v_a ∧ fq 1 = Value.int .i64 s.2 ∧ InR .i64 s.2 ∧ fq 5 = Value.int .i64 (k : Int) ∧ InR .i64 (k : Int) ∧ (s.1).length = (a).length ∧ St w0 wq [(Ty.sl (Ty.sl (Ty.sl (Ty.i .i64)))).at v_a s.1, R]) hres2 ⟨rfl, rfl, r_k1, rfl, (inR_i64.2 (show (-9223372036854775808 : Int) ≤ 0 ∧ (0 : Int) ≤ 9223372036854775807 from by decide)), rfl, hS0⟩ ?_ ?_
    · intro k3 s40 ct6 f7 wd8 hk9 hb10 hI11 hbrk12 hret13
      obtain ⟨x4, x5⟩ := s40
      replace hI11 : f7 0 = v_a ∧ f7 1 = Value.int .i64 x5 ∧ InR .i64 x5 ∧ f7 5 = Value.int .i64 (k3 : Int) ∧ InR .i64 (k3 : Int) ∧ (x4).length = (a).length ∧ St w0 wd8 [(Ty.sl (Ty.sl (Ty.sl (Ty.i .i64)))).at v_a x4, R] := hI11
      replace hb10 : p_laws_markInt64SSS_L1  k3 x4 x5 = some ct6 := hb10
      unfold p_laws_markInt64SSS_L1 at hb10
      obtain ⟨hf14, hf15, hr16, hf17, hr18, hL19, hS20⟩ := hI11
      refine W.seq (W.seq (W.region ?_))
      refine WL.val (Value.int .i64 (k3 : Int)) _ (op_move hf17) rfl ?_
      refine WL.val v_a _ (op_move hf14) rfl ?_
      have hr21 := inR_len (St.rep (t := (Ty.sl (Ty.sl (Ty.sl (Ty.i .i64))))) hS20 0 rfl)
      refine WL.val (Value.int .i64 ((x4).length : Int)) _ (op_lenL sl_22 (St.rep (t := (Ty.sl (Ty.sl (Ty.sl (Ty.i .i64))))) hS20 0 rfl) rfl) rfl ?_
      refine WL.val (Value.bool (decide ((k3 : Int) < ((x4).length : Int)))) _ (op_lss rfl rfl) rfl ?_
      have hl22 : (k3 : Int) < ((x4).length : Int) := by omega
      refine WL.nil ?_
      show W _ _ _ _ _ _
      refine W.condT (decide ((k3 : Int) < ((x4).length : Int))) rfl (decide_eq_true hl22) ?_
      refine W.skip ?_
      show W _ _ _ _ _ _
      refine W.seq ?_
      refine W.block ?_
      refine W.region ?_
      refine WL.val v_a _ (op_move hf14) rfl ?_
      refine WL.val (Value.int .i64 (k3 : Int)) _ (op_move hf17) rfl ?_
      obtain ⟨x24, hx27, hb10⟩ := bs hb10
      obtain ⟨ha25, hb26, hx27⟩ := idx_some hx27
      refine WL.val (Value.pointer (some (elA v_a ((k3 : Int)).toNat))) _ (op_idx sl_22 (St.rep (t := (Ty.sl (Ty.sl (Ty.sl (Ty.i .i64))))) hS20 0 rfl) rfl rfl ha25 hb26) rfl ?_
      obtain ⟨u28, hc29, hr30⟩ := repSl.el (St.rep (t := (Ty.sl (Ty.sl (Ty.sl (Ty.i .i64))))) hS20 0 rfl) hx27
      refine WL.val u28 _ (op_load one_57 rfl hc29) rfl ?_
      refine WL.val (Value.int .i64 x5) _ (op_move hf15) rfl ?_
      have hS31 := St.unrow (k := 0) hS20 rfl hx27 hc29
      replace hS31 : St w0 wd8 [holeAt (Ty.sl (Ty.sl (Ty.i .i64))) v_a x4 ((k3 : Int)).toNat u28, R, (Ty.sl (Ty.sl (Ty.i .i64))).at u28 x24] := hS31
      obtain ⟨x32, hx33, hb10⟩ := bs hb10
      have hS34 := St.fold [(Ty.sl (Ty.sl (Ty.i .i64))).at u28 x24] [holeAt (Ty.sl (Ty.sl (Ty.i .i64))) v_a x4 ((k3 : Int)).toNat u28, R] (St.pick hS31 [2, 0, 1] rfl)
      refine WL.call _ (op_call fn_69 (args2 rfl rfl)) (c_laws_markInt64SS hS34 hr16 hx33) rfl ?_
      rintro _ wd37 ⟨rfl, hr38, hS35⟩
      have hS36 := St.pick (St.unfold [(Ty.sl (Ty.sl (Ty.i .i64))).at u28 x32.2] [holeAt (Ty.sl (Ty.sl (Ty.i .i64))) v_a x4 ((k3 : Int)).toNat u28, R] hS35) [1, 2, 0] rfl
      replace hS36 : St w0 wd37 [holeAt (Ty.sl (Ty.sl (Ty.i .i64))) v_a x4 ((k3 : Int)).toNat u28, R, (Ty.sl (Ty.sl (Ty.i .i64))).at u28 x32.2] := hS36
      have hS39 := St.rerow (k := 0) (k2 := 2) hS36 rfl rfl rfl
      replace hS39 : St w0 wd37 [(Ty.sl (Ty.sl (Ty.sl (Ty.i .i64)))).at v_a ((x4).set ((k3 : Int)).toNat x32.2), R, emp] := hS39
      refine WL.val (Value.int .i64 x32.1) _ (op_assign rfl) rfl ?_
      refine WL.nil ?_
      show W _ _ _ _ _ _
      refine W.region ?_
      refine WL.val (Value.int .i64 (k3 : Int)) _ (op_move hf17) rfl ?_
      refine WL.val (Value.int .i64 (w64 ((k3 : Int) + (1 : Int)))) _ (op_add rfl rfl) rfl ?_
      refine WL.val (Value.int .i64 (w64 ((k3 : Int) + (1 : Int)))) _ (op_assign rfl) rfl ?_
      refine WL.nil ?_
      obtain rfl := Option.some.inj hb10
      show ∃ s, _ = Ctl.next s ∧ _
      exact ⟨_, rfl, hf14, rfl, hr38, (ctr_next hl22 hr21), (ctr_rng hl22 hr21), (by first | exact hL19 | (simp only [List.length_set]; exact hL19)), (St.pick hS39 [0, 1] rfl)⟩
    · intro s45 f41 wd42 hs43 hI44
      obtain ⟨x46, x47⟩ := s45
      replace hI44 : f41 0 = v_a ∧ f41 1 = Value.int .i64 x47 ∧ InR .i64 x47 ∧ f41 5 = Value.int .i64 (((a).length : Nat) : Int) ∧ InR .i64 (((a).length : Nat) : Int) ∧ (x46).length = (a).length ∧ St w0 wd42 [(Ty.sl (Ty.sl (Ty.sl (Ty.i .i64)))).at v_a x46, R] := hI44
      obtain ⟨hf48, hf49, hr50, hf51, hr52, hL53, hS54⟩ := hI44
      refine W.seq (W.seq (W.region ?_))
      refine WL.val (Value.int .i64 (((a).length : Nat) : Int)) _ (op_move hf51) rfl ?_
      refine WL.val v_a _ (op_move hf48) rfl ?_
      have hr55 := inR_len (St.rep (t := (Ty.sl (Ty.sl (Ty.sl (Ty.i .i64))))) hS54 0 rfl)
      refine WL.val (Value.int .i64 ((x46).length : Int)) _ (op_lenL sl_22 (St.rep (t := (Ty.sl (Ty.sl (Ty.sl (Ty.i .i64))))) hS54 0 rfl) rfl) rfl ?_
      refine WL.val (Value.bool (decide ((((a).length : Nat) : Int) < ((x46).length : Int)))) _ (op_lss rfl rfl) rfl ?_
      have hl56 : ¬ (((a).length : Nat) : Int) < ((x46).length : Int) := by omega
      refine WL.nil ?_
      show W _ _ _ _ _ _
      refine W.condF (decide ((((a).length : Nat) : Int) < ((x46).length : Int))) rfl (decide_eq_false hl56) ?_
      refine W.exit ?_
      show _ = _ ∧ _
      exact ⟨rfl, _, hs43, hf49, hr50, (by first | exact hL53 | (simp only [List.length_set]; exact hL53)), hS54⟩
  · rintro f57 wd58 ⟨s60, rfl, hq59⟩
    replace h := onRes_fin h
    obtain ⟨x61, x62⟩ := s60
    replace hq59 : f57 1 = Value.int .i64 x62 ∧ InR .i64 x62 ∧ (x61).length = (a).length ∧ St w0 wd58 [(Ty.sl (Ty.sl (Ty.sl (Ty.i .i64)))).at v_a x61, R] := hq59
    replace h : (_ : Option _) = _ := h
    dsimp only at h
    obtain ⟨hf63, hr64, hL65, hS66⟩ := hq59
    show W _ _ _ _ _ _
    refine W.seq (W.region ?_)
    refine WL.val (Value.int .i64 x62) _ (op_move hf63) rfl ?_
    refine WL.val (Value.int .i64 x62) _ (op_assign rfl) rfl ?_
    refine WL.nil ?_
    show W _ _ _ _ _ _
    refine W.ret ?_
    obtain rfl := Option.some.inj h
    show FinP _ _ _ _ _ _ _
    exact FinP.ret _ (res1 rfl rfl) ⟨rfl, hr64, (St.pick hS66 [0, 1] rfl)⟩

theorem c_laws_markRing {w : World} {a_Table : (List (List (List Int)))} {v_a_Table : Value} {k1 : Int} {w0 : World} {R : Ent} (hS0 : St w0 w [(Ty.sl (Ty.sl (Ty.sl (Ty.i .i64)))).at v_a_Table a_Table, R]) (r_k1 : InR .i64 k1) {res : Int × (List (List (List Int)))} (h : p_laws_markRing a_Table k1  = some res) :
    Ret Try.prog 15 #[(Value.agg #[v_a_Table]), (Value.int .i64 k1)] w (fun v w' => v = Value.int .i64 res.1 ∧ InR .i64 res.1 ∧ St w0 w' [(Ty.sl (Ty.sl (Ty.sl (Ty.i .i64)))).at v_a_Table res.2, R]) := by
  unfold p_laws_markRing at h
  refine Ret.start (fn := Try.f15) Try.func15 rfl 10 rfl rfl ?_
  refine W.seq (W.region ?_)
  refine WL.box hS0 rfl (cs := [v_a_Table]) rfl rfl ?_
  intro b1 wd2 hS3 he4 hx5
  replace hS3 : St w0 wd2 [(Ty.sl (Ty.sl (Ty.sl (Ty.i .i64)))).at v_a_Table a_Table, R, bx b1 [v_a_Table]] := hS3
  refine WL.val (Value.int .i64 (0 : Int)) _ (op_assign rfl) rfl ?_
  refine WL.nil ?_
  show W _ _ _ _ _ _
  refine W.seq (W.region ?_)
  refine WL.val (Value.pointer (some ⟨b1, 0, none⟩)) _ (op_fieldAddr fd_26_0 rfl) rfl ?_
  refine WL.val v_a_Table _ (op_load one_22 rfl (BoxAt.cell (St.boxAt hS3 2 rfl) rfl)) rfl ?_
  refine WL.val (Value.int .i64 k1) _ (op_move rfl) rfl ?_
  obtain ⟨x6, hx7, h⟩ := bs h
  have hS8 := St.fold [(Ty.sl (Ty.sl (Ty.sl (Ty.i .i64)))).at v_a_Table a_Table] [R, bx b1 [v_a_Table]] (St.pick hS3 [0, 1, 2] rfl)
  refine WL.call _ (op_call fn_41 (args2 rfl rfl)) (c_laws_markInt64SSS hS8 r_k1 hx7) rfl ?_
  rintro _ wd11 ⟨rfl, hr12, hS9⟩
  have hS10 := St.pick (St.unfold [(Ty.sl (Ty.sl (Ty.sl (Ty.i .i64)))).at v_a_Table x6.2] [R, bx b1 [v_a_Table]] hS9) [0, 1, 2] rfl
  replace hS10 : St w0 wd11 [(Ty.sl (Ty.sl (Ty.sl (Ty.i .i64)))).at v_a_Table x6.2, R, bx b1 [v_a_Table]] := hS10
  refine WL.val (Value.int .i64 x6.1) _ (op_assign rfl) rfl ?_
  refine WL.nil ?_
  show W _ _ _ _ _ _
  refine W.seq (W.region ?_)
  refine WL.val (Value.int .i64 x6.1) _ (op_move rfl) rfl ?_
  refine WL.val (Value.int .i64 x6.1) _ (op_assign rfl) rfl ?_
  refine WL.nil ?_
  show W _ _ _ _ _ _
  refine W.ret ?_
  obtain rfl := Option.some.inj h
  show FinP _ _ _ _ _ _ _
  exact FinP.ret _ (res1 rfl rfl) ⟨rfl, hr12, (St.pick hS10 [0, 1] rfl)⟩

theorem c_laws_heldInt64S {w : World} {a : (List Int)} {v_a : Value} {k1 : Int} (r_a : (Ty.sl (Ty.i .i64)).rep w v_a a) (r_k1 : InR .i64 k1) {res : Int} (h : p_laws_heldInt64S a k1  = some res) :
    Ret Try.prog 23 #[v_a, (Value.int .i64 k1)] w (fun v w' => v = Value.int .i64 res ∧ InR .i64 res ∧ Ext w w') := by
  unfold p_laws_heldInt64S at h
  have hS0 : St w w [] := St.start w
  refine Ret.start (fn := Try.f23) Try.func23 rfl 21 rfl rfl ?_
  refine W.seq (W.region ?_)
  refine WL.val (Value.int .i64 (0 : Int)) _ (op_assign rfl) rfl ?_
  refine WL.nil ?_
  show W _ _ _ _ _ _
  refine W.seq (W.seq (W.region ?_))
  refine WL.val (Value.int .i64 (0 : Int)) _ (op_assign rfl) rfl ?_
  refine WL.nil ?_
  show W _ _ _ _ _ _
  obtain ⟨res1, hres2, h⟩ := bs h
  refine W.blockLoop (fun fq wq => ∃ s, res1 = Res.fin s ∧ fq 1 = Value.int .i64 s ∧ InR .i64 s ∧ St w wq []) ?_ ?_
  · refine W.forN (fun k (s : Int) fq wq => fq 0 = v_a ∧ fq 1 = Value.int .i64 s ∧ InR .i64 s ∧ fq 5 = Value.int .i64 (k : Int) ∧ InR .i64 (k : Int) ∧ St w wq []) hres2 ⟨rfl, rfl, r_k1, rfl, (inR_i64.2 (show (-9223372036854775808 : Int) ≤ 0 ∧ (0 : Int) ≤ 9223372036854775807 from by decide)), hS0⟩ ?_ ?_
    · intro k3 x4 ct5 f6 wd7 hk8 hb9 hI10 hbrk11 hret12
      replace hI10 : f6 0 = v_a ∧ f6 1 = Value.int .i64 x4 ∧ InR .i64 x4 ∧ f6 5 = Value.int .i64 (k3 : Int) ∧ InR .i64 (k3 : Int) ∧ St w wd7 [] := hI10
      replace hb9 : p_laws_heldInt64S_L1 a k3 x4 = some ct5 := hb9
      unfold p_laws_heldInt64S_L1 at hb9
      obtain ⟨hf13, hf14, hr15, hf16, hr17, hS18⟩ := hI10
      refine W.seq (W.seq (W.region ?_))
      refine WL.val (Value.int .i64 (k3 : Int)) _ (op_move hf16) rfl ?_
      refine WL.val v_a _ (op_move hf13) rfl ?_
      have hr19 := inR_len (Ty.lift _ hS18.ext r_a)
      refine WL.val (Value.int .i64 ((a).length : Int)) _ (op_lenL sl_35 (Ty.lift _ hS18.ext r_a) rfl) rfl ?_
      refine WL.val (Value.bool (decide ((k3 : Int) < ((a).length : Int)))) _ (op_lss rfl rfl) rfl ?_
      have hl20 : (k3 : Int) < ((a).length : Int) := by omega
      refine WL.nil ?_
      show W _ _ _ _ _ _
      refine W.condT (decide ((k3 : Int) < ((a).length : Int))) rfl (decide_eq_true hl20) ?_
      refine W.skip ?_
      show W _ _ _ _ _ _
      refine W.seq ?_
      refine W.block ?_
      refine W.seq (W.seq (W.region ?_))
      refine WL.val v_a _ (op_move hf13) rfl ?_
      refine WL.val (Value.int .i64 (k3 : Int)) _ (op_move hf16) rfl ?_
      obtain ⟨x22, hx25, hb9⟩ := bs hb9
      obtain ⟨ha23, hb24, hx25⟩ := idx_some hx25
      refine WL.val (Value.pointer (some (elA v_a ((k3 : Int)).toNat))) _ (op_idx sl_35 (Ty.lift _ hS18.ext r_a) rfl rfl ha23 hb24) rfl ?_
      obtain ⟨u26, hc27, hr28⟩ := repSl.el r_a hx25
      obtain ⟨rfl, hr28⟩ := hr28
      refine WL.val (Value.int .i64 x22) _ (op_load one_2 rfl (Ext.cell hS18.ext hc27)) rfl ?_
      refine WL.val (Value.int .i64 x4) _ (op_move hf14) rfl ?_
      refine WL.val (Value.bool (x22 != x4)) _ (op_neq rfl rfl) rfl ?_
      refine WL.nil ?_
      show W _ _ _ _ _ _
      refine W.cond (x22 != x4) rfl (fun hc29 => ?_) (fun hc29 => ?_)
      · replace hb9 := ip hb9 hc29
        refine W.seq (W.region ?_)
        refine WL.val (Value.int .i64 (-1 : Int)) _ (op_assign rfl) rfl ?_
        refine WL.nil ?_
        show W _ _ _ _ _ _
        refine W.ret ?_
        obtain rfl := Option.some.inj hb9
        obtain rfl := hret12 _ rfl
        replace h := onRes_ret h
        obtain rfl := Option.some.inj h
        show FinP _ _ _ _ _ _ _
        exact FinP.ret _ (res1 rfl rfl) ⟨rfl, (inR_i64.2 (show (-9223372036854775808 : Int) ≤ -1 ∧ (-1 : Int) ≤ 9223372036854775807 from by decide)), hS18.ext⟩
      · replace hb9 := inegb hb9 hc29
        refine W.skip ?_
        show W _ _ _ _ _ _
        refine W.region ?_
        refine WL.val (Value.int .i64 x4) _ (op_move hf14) rfl ?_
        refine WL.val (Value.int .i64 (w64 (x4 + (1 : Int)))) _ (op_add rfl rfl) rfl ?_
        refine WL.val (Value.int .i64 (w64 (x4 + (1 : Int)))) _ (op_assign rfl) rfl ?_
        refine WL.nil ?_
        show W _ _ _ _ _ _
        refine W.region ?_
        refine WL.val (Value.int .i64 (k3 : Int)) _ (op_move hf16) rfl ?_
        refine WL.val (Value.int .i64 (w64 ((k3 : Int) + (1 : Int)))) _ (op_add rfl rfl) rfl ?_
        refine WL.val (Value.int .i64 (w64 ((k3 : Int) + (1 : Int)))) _ (op_assign rfl) rfl ?_
        refine WL.nil ?_
        obtain rfl := Option.some.inj hb9
        show ∃ s, _ = Ctl.next s ∧ _
        exact ⟨_, rfl, hf13, rfl, (inR_wrap _ _), (ctr_next hl20 hr19), (ctr_rng hl20 hr19), hS18⟩
    · intro x37 f32 wd33 hs34 hI35
      replace hI35 : f32 0 = v_a ∧ f32 1 = Value.int .i64 x37 ∧ InR .i64 x37 ∧ f32 5 = Value.int .i64 (((a).length : Nat) : Int) ∧ InR .i64 (((a).length : Nat) : Int) ∧ St w wd33 [] := hI35
      obtain ⟨hf38, hf39, hr40, hf41, hr42, hS43⟩ := hI35
      refine W.seq (W.seq (W.region ?_))
      refine WL.val (Value.int .i64 (((a).length : Nat) : Int)) _ (op_move hf41) rfl ?_
      refine WL.val v_a _ (op_move hf38) rfl ?_
      have hr44 := inR_len (Ty.lift _ hS43.ext r_a)
      refine WL.val (Value.int .i64 ((a).length : Int)) _ (op_lenL sl_35 (Ty.lift _ hS43.ext r_a) rfl) rfl ?_
      refine WL.val (Value.bool (decide ((((a).length : Nat) : Int) < ((a).length : Int)))) _ (op_lss rfl rfl) rfl ?_
      have hl45 : ¬ (((a).length : Nat) : Int) < ((a).length : Int) := by omega
      refine WL.nil ?_
      show W _ _ _ _ _ _
      refine W.condF (decide ((((a).length : Nat) : Int) < ((a).length : Int))) rfl (decide_eq_false hl45) ?_
      refine W.exit ?_
      show _ = _ ∧ _
      exact ⟨rfl, _, hs34, hf39, hr40, hS43⟩
  · rintro f46 wd47 ⟨x50, rfl, hq48⟩
    replace h := onRes_fin h
    replace hq48 : f46 1 = Value.int .i64 x50 ∧ InR .i64 x50 ∧ St w wd47 [] := hq48
    obtain ⟨hf51, hr52, hS53⟩ := hq48
    show W _ _ _ _ _ _
    refine W.seq (W.region ?_)
    refine WL.val (Value.int .i64 x50) _ (op_move hf51) rfl ?_
    refine WL.val (Value.int .i64 x50) _ (op_assign rfl) rfl ?_
    refine WL.nil ?_
    show W _ _ _ _ _ _
    refine W.ret ?_
    obtain rfl := Option.some.inj h
    show FinP _ _ _ _ _ _ _
    exact FinP.ret _ (res1 rfl rfl) ⟨rfl, hr52, hS53.ext⟩

theorem c_laws_heldInt64SS {w : World} {a : (List (List Int))} {v_a : Value} {k1 : Int} (r_a : (Ty.sl (Ty.sl (Ty.i .i64))).rep w v_a a) (r_k1 : InR .i64 k1) {res : Int} (h : p_laws_heldInt64SS a k1  = some res) :
    Ret Try.prog 70 #[v_a, (Value.int .i64 k1)] w (fun v w' => v = Value.int .i64 res ∧ InR .i64 res ∧ Ext w w') := by
  unfold p_laws_heldInt64SS at h
  have hS0 : St w w [] := St.start w
  refine Ret.start (fn := Try.f70) Try.func70 rfl 21 rfl rfl ?_
  refine W.seq (W.region ?_)
  refine WL.val (Value.int .i64 (0 : Int)) _ (op_assign rfl) rfl ?_
  refine WL.nil ?_
  show W _ _ _ _ _ _
  refine W.seq (W.seq (W.region ?_))
  refine WL.val (Value.int .i64 (0 : Int)) _ (op_assign rfl) rfl ?_
  refine WL.nil ?_
  show W _ _ _ _ _ _
  obtain ⟨res1, hres2, h⟩ := bs h
  refine W.blockLoop (fun fq wq => ∃ s, res1 = Res.fin s ∧ fq 1 = Value.int .i64 s ∧ InR .i64 s ∧ St w wq []) ?_ ?_
  · refine W.forN (fun k (s : Int) fq wq => fq 0 = v_a ∧ fq 1 = Value.int .i64 s ∧ InR .i64 s ∧ fq 5 = Value.int .i64 (k : Int) ∧ InR .i64 (k : Int) ∧ St w wq []) hres2 ⟨rfl, rfl, r_k1, rfl, (inR_i64.2 (show (-9223372036854775808 : Int) ≤ 0 ∧ (0 : Int) ≤ 9223372036854775807 from by decide)), hS0⟩ ?_ ?_
    · intro k3 x4 ct5 f6 wd7 hk8 hb9 hI10 hbrk11 hret12
      replace hI10 : f6 0 = v_a ∧ f6 1 = Value.int .i64 x4 ∧ InR .i64 x4 ∧ f6 5 = Value.int .i64 (k3 : Int) ∧ InR .i64 (k3 : Int) ∧ St w wd7 [] := hI10
      replace hb9 : p_laws_heldInt64SS_L1 a k3 x4 = some ct5 := hb9
      unfold p_laws_heldInt64SS_L1 at hb9
      obtain ⟨hf13, hf14, hr15, hf16, hr17, hS18⟩ := hI10
      refine W.seq (W.seq (W.region ?_))
      refine WL.val (Value.int .i64 (k3 : Int)) _ (op_move hf16) rfl ?_
      refine WL.val v_a _ (op_move hf13) rfl ?_
      have hr19 := inR_len (Ty.lift _ hS18.ext r_a)
      refine WL.val (Value.int .i64 ((a).length : Int)) _ (op_lenL sl_57 (Ty.lift _ hS18.ext r_a) rfl) rfl ?_
      refine WL.val (Value.bool (decide ((k3 : Int) < ((a).length : Int)))) _ (op_lss rfl rfl) rfl ?_
      have hl20 : (k3 : Int) < ((a).length : Int) := by omega
      refine WL.nil ?_
      show W _ _ _ _ _ _
      refine W.condT (decide ((k3 : Int) < ((a).length : Int))) rfl (decide_eq_true hl20) ?_
      refine W.skip ?_
      show W _ _ _ _ _ _
      refine W.seq ?_
      refine W.block ?_
      refine W.seq (W.region ?_)
      refine WL.val v_a _ (op_move hf13) rfl ?_
      refine WL.val (Value.int .i64 (k3 : Int)) _ (op_move hf16) rfl ?_
      obtain ⟨x22, hx25, hb9⟩ := bs hb9
      obtain ⟨ha23, hb24, hx25⟩ := idx_some hx25
      refine WL.val (Value.pointer (some (elA v_a ((k3 : Int)).toNat))) _ (op_idx sl_57 (Ty.lift _ hS18.ext r_a) rfl rfl ha23 hb24) rfl ?_
      obtain ⟨u26, hc27, hr28⟩ := repSl.el r_a hx25
      refine WL.val u26 _ (op_load one_35 rfl (Ext.cell hS18.ext hc27)) rfl ?_
      refine WL.val (Value.int .i64 x4) _ (op_move hf14) rfl ?_
      obtain ⟨x29, hx30, hb9⟩ := bs hb9
      refine WL.call _ (op_call fn_23 (args2 rfl rfl)) (c_laws_heldInt64S (Ty.lift _ hS18.ext hr28) hr15 hx30) rfl ?_
      rintro _ wd32 ⟨rfl, hr31, he33⟩
      have hS35 := St.extend hS18 he33
      replace hS35 : St w wd32 [] := hS35
      refine WL.val (Value.int .i64 x29) _ (op_assign rfl) rfl ?_
      refine WL.nil ?_
      show W _ _ _ _ _ _
      refine W.seq (W.region ?_)
      refine WL.val (Value.int .i64 x29) _ (op_move rfl) rfl ?_
      refine WL.val (Value.bool (decide (x29 < (0 : Int)))) _ (op_lss rfl rfl) rfl ?_
      refine WL.nil ?_
      show W _ _ _ _ _ _
      refine W.cond (decide (x29 < (0 : Int))) rfl (fun hc36 => ?_) (fun hc36 => ?_)
      · replace hb9 := ip hb9 hc36
        refine W.seq (W.region ?_)
        refine WL.val (Value.int .i64 (-1 : Int)) _ (op_assign rfl) rfl ?_
        refine WL.nil ?_
        show W _ _ _ _ _ _
        refine W.ret ?_
        obtain rfl := Option.some.inj hb9
        obtain rfl := hret12 _ rfl
        replace h := onRes_ret h
        obtain rfl := Option.some.inj h
        show FinP _ _ _ _ _ _ _
        exact FinP.ret _ (res1 rfl rfl) ⟨rfl, (inR_i64.2 (show (-9223372036854775808 : Int) ≤ -1 ∧ (-1 : Int) ≤ 9223372036854775807 from by decide)), hS35.ext⟩
      · replace hb9 := inegb hb9 hc36
        refine W.skip ?_
        show W _ _ _ _ _ _
        refine W.region ?_
        refine WL.val (Value.int .i64 (k3 : Int)) _ (op_move hf16) rfl ?_
        refine WL.val (Value.int .i64 (w64 ((k3 : Int) + (1 : Int)))) _ (op_add rfl rfl) rfl ?_
        refine WL.val (Value.int .i64 (w64 ((k3 : Int) + (1 : Int)))) _ (op_assign rfl) rfl ?_
        refine WL.nil ?_
        obtain rfl := Option.some.inj hb9
        show ∃ s, _ = Ctl.next s ∧ _
        exact ⟨_, rfl, hf13, rfl, hr31, (ctr_next hl20 hr19), (ctr_rng hl20 hr19), hS35⟩
    · intro x44 f39 wd40 hs41 hI42
      replace hI42 : f39 0 = v_a ∧ f39 1 = Value.int .i64 x44 ∧ InR .i64 x44 ∧ f39 5 = Value.int .i64 (((a).length : Nat) : Int) ∧ InR .i64 (((a).length : Nat) : Int) ∧ St w wd40 [] := hI42
      obtain ⟨hf45, hf46, hr47, hf48, hr49, hS50⟩ := hI42
      refine W.seq (W.seq (W.region ?_))
      refine WL.val (Value.int .i64 (((a).length : Nat) : Int)) _ (op_move hf48) rfl ?_
      refine WL.val v_a _ (op_move hf45) rfl ?_
      have hr51 := inR_len (Ty.lift _ hS50.ext r_a)
      refine WL.val (Value.int .i64 ((a).length : Int)) _ (op_lenL sl_57 (Ty.lift _ hS50.ext r_a) rfl) rfl ?_
      refine WL.val (Value.bool (decide ((((a).length : Nat) : Int) < ((a).length : Int)))) _ (op_lss rfl rfl) rfl ?_
      have hl52 : ¬ (((a).length : Nat) : Int) < ((a).length : Int) := by omega
      refine WL.nil ?_
      show W _ _ _ _ _ _
      refine W.condF (decide ((((a).length : Nat) : Int) < ((a).length : Int))) rfl (decide_eq_false hl52) ?_
      refine W.exit ?_
      show _ = _ ∧ _
      exact ⟨rfl, _, hs41, hf46, hr47, hS50⟩
  · rintro f53 wd54 ⟨x57, rfl, hq55⟩
    replace h := onRes_fin h
    replace hq55 : f53 1 = Value.int .i64 x57 ∧ InR .i64 x57 ∧ St w wd54 [] := hq55
    obtain ⟨hf58, hr59, hS60⟩ := hq55
    show W _ _ _ _ _ _
    refine W.seq (W.region ?_)
    refine WL.val (Value.int .i64 x57) _ (op_move hf58) rfl ?_
    refine WL.val (Value.int .i64 x57) _ (op_assign rfl) rfl ?_
    refine WL.nil ?_
    show W _ _ _ _ _ _
    refine W.ret ?_
    obtain rfl := Option.some.inj h
    show FinP _ _ _ _ _ _ _
    exact FinP.ret _ (res1 rfl rfl) ⟨rfl, hr59, hS60.ext⟩

theorem c_laws_heldInt64SSS {w : World} {a : (List (List (List Int)))} {v_a : Value} {k1 : Int} (r_a : (Ty.sl (Ty.sl (Ty.sl (Ty.i .i64)))).rep w v_a a) (r_k1 : InR .i64 k1) {res : Int} (h : p_laws_heldInt64SSS a k1  = some res) :
    Ret Try.prog 42 #[v_a, (Value.int .i64 k1)] w (fun v w' => v = Value.int .i64 res ∧ InR .i64 res ∧ Ext w w') := by
  unfold p_laws_heldInt64SSS at h
  have hS0 : St w w [] := St.start w
  refine Ret.start (fn := Try.f42) Try.func42 rfl 21 rfl rfl ?_
  refine W.seq (W.region ?_)
  refine WL.val (Value.int .i64 (0 : Int)) _ (op_assign rfl) rfl ?_
  refine WL.nil ?_
  show W _ _ _ _ _ _
  refine W.seq (W.seq (W.region ?_))
  refine WL.val (Value.int .i64 (0 : Int)) _ (op_assign rfl) rfl ?_
  refine WL.nil ?_
  show W _ _ _ _ _ _
  obtain ⟨res1, hres2, h⟩ := bs h
  refine W.blockLoop (fun fq wq => ∃ s, res1 = Res.fin s ∧ fq 1 = Value.int .i64 s ∧ InR .i64 s ∧ St w wq []) ?_ ?_
  · refine W.forN (fun k (s : Int) fq wq => fq 0 = v_a ∧ fq 1 = Value.int .i64 s ∧ InR .i64 s ∧ fq 5 = Value.int .i64 (k : Int) ∧ InR .i64 (k : Int) ∧ St w wq []) hres2 ⟨rfl, rfl, r_k1, rfl, (inR_i64.2 (show (-9223372036854775808 : Int) ≤ 0 ∧ (0 : Int) ≤ 9223372036854775807 from by decide)), hS0⟩ ?_ ?_
    · intro k3 x4 ct5 f6 wd7 hk8 hb9 hI10 hbrk11 hret12
      replace hI10 : f6 0 = v_a ∧ f6 1 = Value.int .i64 x4 ∧ InR .i64 x4 ∧ f6 5 = Value.int .i64 (k3 : Int) ∧ InR .i64 (k3 : Int) ∧ St w wd7 [] := hI10
      replace hb9 : p_laws_heldInt64SSS_L1 a k3 x4 = some ct5 := hb9
      unfold p_laws_heldInt64SSS_L1 at hb9
      obtain ⟨hf13, hf14, hr15, hf16, hr17, hS18⟩ := hI10
      refine W.seq (W.seq (W.region ?_))
      refine WL.val (Value.int .i64 (k3 : Int)) _ (op_move hf16) rfl ?_
      refine WL.val v_a _ (op_move hf13) rfl ?_
      have hr19 := inR_len (Ty.lift _ hS18.ext r_a)
      refine WL.val (Value.int .i64 ((a).length : Int)) _ (op_lenL sl_22 (Ty.lift _ hS18.ext r_a) rfl) rfl ?_
      refine WL.val (Value.bool (decide ((k3 : Int) < ((a).length : Int)))) _ (op_lss rfl rfl) rfl ?_
      have hl20 : (k3 : Int) < ((a).length : Int) := by omega
      refine WL.nil ?_
      show W _ _ _ _ _ _
      refine W.condT (decide ((k3 : Int) < ((a).length : Int))) rfl (decide_eq_true hl20) ?_
      refine W.skip ?_
      show W _ _ _ _ _ _
      refine W.seq ?_
      refine W.block ?_
      refine W.seq (W.region ?_)
      refine WL.val v_a _ (op_move hf13) rfl ?_
      refine WL.val (Value.int .i64 (k3 : Int)) _ (op_move hf16) rfl ?_
      obtain ⟨x22, hx25, hb9⟩ := bs hb9
      obtain ⟨ha23, hb24, hx25⟩ := idx_some hx25
      refine WL.val (Value.pointer (some (elA v_a ((k3 : Int)).toNat))) _ (op_idx sl_22 (Ty.lift _ hS18.ext r_a) rfl rfl ha23 hb24) rfl ?_
      obtain ⟨u26, hc27, hr28⟩ := repSl.el r_a hx25
      refine WL.val u26 _ (op_load one_57 rfl (Ext.cell hS18.ext hc27)) rfl ?_
      refine WL.val (Value.int .i64 x4) _ (op_move hf14) rfl ?_
      obtain ⟨x29, hx30, hb9⟩ := bs hb9
      refine WL.call _ (op_call fn_70 (args2 rfl rfl)) (c_laws_heldInt64SS (Ty.lift _ hS18.ext hr28) hr15 hx30) rfl ?_
      rintro _ wd32 ⟨rfl, hr31, he33⟩
      have hS35 := St.extend hS18 he33
      replace hS35 : St w wd32 [] := hS35
      refine WL.val (Value.int .i64 x29) _ (op_assign rfl) rfl ?_
      refine WL.nil ?_
      show W _ _ _ _ _ _
      refine W.seq (W.region ?_)
      refine WL.val (Value.int .i64 x29) _ (op_move rfl) rfl ?_
      refine WL.val (Value.bool (decide (x29 < (0 : Int)))) _ (op_lss rfl rfl) rfl ?_
      refine WL.nil ?_
      show W _ _ _ _ _ _
      refine W.cond (decide (x29 < (0 : Int))) rfl (fun hc36 => ?_) (fun hc36 => ?_)
      · replace hb9 := ip hb9 hc36
        refine W.seq (W.region ?_)
        refine WL.val (Value.int .i64 (-1 : Int)) _ (op_assign rfl) rfl ?_
        refine WL.nil ?_
        show W _ _ _ _ _ _
        refine W.ret ?_
        obtain rfl := Option.some.inj hb9
        obtain rfl := hret12 _ rfl
        replace h := onRes_ret h
        obtain rfl := Option.some.inj h
        show FinP _ _ _ _ _ _ _
        exact FinP.ret _ (res1 rfl rfl) ⟨rfl, (inR_i64.2 (show (-9223372036854775808 : Int) ≤ -1 ∧ (-1 : Int) ≤ 9223372036854775807 from by decide)), hS35.ext⟩
      · replace hb9 := inegb hb9 hc36
        refine W.skip ?_
        show W _ _ _ _ _ _
        refine W.region ?_
        refine WL.val (Value.int .i64 (k3 : Int)) _ (op_move hf16) rfl ?_
        refine WL.val (Value.int .i64 (w64 ((k3 : Int) + (1 : Int)))) _ (op_add rfl rfl) rfl ?_
        refine WL.val (Value.int .i64 (w64 ((k3 : Int) + (1 : Int)))) _ (op_assign rfl) rfl ?_
        refine WL.nil ?_
        obtain rfl := Option.some.inj hb9
        show ∃ s, _ = Ctl.next s ∧ _
        exact ⟨_, rfl, hf13, rfl, hr31, (ctr_next hl20 hr19), (ctr_rng hl20 hr19), hS35⟩
    · intro x44 f39 wd40 hs41 hI42
      replace hI42 : f39 0 = v_a ∧ f39 1 = Value.int .i64 x44 ∧ InR .i64 x44 ∧ f39 5 = Value.int .i64 (((a).length : Nat) : Int) ∧ InR .i64 (((a).length : Nat) : Int) ∧ St w wd40 [] := hI42
      obtain ⟨hf45, hf46, hr47, hf48, hr49, hS50⟩ := hI42
      refine W.seq (W.seq (W.region ?_))
      refine WL.val (Value.int .i64 (((a).length : Nat) : Int)) _ (op_move hf48) rfl ?_
      refine WL.val v_a _ (op_move hf45) rfl ?_
      have hr51 := inR_len (Ty.lift _ hS50.ext r_a)
      refine WL.val (Value.int .i64 ((a).length : Int)) _ (op_lenL sl_22 (Ty.lift _ hS50.ext r_a) rfl) rfl ?_
      refine WL.val (Value.bool (decide ((((a).length : Nat) : Int) < ((a).length : Int)))) _ (op_lss rfl rfl) rfl ?_
      have hl52 : ¬ (((a).length : Nat) : Int) < ((a).length : Int) := by omega
      refine WL.nil ?_
      show W _ _ _ _ _ _
      refine W.condF (decide ((((a).length : Nat) : Int) < ((a).length : Int))) rfl (decide_eq_false hl52) ?_
      refine W.exit ?_
      show _ = _ ∧ _
      exact ⟨rfl, _, hs41, hf46, hr47, hS50⟩
  · rintro f53 wd54 ⟨x57, rfl, hq55⟩
    replace h := onRes_fin h
    replace hq55 : f53 1 = Value.int .i64 x57 ∧ InR .i64 x57 ∧ St w wd54 [] := hq55
    obtain ⟨hf58, hr59, hS60⟩ := hq55
    show W _ _ _ _ _ _
    refine W.seq (W.region ?_)
    refine WL.val (Value.int .i64 x57) _ (op_move hf58) rfl ?_
    refine WL.val (Value.int .i64 x57) _ (op_assign rfl) rfl ?_
    refine WL.nil ?_
    show W _ _ _ _ _ _
    refine W.ret ?_
    obtain rfl := Option.some.inj h
    show FinP _ _ _ _ _ _ _
    exact FinP.ret _ (res1 rfl rfl) ⟨rfl, hr59, hS60.ext⟩

theorem c_laws_heldRing {w : World} {a_Table : (List (List (List Int)))} {v_a_Table : Value} {k1 : Int} (r_a_Table : (Ty.sl (Ty.sl (Ty.sl (Ty.i .i64)))).rep w v_a_Table a_Table) (r_k1 : InR .i64 k1) {res : Int} (h : p_laws_heldRing a_Table k1  = some res) :
    Ret Try.prog 16 #[(Value.agg #[v_a_Table]), (Value.int .i64 k1)] w (fun v w' => v = Value.int .i64 res ∧ InR .i64 res ∧ Ext w w') := by
  unfold p_laws_heldRing at h
  have hS0 : St w w [] := St.start w
  refine Ret.start (fn := Try.f16) Try.func16 rfl 12 rfl rfl ?_
  refine W.seq (W.region ?_)
  refine WL.box hS0 rfl (cs := [v_a_Table]) rfl rfl ?_
  intro b1 wd2 hS3 he4 hx5
  replace hS3 : St w wd2 [bx b1 [v_a_Table]] := hS3
  have hx6 := St.boxAt hS3 0 rfl
  have hE7 : Ext w wd2 := hS3.ext
  have hS8 : St wd2 wd2 [] := St.start wd2
  refine WL.val (Value.int .i64 (0 : Int)) _ (op_assign rfl) rfl ?_
  refine WL.nil ?_
  show W _ _ _ _ _ _
  refine W.seq (W.region ?_)
  refine WL.val (Value.pointer (some ⟨b1, 0, none⟩)) _ (op_fieldAddr fd_26_0 rfl) rfl ?_
  refine WL.val v_a_Table _ (op_load one_22 rfl (BoxAt.cell (BoxAt.lift hS8.ext hx6) rfl)) rfl ?_
  refine WL.val (Value.int .i64 k1) _ (op_move rfl) rfl ?_
  obtain ⟨x9, hx10, h⟩ := bs h
  refine WL.call _ (op_call fn_42 (args2 rfl rfl)) (c_laws_heldInt64SSS (Ty.lift _ (Ext.trans hE7 hS8.ext) r_a_Table) r_k1 hx10) rfl ?_
  rintro _ wd12 ⟨rfl, hr11, he13⟩
  have hS15 := St.extend hS8 he13
  replace hS15 : St wd2 wd12 [] := hS15
  refine WL.val (Value.int .i64 x9) _ (op_assign rfl) rfl ?_
  refine WL.nil ?_
  show W _ _ _ _ _ _
  refine W.seq (W.seq (W.region ?_))
  refine WL.val (Value.int .i64 x9) _ (op_move rfl) rfl ?_
  refine WL.val (Value.bool (decide (x9 < (0 : Int)))) _ (op_lss rfl rfl) rfl ?_
  refine WL.nil ?_
  show W _ _ _ _ _ _
  refine W.cond (decide (x9 < (0 : Int))) rfl (fun hc16 => ?_) (fun hc16 => ?_)
  · replace h := ip h hc16
    refine W.seq (W.region ?_)
    refine WL.val (Value.int .i64 (-1 : Int)) _ (op_assign rfl) rfl ?_
    refine WL.nil ?_
    show W _ _ _ _ _ _
    refine W.ret ?_
    obtain rfl := Option.some.inj h
    show FinP _ _ _ _ _ _ _
    exact FinP.ret _ (res1 rfl rfl) ⟨rfl, (inR_i64.2 (show (-9223372036854775808 : Int) ≤ -1 ∧ (-1 : Int) ≤ 9223372036854775807 from by decide)), (Ext.trans hE7 hS15.ext)⟩
  · replace h := inegb h hc16
    refine W.skip ?_
    show W _ _ _ _ _ _
    refine W.seq (W.region ?_)
    refine WL.val (Value.int .i64 x9) _ (op_move rfl) rfl ?_
    refine WL.val (Value.int .i64 x9) _ (op_assign rfl) rfl ?_
    refine WL.nil ?_
    show W _ _ _ _ _ _
    refine W.ret ?_
    obtain rfl := Option.some.inj h
    show FinP _ _ _ _ _ _ _
    exact FinP.ret _ (res1 rfl rfl) ⟨rfl, hr11, (Ext.trans hE7 hS15.ext)⟩

theorem c_spec_l06Empty {w : World} {n : Int} (r_n : InR .i64 n) {res : (List (List (List Int)))} (h : p_spec_l06Empty n  = some res) :
    Ret Try.prog 71 #[(Value.int .i64 n)] w (fun v w' => ∃ (u0 : Value), v = u0 ∧ Ext w w' ∧ Sep w.heap.size w' [(Ty.sl (Ty.sl (Ty.sl (Ty.i .i64)))).at u0 res]) := by
  unfold p_spec_l06Empty at h
  have hS0 : St w w [] := St.start w
  refine Ret.start (fn := Try.f71) Try.func71 rfl 29 rfl rfl ?_
  refine W.seq (W.region ?_)
  refine WL.val (Value.slice none 0 0) _ (op_assign rfl) rfl ?_
  refine WL.nil ?_
  show W _ _ _ _ _ _
  refine W.seq (W.region ?_)
  refine WL.lit0 (t := (Ty.sl (Ty.sl (Ty.i .i64)))) hS0 sl_22 rfl rfl ?_
  intro u1 wd2 hS3 he4
  replace hS3 : St w wd2 [(Ty.sl (Ty.sl (Ty.sl (Ty.i .i64)))).at u1 ([] : (List (List (List Int))))] := hS3
  refine WL.val u1 _ (op_assign rfl) rfl ?_
  refine WL.nil ?_
  show W _ _ _ _ _ _
  refine W.seq (W.seq (W.region ?_))
  refine WL.val (Value.int .i64 (0 : Int)) _ (op_assign rfl) rfl ?_
  refine WL.nil ?_
  show W _ _ _ _ _ _
  obtain ⟨res5, hres6, h⟩ := bs h
  refine W.blockLoop (fun fq wq => ∃ s, res5 = Res.fin s ∧ ∃ (uu0 : Value), fq 3 = uu0 ∧ St w wq [(Ty.sl (Ty.sl (Ty.sl (Ty.i .i64)))).at uu0 s]) ?_ ?_
  · refine W.forN (fun k (s : (List (List (List Int)))) fq wq => ∃ (uu0 : Value), fq 0 = (Value.int .i64 n) ∧ fq 3 = uu0 ∧ fq 4 = Value.int .i64 (k : Int) ∧ InR .i64 (k : Int) ∧ St w wq [(Ty.sl (Ty.sl (Ty.sl (Ty.i .i64)))).at uu0 s]) hres6 ⟨u1, rfl, rfl, rfl, (inR_i64.2 (show (-9223372036854775808 : Int) ≤ 0 ∧ (0 : Int) ≤ 9223372036854775807 from by decide)), hS3⟩ ?_ ?_
    · intro k7 x8 ct9 f10 wd11 hk12 hb13 hI14 hbrk15 hret16
      replace hI14 : ∃ (uu0 : Value), f10 0 = (Value.int .i64 n) ∧ f10 3 = uu0 ∧ f10 4 = Value.int .i64 (k7 : Int) ∧ InR .i64 (k7 : Int) ∧ St w wd11 [(Ty.sl (Ty.sl (Ty.sl (Ty.i .i64)))).at uu0 x8] := hI14
      replace hb13 : p_spec_l06Empty_L1 n k7 x8 = some ct9 := hb13
      unfold p_spec_l06Empty_L1 at hb13
      obtain ⟨u17, hf18, hf19, hf20, hr21, hS22⟩ := hI14
      refine W.seq (W.seq (W.region ?_))
      refine WL.val (Value.int .i64 (k7 : Int)) _ (op_move hf20) rfl ?_
      refine WL.val (Value.int .i64 n) _ (op_move hf18) rfl ?_
      refine WL.val (Value.bool (decide ((k7 : Int) < n))) _ (op_lss rfl rfl) rfl ?_
      have hl23 : (k7 : Int) < n := by omega
      refine WL.nil ?_
      show W _ _ _ _ _ _
      refine W.condT (decide ((k7 : Int) < n)) rfl (decide_eq_true hl23) ?_
      refine W.skip ?_
      show W _ _ _ _ _ _
      refine W.seq ?_
      refine W.block ?_
      refine W.seq (W.region ?_)
      refine WL.lit0 (t := (Ty.sl (Ty.i .i64))) hS22 sl_57 rfl rfl ?_
      intro u25 wd26 hS27 he28
      replace hS27 : St w wd26 [(Ty.sl (Ty.sl (Ty.sl (Ty.i .i64)))).at u17 x8, (Ty.sl (Ty.sl (Ty.i .i64))).at u25 ([] : (List (List Int)))] := hS27
      refine WL.val u25 _ (op_assign rfl) rfl ?_
      refine WL.nil ?_
      show W _ _ _ _ _ _
      refine W.seq (W.seq (W.region ?_))
      refine WL.val (Value.int .i64 (0 : Int)) _ (op_assign rfl) rfl ?_
      refine WL.nil ?_
      show W _ _ _ _ _ _
      obtain ⟨res29, hres30, hb13⟩ := bs hb13
      refine W.blockLoop (fun fq wq => ∃ s, res29 = Res.fin s ∧ ∃ (uu0 : Value), fq 0 = (Value.int .i64 n) ∧ fq 3 = u17 ∧ fq 4 = (Value.int .i64 (k7 : Int)) ∧ fq 5 = uu0 ∧ St w wq [(Ty.sl (Ty.sl (Ty.sl (Ty.i .i64)))).at u17 x8, (Ty.sl (Ty.sl (Ty.i .i64))).at uu0 s]) ?_ ?_
      · refine W.forN (fun k (s : (List (List Int))) fq wq => ∃ (uu0 : Value), fq 0 = (Value.int .i64 n) ∧ fq 3 = u17 ∧ fq 4 = (Value.int .i64 (k7 : Int)) ∧ fq 5 = uu0 ∧ fq 6 = Value.int .i64 (k : Int) ∧ InR .i64 (k : Int) ∧ St w wq [(Ty.sl (Ty.sl (Ty.sl (Ty.i .i64)))).at u17 x8, (Ty.sl (Ty.sl (Ty.i .i64))).at uu0 s]) hres30 ⟨u25, hf18, hf19, hf20, rfl, rfl, (inR_i64.2 (show (-9223372036854775808 : Int) ≤ 0 ∧ (0 : Int) ≤ 9223372036854775807 from by decide)), hS27⟩ ?_ ?_
        · intro k31 x32 ct33 f34 wd35 hk36 hb37 hI38 hbrk39 hret40
          replace hI38 : ∃ (uu0 : Value), f34 0 = (Value.int .i64 n) ∧ f34 3 = u17 ∧ f34 4 = (Value.int .i64 (k7 : Int)) ∧ f34 5 = uu0 ∧ f34 6 = Value.int .i64 (k31 : Int) ∧ InR .i64 (k31 : Int) ∧ St w wd35 [(Ty.sl (Ty.sl (Ty.sl (Ty.i .i64)))).at u17 x8, (Ty.sl (Ty.sl (Ty.i .i64))).at uu0 x32] := hI38
          replace hb37 : p_spec_l06Empty_L2 n k31 x32 = some ct33 := hb37
          unfold p_spec_l06Empty_L2 at hb37
          obtain ⟨u41, hf42, hf43, hf44, hf45, hf46, hr47, hS48⟩ := hI38
          refine W.seq (W.seq (W.region ?_))
          refine WL.val (Value.int .i64 (k31 : Int)) _ (op_move hf46) rfl ?_
          refine WL.val (Value.int .i64 n) _ (op_move hf42) rfl ?_
          refine WL.val (Value.bool (decide ((k31 : Int) < n))) _ (op_lss rfl rfl) rfl ?_
          have hl49 : (k31 : Int) < n := by omega
          refine WL.nil ?_
          show W _ _ _ _ _ _
          refine W.condT (decide ((k31 : Int) < n)) rfl (decide_eq_true hl49) ?_
          refine W.skip ?_
          show W _ _ _ _ _ _
          refine W.seq ?_
          refine W.block ?_
          refine W.region ?_
          refine WL.val u41 _ (op_move hf45) rfl ?_
          refine WL.val (Value.int .i64 n) _ (op_move hf42) rfl ?_
          obtain ⟨x51, hx52, hb37⟩ := bs hb37
          refine WL.make (t := (Ty.i .i64)) hS48 sl_35 (fun _ _ => ⟨rfl, (inR_i64.2 (show (-9223372036854775808 : Int) ≤ 0 ∧ (0 : Int) ≤ 9223372036854775807 from by decide))⟩) rfl rfl hx52 rfl rfl ?_
          intro u53 wd54 hS55 he56
          replace hS55 : St w wd54 [(Ty.sl (Ty.sl (Ty.sl (Ty.i .i64)))).at u17 x8, (Ty.sl (Ty.sl (Ty.i .i64))).at u41 x32, (Ty.sl (Ty.i .i64)).at u53 x51] := hS55
          refine WL.lit [u53] hS55 sl_57 rfl rfl (fillL rfl ⟨rfl, rfl, (cells_rep (St.rep (t := (Ty.sl (Ty.i .i64))) hS55 2 rfl)), trivial⟩) rfl rfl ?_
          intro b61 wd58 hS59 he60 hx62
          replace hS59 : St w wd58 [(Ty.sl (Ty.sl (Ty.sl (Ty.i .i64)))).at u17 x8, (Ty.sl (Ty.sl (Ty.i .i64))).at u41 x32, (Ty.sl (Ty.i .i64)).at u53 x51, bx b61 [u53]] := hS59
          obtain ⟨x63, hx64, hb37⟩ := bs hb37
          refine WL.appendRow hS59 (k := 1) (k2 := 2) (k3 := 3) rfl rfl rfl rfl sl_57 rfl rfl rfl rfl hx64 rfl ?_
          intro u65 wd66 hS67 hz68
          replace hS67 : St w wd66 [(Ty.sl (Ty.sl (Ty.sl (Ty.i .i64)))).at u17 x8, (Ty.sl (Ty.sl (Ty.i .i64))).at u65 x63, emp, bx b61 [u53]] := hS67
          refine WL.val u65 _ (op_assign rfl) rfl ?_
          refine WL.nil ?_
          show W _ _ _ _ _ _
          refine W.region ?_
          refine WL.val (Value.int .i64 (k31 : Int)) _ (op_move hf46) rfl ?_
          refine WL.val (Value.int .i64 (w64 ((k31 : Int) + (1 : Int)))) _ (op_add rfl rfl) rfl ?_
          refine WL.val (Value.int .i64 (w64 ((k31 : Int) + (1 : Int)))) _ (op_assign rfl) rfl ?_
          refine WL.nil ?_
          obtain rfl := Option.some.inj hb37
          show ∃ s, _ = Ctl.next s ∧ _
          exact ⟨_, rfl, u65, hf42, hf43, hf44, rfl, (ctr_next hl49 r_n), (ctr_rng hl49 r_n), (St.pick hS67 [0, 1] rfl)⟩
        · intro x75 f70 wd71 hs72 hI73
          replace hI73 : ∃ (uu0 : Value), f70 0 = (Value.int .i64 n) ∧ f70 3 = u17 ∧ f70 4 = (Value.int .i64 (k7 : Int)) ∧ f70 5 = uu0 ∧ f70 6 = Value.int .i64 (((n).toNat : Nat) : Int) ∧ InR .i64 (((n).toNat : Nat) : Int) ∧ St w wd71 [(Ty.sl (Ty.sl (Ty.sl (Ty.i .i64)))).at u17 x8, (Ty.sl (Ty.sl (Ty.i .i64))).at uu0 x75] := hI73
          obtain ⟨u76, hf77, hf78, hf79, hf80, hf81, hr82, hS83⟩ := hI73
          refine W.seq (W.seq (W.region ?_))
          refine WL.val (Value.int .i64 (((n).toNat : Nat) : Int)) _ (op_move hf81) rfl ?_
          refine WL.val (Value.int .i64 n) _ (op_move hf77) rfl ?_
          refine WL.val (Value.bool (decide ((((n).toNat : Nat) : Int) < n))) _ (op_lss rfl rfl) rfl ?_
          have hl84 : ¬ (((n).toNat : Nat) : Int) < n := by omega
          refine WL.nil ?_
          show W _ _ _ _ _ _
          refine W.condF (decide ((((n).toNat : Nat) : Int) < n)) rfl (decide_eq_false hl84) ?_
          refine W.exit ?_
          show _ = _ ∧ _
          exact ⟨rfl, _, hs72, u76, hf77, hf78, hf79, hf80, hS83⟩
      · rintro f85 wd86 ⟨x89, rfl, hq87⟩
        replace hb13 := onRes_fin hb13
        replace hq87 : ∃ (uu0 : Value), f85 0 = (Value.int .i64 n) ∧ f85 3 = u17 ∧ f85 4 = (Value.int .i64 (k7 : Int)) ∧ f85 5 = uu0 ∧ St w wd86 [(Ty.sl (Ty.sl (Ty.sl (Ty.i .i64)))).at u17 x8, (Ty.sl (Ty.sl (Ty.i .i64))).at uu0 x89] := hq87
        obtain ⟨u90, hf91, hf92, hf93, hf94, hS95⟩ := hq87
        show W _ _ _ _ _ _
        refine W.region ?_
        refine WL.val u17 _ (op_move hf92) rfl ?_
        refine WL.val u90 _ (op_move hf94) rfl ?_
        refine WL.lit [u90] hS95 sl_22 rfl rfl (fillL rfl ⟨rfl, rfl, (cells_rep (St.rep (t := (Ty.sl (Ty.sl (Ty.i .i64)))) hS95 1 rfl)), trivial⟩) rfl rfl ?_
        intro b100 wd97 hS98 he99 hx101
        replace hS98 : St w wd97 [(Ty.sl (Ty.sl (Ty.sl (Ty.i .i64)))).at u17 x8, (Ty.sl (Ty.sl (Ty.i .i64))).at u90 x89, bx b100 [u90]] := hS98
        obtain ⟨x102, hx103, hb13⟩ := bs hb13
        refine WL.appendRow hS98 (k := 0) (k2 := 1) (k3 := 2) rfl rfl rfl rfl sl_22 rfl rfl rfl rfl hx103 rfl ?_
        intro u104 wd105 hS106 hz107
        replace hS106 : St w wd105 [(Ty.sl (Ty.sl (Ty.sl (Ty.i .i64)))).at u104 x102, emp, bx b100 [u90]] := hS106
        refine WL.val u104 _ (op_assign rfl) rfl ?_
        refine WL.nil ?_
        show W _ _ _ _ _ _
        refine W.region ?_
        refine WL.val (Value.int .i64 (k7 : Int)) _ (op_move hf93) rfl ?_
        refine WL.val (Value.int .i64 (w64 ((k7 : Int) + (1 : Int)))) _ (op_add rfl rfl) rfl ?_
        refine WL.val (Value.int .i64 (w64 ((k7 : Int) + (1 : Int)))) _ (op_assign rfl) rfl ?_
        refine WL.nil ?_
        obtain rfl := Option.some.inj hb13
        show ∃ s, _ = Ctl.next s ∧ _
        exact ⟨_, rfl, u104, hf91, rfl, (ctr_next hl23 r_n), (ctr_rng hl23 r_n), (St.pick hS106 [0] rfl)⟩
    · intro x115 f110 wd111 hs112 hI113
      replace hI113 : ∃ (uu0 : Value), f110 0 = (Value.int .i64 n) ∧ f110 3 = uu0 ∧ f110 4 = Value.int .i64 (((n).toNat : Nat) : Int) ∧ InR .i64 (((n).toNat : Nat) : Int) ∧ St w wd111 [(Ty.sl (Ty.sl (Ty.sl (Ty.i .i64)))).at uu0 x115] := hI113
      obtain ⟨u116, hf117, hf118, hf119, hr120, hS121⟩ := hI113
      refine W.seq (W.seq (W.region ?_))
      refine WL.val (Value.int .i64 (((n).toNat : Nat) : Int)) _ (op_move hf119) rfl ?_
      refine WL.val (Value.int .i64 n) _ (op_move hf117) rfl ?_
      refine WL.val (Value.bool (decide ((((n).toNat : Nat) : Int) < n))) _ (op_lss rfl rfl) rfl ?_
      have hl122 : ¬ (((n).toNat : Nat) : Int) < n := by omega
      refine WL.nil ?_
      show W _ _ _ _ _ _
      refine W.condF (decide ((((n).toNat : Nat) : Int) < n)) rfl (decide_eq_false hl122) ?_
      refine W.exit ?_
      show _ = _ ∧ _
      exact ⟨rfl, _, hs112, u116, hf118, hS121⟩
  · rintro f123 wd124 ⟨x127, rfl, hq125⟩
    replace h := onRes_fin h
    replace hq125 : ∃ (uu0 : Value), f123 3 = uu0 ∧ St w wd124 [(Ty.sl (Ty.sl (Ty.sl (Ty.i .i64)))).at uu0 x127] := hq125
    obtain ⟨u128, hf129, hS130⟩ := hq125
    show W _ _ _ _ _ _
    refine W.seq (W.region ?_)
    refine WL.val u128 _ (op_move hf129) rfl ?_
    refine WL.val u128 _ (op_assign rfl) rfl ?_
    refine WL.nil ?_
    show W _ _ _ _ _ _
    refine W.ret ?_
    obtain rfl := Option.some.inj h
    show FinP _ _ _ _ _ _ _
    exact FinP.ret _ (res1 rfl rfl) ⟨u128, rfl, hS130.ext, (St.out (St.pick hS130 [0] rfl) (Ext.refl _))⟩

theorem c_spec_l06Product {w : World} {a : (List (List (List Int)))} {v_a : Value} {b : (List (List (List Int)))} {v_b : Value} (r_a : (Ty.sl (Ty.sl (Ty.sl (Ty.i .i64)))).rep w v_a a) (r_b : (Ty.sl (Ty.sl (Ty.sl (Ty.i .i64)))).rep w v_b b) {res : (List (List (List Int)))} (h : p_spec_l06Product a b  = some res) :
    Ret Try.prog 43 #[v_a, v_b] w (fun v w' => ∃ (u0 : Value), v = u0 ∧ Ext w w' ∧ Sep w.heap.size w' [(Ty.sl (Ty.sl (Ty.sl (Ty.i .i64)))).at u0 res]) := by
  unfold p_spec_l06Product at h
  have hS0 : St w w [] := St.start w
  refine Ret.start (fn := Try.f43) Try.func43 rfl 83 rfl rfl ?_
  refine W.seq (W.region ?_)
  refine WL.val (Value.slice none 0 0) _ (op_assign rfl) rfl ?_
  refine WL.nil ?_
  show W _ _ _ _ _ _
  refine W.seq (W.region ?_)
  refine WL.val v_a _ (op_move rfl) rfl ?_
  have hr1 := inR_len (Ty.lift _ hS0.ext r_a)
  refine WL.val (Value.int .i64 ((a).length : Int)) _ (op_lenL sl_22 (Ty.lift _ hS0.ext r_a) rfl) rfl ?_
  refine WL.val v_b _ (op_move rfl) rfl ?_
  have hr2 := inR_len (Ty.lift _ hS0.ext r_b)
  refine WL.val (Value.int .i64 ((b).length : Int)) _ (op_lenL sl_22 (Ty.lift _ hS0.ext r_b) rfl) rfl ?_
  refine WL.val (Value.int .i64 ((a).length : Int)) _ (op_assign rfl) rfl ?_
  refine WL.val (Value.int .i64 ((b).length : Int)) _ (op_assign rfl) rfl ?_
  refine WL.nil ?_
  show W _ _ _ _ _ _
  refine W.seq (W.region ?_)
  refine WL.val (Value.int .i64 ((a).length : Int)) _ (op_move rfl) rfl ?_
  refine WL.val (Value.int .i64 ((b).length : Int)) _ (op_move rfl) rfl ?_
  refine WL.val (Value.int .i64 (w64 (((a).length : Int) * ((b).length : Int)))) _ (op_mul rfl rfl) rfl ?_
  obtain ⟨x3, hx4, h⟩ := bs h
  refine WL.call _ (op_call fn_71 (args1 rfl)) (c_spec_l06Empty (inR_wrap _ _) hx4) rfl ?_
  rintro u5 wd6 ⟨_, rfl, he7, hs8⟩
  have hS9 := St.join hS0 he7 hs8
  replace hS9 : St w wd6 [(Ty.sl (Ty.sl (Ty.sl (Ty.i .i64)))).at u5 x3] := hS9
  refine WL.val u5 _ (op_assign rfl) rfl ?_
  refine WL.nil ?_
  show W _ _ _ _ _ _
  refine W.seq (W.seq (W.region ?_))
  refine WL.val (Value.int .i64 (0 : Int)) _ (op_assign rfl) rfl ?_
  refine WL.nil ?_
  show W _ _ _ _ _ _
  obtain ⟨res10, hres11, h⟩ := bs h
  refine W.blockLoop (fun fq wq => ∃ s, res10 = Res.fin s ∧ fq 7 = u5 ∧ St w wq [(Ty.sl (Ty.sl (Ty.sl (Ty.i .i64)))).at u5 s]) ?_ ?_
  · refine W.forN (fun k (s : (List (List (List Int)))) fq wq => fq 0 = v_a ∧ fq 1 = v_b ∧ fq 5 = (Value.int .i64 ((a).length : Int)) ∧ fq 6 = (Value.int .i64 ((b).length : Int)) ∧ fq 7 = u5 ∧ fq 8 = Value.int .i64 (k : Int) ∧ InR .i64 (k : Int) ∧ St w wq [(Ty.sl (Ty.sl (Ty.sl (Ty.i .i64)))).at u5 s]) hres11 ⟨rfl, rfl, rfl, rfl, rfl, rfl, (inR_i64.2 (show (-9223372036854775808 : Int) ≤ 0 ∧ (0 : Int) ≤ 9223372036854775807 from by decide)), hS9⟩ ?_ ?_
    · intro k12 x13 ct14 f15 wd16 hk17 hb18 hI19 hbrk20 hret21
      replace hI19 : f15 0 = v_a ∧ f15 1 = v_b ∧ f15 5 = (Value.int .i64 ((a).length : Int)) ∧ f15 6 = (Value.int .i64 ((b).length : Int)) ∧ f15 7 = u5 ∧ f15 8 = Value.int .i64 (k12 : Int) ∧ InR .i64 (k12 : Int) ∧ St w wd16 [(Ty.sl (Ty.sl (Ty.sl (Ty.i .i64)))).at u5 x13] := hI19
      replace hb18 : p_spec_l06Product_L1 b a k12 x13 = some ct14 := hb18
      unfold p_spec_l06Product_L1 at hb18
      obtain ⟨hf22, hf23, hf24, hf25, hf26, hf27, hr28, hS29⟩ := hI19
      refine W.seq (W.seq (W.region ?_))
      refine WL.val (Value.int .i64 (k12 : Int)) _ (op_move hf27) rfl ?_
      refine WL.val (Value.int .i64 ((a).length : Int)) _ (op_move hf24) rfl ?_
      refine WL.val (Value.int .i64 ((b).length : Int)) _ (op_move hf25) rfl ?_
      refine WL.val (Value.int .i64 (w64 (((a).length : Int) * ((b).length : Int)))) _ (op_mul rfl rfl) rfl ?_
      refine WL.val (Value.bool (decide ((k12 : Int) < (w64 (((a).length : Int) * ((b).length : Int)))))) _ (op_lss rfl rfl) rfl ?_
      have hl30 : (k12 : Int) < (w64 (((a).length : Int) * ((b).length : Int))) := by omega
      refine WL.nil ?_
      show W _ _ _ _ _ _
      refine W.condT (decide ((k12 : Int) < (w64 (((a).length : Int) * ((b).length : Int))))) rfl (decide_eq_true hl30) ?_
      refine W.skip ?_
      show W _ _ _ _ _ _
      refine W.seq ?_
      refine W.block ?_
      refine W.seq (W.region ?_)
      refine WL.val (Value.int .i64 (0 : Int)) _ (op_assign rfl) rfl ?_
      refine WL.nil ?_
      show W _ _ _ _ _ _
      obtain ⟨res32, hres33, hb18⟩ := bs hb18
      refine W.blockLoop (fun fq wq => ∃ s, res32 = Res.fin s ∧ fq 0 = v_a ∧ fq 1 = v_b ∧ fq 5 = (Value.int .i64 ((a).length : Int)) ∧ fq 6 = (Value.int .i64 ((b).length : Int)) ∧ fq 7 = u5 ∧ fq 8 = (Value.int .i64 (k12 : Int)) ∧ St w wq [(Ty.sl (Ty.sl (Ty.sl (Ty.i .i64)))).at u5 s]) ?_ ?_
      · refine W.forN (fun k (s : (List (List (List Int)))) fq wq => fq 0 = v_a ∧ fq 1 = v_b ∧ fq 5 = (Value.int .i64 ((a).length : Int)) ∧ fq 6 = (Value.int .i64 ((b).length : Int)) ∧ fq 7 = u5 ∧ fq 8 = (Value.int .i64 (k12 : Int)) ∧ fq 9 = Value.int .i64 (k : Int) ∧ InR .i64 (k : Int) ∧ St w wq [(Ty.sl (Ty.sl (Ty.sl (Ty.i .i64)))).at u5 s]) hres33 ⟨hf22, hf23, hf24, hf25, hf26, hf27, rfl, (inR_i64.2 (show (-9223372036854775808 : Int) ≤ 0 ∧ (0 : Int) ≤ 9223372036854775807 from by decide)), hS29⟩ ?_ ?_
        · intro k34 x35 ct36 f37 wd38 hk39 hb40 hI41 hbrk42 hret43
          replace hI41 : f37 0 = v_a ∧ f37 1 = v_b ∧ f37 5 = (Value.int .i64 ((a).length : Int)) ∧ f37 6 = (Value.int .i64 ((b).length : Int)) ∧ f37 7 = u5 ∧ f37 8 = (Value.int .i64 (k12 : Int)) ∧ f37 9 = Value.int .i64 (k34 : Int) ∧ InR .i64 (k34 : Int) ∧ St w wd38 [(Ty.sl (Ty.sl (Ty.sl (Ty.i .i64)))).at u5 x35] := hI41
          replace hb40 : p_spec_l06Product_L2 k12 b a k34 x35 = some ct36 := hb40
          unfold p_spec_l06Product_L2 at hb40
          obtain ⟨hf44, hf45, hf46, hf47, hf48, hf49, hf50, hr51, hS52⟩ := hI41
          refine W.seq (W.seq (W.region ?_))
          refine WL.val (Value.int .i64 (k34 : Int)) _ (op_move hf50) rfl ?_
          refine WL.val (Value.int .i64 ((a).length : Int)) _ (op_move hf46) rfl ?_
          refine WL.val (Value.int .i64 ((b).length : Int)) _ (op_move hf47) rfl ?_
          refine WL.val (Value.int .i64 (w64 (((a).length : Int) * ((b).length : Int)))) _ (op_mul rfl rfl) rfl ?_
          refine WL.val (Value.bool (decide ((k34 : Int) < (w64 (((a).length : Int) * ((b).length : Int)))))) _ (op_lss rfl rfl) rfl ?_
          have hl53 : (k34 : Int) < (w64 (((a).length : Int) * ((b).length : Int))) := by omega
          refine WL.nil ?_
          show W _ _ _ _ _ _
          refine W.condT (decide ((k34 : Int) < (w64 (((a).length : Int) * ((b).length : Int))))) rfl (decide_eq_true hl53) ?_
          refine W.skip ?_
          show W _ _ _ _ _ _
          refine W.seq ?_
          refine W.block ?_
          refine W.seq (W.region ?_)
          refine WL.val (Value.int .i64 (0 : Int)) _ (op_assign rfl) rfl ?_
          refine WL.nil ?_
          show W _ _ _ _ _ _
          obtain ⟨res55, hres56, hb40⟩ := bs hb40
          refine W.blockLoop (fun fq wq => ∃ s, res55 = Res.fin s ∧ fq 0 = v_a ∧ fq 1 = v_b ∧ fq 5 = (Value.int .i64 ((a).length : Int)) ∧ fq 6 = (Value.int .i64 ((b).length : Int)) ∧ fq 7 = u5 ∧ fq 8 = (Value.int .i64 (k12 : Int)) ∧ fq 9 = (Value.int .i64 (k34 : Int)) ∧ St w wq [(Ty.sl (Ty.sl (Ty.sl (Ty.i .i64)))).at u5 s]) ?_ ?_
          · refine W.forN (fun k (s : (List (List (List Int)))) fq wq => fq 0 = v_a ∧ fq 1 = v_b ∧ fq 5 = (Value.int .i64 ((a).length : Int)) ∧ fq 6 = (Value.int .i64 ((b).length : Int)) ∧ fq 7 = u5 ∧ fq 8 = (Value.int .i64 (k12 : Int)) ∧ fq 9 = (Value.int .i64 (k34 : Int)) ∧ fq 10 = Value.int .i64 (k : Int) ∧ InR .i64 (k : Int) ∧ St w wq [(Ty.sl (Ty.sl (Ty.sl (Ty.i .i64)))).at u5 s]) hres56 ⟨hf44, hf45, hf46, hf47, hf48, hf49, hf50, rfl, (inR_i64.2 (show (-9223372036854775808 : Int) ≤ 0 ∧ (0 : Int) ≤ 9223372036854775807 from by decide)), hS52⟩ ?_ ?_
            · intro k57 x58 ct59 f60 wd61 hk62 hb63 hI64 hbrk65 hret66
              replace hI64 : f60 0 = v_a ∧ f60 1 = v_b ∧ f60 5 = (Value.int .i64 ((a).length : Int)) ∧ f60 6 = (Value.int .i64 ((b).length : Int)) ∧ f60 7 = u5 ∧ f60 8 = (Value.int .i64 (k12 : Int)) ∧ f60 9 = (Value.int .i64 (k34 : Int)) ∧ f60 10 = Value.int .i64 (k57 : Int) ∧ InR .i64 (k57 : Int) ∧ St w wd61 [(Ty.sl (Ty.sl (Ty.sl (Ty.i .i64)))).at u5 x58] := hI64
              replace hb63 : p_spec_l06Product_L3 k12 k34 b a k57 x58 = some ct59 := hb63
              unfold p_spec_l06Product_L3 at hb63
              obtain ⟨hf67, hf68, hf69, hf70, hf71, hf72, hf73, hf74, hr75, hS76⟩ := hI64
              refine W.seq (W.seq (W.region ?_))
              refine WL.val (Value.int .i64 (k57 : Int)) _ (op_move hf74) rfl ?_
              refine WL.val (Value.int .i64 ((a).length : Int)) _ (op_move hf69) rfl ?_
              refine WL.val (Value.int .i64 ((b).length : Int)) _ (op_move hf70) rfl ?_
              refine WL.val (Value.int .i64 (w64 (((a).length : Int) * ((b).length : Int)))) _ (op_mul rfl rfl) rfl ?_
              refine WL.val (Value.bool (decide ((k57 : Int) < (w64 (((a).length : Int) * ((b).length : Int)))))) _ (op_lss rfl rfl) rfl ?_
              have hl77 : (k57 : Int) < (w64 (((a).length : Int) * ((b).length : Int))) := by omega
              refine WL.nil ?_
              show W _ _ _ _ _ _
              refine W.condT (decide ((k57 : Int) < (w64 (((a).length : Int) * ((b).length : Int))))) rfl (decide_eq_true hl77) ?_
              refine W.skip ?_
              show W _ _ _ _ _ _
              refine W.seq ?_
              refine W.block ?_
              obtain ⟨x108, hx111, hb63⟩ := bs hb63
              obtain ⟨ha109, hb110, hx111⟩ := idx_some hx111
              obtain ⟨u122, hc123, hr124⟩ := repSl.el (St.rep (t := (Ty.sl (Ty.sl (Ty.sl (Ty.i .i64))))) hS76 0 rfl) hx111
              obtain ⟨x147, hx150, hb63⟩ := bs hb63
              obtain ⟨ha148, hb149, hx150⟩ := idx_some hx150
              obtain ⟨u161, hc162, hr163⟩ := repSl.el hr124 hx150
              obtain ⟨x208, hz209, hb63⟩ := bs hb63
              obtain ⟨h0210, hz209⟩ := quoI_some hz209
              obtain ⟨x227, hx230, hb63⟩ := bs hb63
              obtain ⟨ha228, hb229, hx230⟩ := idx_some hx230
              obtain ⟨u241, hc242, hr243⟩ := repSl.el r_a hx230
              obtain ⟨x274, hz275, hb63⟩ := bs hb63
              obtain ⟨h0276, hz275⟩ := quoI_some hz275
              obtain ⟨x293, hx296, hb63⟩ := bs hb63
              obtain ⟨ha294, hb295, hx296⟩ := idx_some hx296
              obtain ⟨u307, hc308, hr309⟩ := repSl.el hr243 hx296
              obtain ⟨x340, hz341, hb63⟩ := bs hb63
              obtain ⟨h0342, hz341⟩ := quoI_some hz341
              obtain ⟨x359, hx362, hb63⟩ := bs hb63
              obtain ⟨ha360, hb361, hx362⟩ := idx_some hx362
              obtain ⟨u373, hc374, hr375⟩ := repSl.el hr309 hx362
              obtain ⟨rfl, hr375⟩ := hr375
              obtain ⟨x413, hz414, hb63⟩ := bs hb63
              obtain ⟨h0415, hz414⟩ := remI_some hz414
              obtain ⟨x432, hx435, hb63⟩ := bs hb63
              obtain ⟨ha433, hb434, hx435⟩ := idx_some hx435
              obtain ⟨u446, hc447, hr448⟩ := repSl.el r_b hx435
              obtain ⟨x479, hz480, hb63⟩ := bs hb63
              obtain ⟨h0481, hz480⟩ := remI_some hz480
              obtain ⟨x498, hx501, hb63⟩ := bs hb63
              obtain ⟨ha499, hb500, hx501⟩ := idx_some hx501
              obtain ⟨u512, hc513, hr514⟩ := repSl.el hr448 hx501
              obtain ⟨x545, hz546, hb63⟩ := bs hb63
              obtain ⟨h0547, hz546⟩ := remI_some hz546
              obtain ⟨x564, hx567, hb63⟩ := bs hb63
              obtain ⟨ha565, hb566, hx567⟩ := idx_some hx567
              obtain ⟨u578, hc579, hr580⟩ := repSl.el hr514 hx567
              obtain ⟨rfl, hr580⟩ := hr580
              refine W.drawR mixo 41 [] [fun _ v _ _ => v = u5, fun _ v _ _ => v = (Value.int .i64 (k12 : Int)) ∧ InR .i64 (k12 : Int), fun _ v _ _ => v = (Value.pointer (some (elA u5 ((k12 : Int)).toNat))), fun _ v _ _ => v = u122, fun _ v _ _ => v = (Value.int .i64 (k34 : Int)) ∧ InR .i64 (k34 : Int), fun _ v _ _ => v = (Value.pointer (some (elA u122 ((k34 : Int)).toNat))), fun _ v _ _ => v = u161, fun _ v _ _ => v = (Value.int .i64 (k57 : Int)) ∧ InR .i64 (k57 : Int), fun _ v _ _ => v = v_a, fun _ v _ _ => v = (Value.int .i64 (k12 : Int)) ∧ InR .i64 (k12 : Int), fun _ v _ _ => v = (Value.int .i64 ((b).length : Int)) ∧ InR .i64 ((b).length : Int), fun _ v _ _ => v = (Value.int .i64 x208) ∧ InR .i64 x208, fun _ v _ _ => v = (Value.pointer (some (elA v_a (x208).toNat))), fun _ v _ _ => v = u241, fun _ v _ _ => v = (Value.int .i64 (k34 : Int)) ∧ InR .i64 (k34 : Int), fun _ v _ _ => v = (Value.int .i64 ((b).length : Int)) ∧ InR .i64 ((b).length : Int), fun _ v _ _ => v = (Value.int .i64 x274) ∧ InR .i64 x274, fun _ v _ _ => v = (Value.pointer (some (elA u241 (x274).toNat))), fun _ v _ _ => v = u307, fun _ v _ _ => v = (Value.int .i64 (k57 : Int)) ∧ InR .i64 (k57 : Int), fun _ v _ _ => v = (Value.int .i64 ((b).length : Int)) ∧ InR .i64 ((b).length : Int), fun _ v _ _ => v = (Value.int .i64 x340) ∧ InR .i64 x340, fun _ v _ _ => v = (Value.pointer (some (elA u307 (x340).toNat))), fun _ v _ _ => v = (Value.int .i64 x359) ∧ InR .i64 x359, fun _ v _ _ => v = v_b, fun _ v _ _ => v = (Value.int .i64 (k12 : Int)) ∧ InR .i64 (k12 : Int), fun _ v _ _ => v = (Value.int .i64 ((b).length : Int)) ∧ InR .i64 ((b).length : Int), fun _ v _ _ => v = (Value.int .i64 x413) ∧ InR .i64 x413, fun _ v _ _ => v = (Value.pointer (some (elA v_b (x413).toNat))), fun _ v _ _ => v = u446, fun _ v _ _ => v = (Value.int .i64 (k34 : Int)) ∧ InR .i64 (k34 : Int), fun _ v _ _ => v = (Value.int .i64 ((b).length : Int)) ∧ InR .i64 ((b).length : Int), fun _ v _ _ => v = (Value.int .i64 x479) ∧ InR .i64 x479, fun _ v _ _ => v = (Value.pointer (some (elA u446 (x479).toNat))), fun _ v _ _ => v = u512, fun _ v _ _ => v = (Value.int .i64 (k57 : Int)) ∧ InR .i64 (k57 : Int), fun _ v _ _ => v = (Value.int .i64 ((b).length : Int)) ∧ InR .i64 ((b).length : Int), fun _ v _ _ => v = (Value.int .i64 x545) ∧ InR .i64 x545, fun _ v _ _ => v = (Value.pointer (some (elA u512 (x545).toNat))), fun _ v _ _ => v = (Value.int .i64 x564) ∧ InR .i64 x564, fun _ v _ _ => v = (Value.int .i64 (w64 (x359 * x564))) ∧ InR .i64 (w64 (x359 * x564))] (by kernel_rfl) (by kernel_rfl) ⟨⟨fun _ _ _ _ _ _ h => h, fun _ _ _ _ _ _ h => h⟩, ⟨fun _ _ _ _ _ _ h => h, fun _ _ _ _ _ _ h => h⟩, ⟨fun _ _ _ _ _ _ h => h, fun _ _ _ _ _ _ h => h⟩, ⟨fun _ _ _ _ _ _ h => h, fun _ _ _ _ _ _ h => h⟩, ⟨fun _ _ _ _ _ _ h => h, fun _ _ _ _ _ _ h => h⟩, ⟨fun _ _ _ _ _ _ h => h, fun _ _ _ _ _ _ h => h⟩, ⟨fun _ _ _ _ _ _ h => h, fun _ _ _ _ _ _ h => h⟩, ⟨fun _ _ _ _ _ _ h => h, fun _ _ _ _ _ _ h => h⟩, ⟨fun _ _ _ _ _ _ h => h, fun _ _ _ _ _ _ h => h⟩, ⟨fun _ _ _ _ _ _ h => h, fun _ _ _ _ _ _ h => h⟩, ⟨fun _ _ _ _ _ _ h => h, fun _ _ _ _ _ _ h => h⟩, ⟨fun _ _ _ _ _ _ h => h, fun _ _ _ _ _ _ h => h⟩, ⟨fun _ _ _ _ _ _ h => h, fun _ _ _ _ _ _ h => h⟩, ⟨fun _ _ _ _ _ _ h => h, fun _ _ _ _ _ _ h => h⟩, ⟨fun _ _ _ _ _ _ h => h, fun _ _ _ _ _ _ h => h⟩, ⟨fun _ _ _ _ _ _ h => h, fun _ _ _ _ _ _ h => h⟩, ⟨fun _ _ _ _ _ _ h => h, fun _ _ _ _ _ _ h => h⟩, ⟨fun _ _ _ _ _ _ h => h, fun _ _ _ _ _ _ h => h⟩, ⟨fun _ _ _ _ _ _ h => h, fun _ _ _ _ _ _ h => h⟩, ⟨fun _ _ _ _ _ _ h => h, fun _ _ _ _ _ _ h => h⟩, ⟨fun _ _ _ _ _ _ h => h, fun _ _ _ _ _ _ h => h⟩, ⟨fun _ _ _ _ _ _ h => h, fun _ _ _ _ _ _ h => h⟩, ⟨fun _ _ _ _ _ _ h => h, fun _ _ _ _ _ _ h => h⟩, ⟨fun _ _ _ _ _ _ h => h, fun _ _ _ _ _ _ h => h⟩, ⟨fun _ _ _ _ _ _ h => h, fun _ _ _ _ _ _ h => h⟩, ⟨fun _ _ _ _ _ _ h => h, fun _ _ _ _ _ _ h => h⟩, ⟨fun _ _ _ _ _ _ h => h, fun _ _ _ _ _ _ h => h⟩, ⟨fun _ _ _ _ _ _ h => h, fun _ _ _ _ _ _ h => h⟩, ⟨fun _ _ _ _ _ _ h => h, fun _ _ _ _ _ _ h => h⟩, ⟨fun _ _ _ _ _ _ h => h, fun _ _ _ _ _ _ h => h⟩, ⟨fun _ _ _ _ _ _ h => h, fun _ _ _ _ _ _ h => h⟩, ⟨fun _ _ _ _ _ _ h => h, fun _ _ _ _ _ _ h => h⟩, ⟨fun _ _ _ _ _ _ h => h, fun _ _ _ _ _ _ h => h⟩, ⟨fun _ _ _ _ _ _ h => h, fun _ _ _ _ _ _ h => h⟩, ⟨fun _ _ _ _ _ _ h => h, fun _ _ _ _ _ _ h => h⟩, ⟨fun _ _ _ _ _ _ h => h, fun _ _ _ _ _ _ h => h⟩, ⟨fun _ _ _ _ _ _ h => h, fun _ _ _ _ _ _ h => h⟩, ⟨fun _ _ _ _ _ _ h => h, fun _ _ _ _ _ _ h => h⟩, ⟨fun _ _ _ _ _ _ h => h, fun _ _ _ _ _ _ h => h⟩, ⟨fun _ _ _ _ _ _ h => h, fun _ _ _ _ _ _ h => h⟩, ⟨fun _ _ _ _ _ _ h => h, fun _ _ _ _ _ _ h => h⟩, trivial⟩ ⟨?_, ?_, ?_, ?_, ?_, ?_, ?_, ?_, ?_, ?_, ?_, ?_, ?_, ?_, ?_, ?_, ?_, ?_, ?_, ?_, ?_, ?_, ?_, ?_, ?_, ?_, ?_, ?_, ?_, ?_, ?_, ?_, ?_, ?_, ?_, ?_, ?_, ?_, ?_, ?_, ?_, trivial⟩ ?_
              · refine ObX.op rfl ?_
                intro f79 wd80 he81 hout82 hphi83
                have hS84 : St w wd80 [(Ty.sl (Ty.sl (Ty.sl (Ty.i .i64)))).at u5 x58] := St.extend hS76 he81
                have e85 : f79 7 = u5 := (hout82 7 rfl).trans hf71
                exact OpX.val u5 wd80 rfl (op_move e85) (Ext.refl _) rfl
              · refine ObX.op rfl ?_
                intro f86 wd87 he88 hout89 hphi90
                have hS91 : St w wd87 [(Ty.sl (Ty.sl (Ty.sl (Ty.i .i64)))).at u5 x58] := St.extend hS76 he88
                have e92 : f86 8 = (Value.int .i64 (k12 : Int)) := (hout89 8 rfl).trans hf72
                exact OpX.val (Value.int .i64 (k12 : Int)) wd87 rfl (op_move e92) (Ext.refl _) ⟨rfl, hr28⟩
              · refine ObX.op rfl ?_
                intro f93 wd94 he95 hout96 hphi97
                have hS98 : St w wd94 [(Ty.sl (Ty.sl (Ty.sl (Ty.i .i64)))).at u5 x58] := St.extend hS76 he95
                obtain ⟨S99, hS100, hf101⟩ := hphi97 0 40 _ rfl rfl rfl
                have e102 : f93 40 = u5 := hf101
                obtain ⟨S103, hS104, hf105⟩ := hphi97 1 41 _ rfl rfl rfl
                obtain ⟨e106, hr107⟩ : f93 41 = (Value.int .i64 (k12 : Int)) ∧ InR .i64 (k12 : Int) := hf105
                exact OpX.val (Value.pointer (some (elA u5 ((k12 : Int)).toNat))) wd94 rfl (op_idx sl_22 (St.rep (t := (Ty.sl (Ty.sl (Ty.sl (Ty.i .i64))))) hS98 0 rfl) e102 e106 ha109 hb110) (Ext.refl _) rfl
              · refine ObX.op rfl ?_
                intro f112 wd113 he114 hout115 hphi116
                have hS117 : St w wd113 [(Ty.sl (Ty.sl (Ty.sl (Ty.i .i64)))).at u5 x58] := St.extend hS76 he114
                obtain ⟨S118, hS119, hf120⟩ := hphi116 2 42 _ rfl rfl rfl
                have e121 : f112 42 = (Value.pointer (some (elA u5 ((k12 : Int)).toNat))) := hf120
                exact OpX.val u122 wd113 rfl (op_load one_57 e121 (Ext.cell he114 hc123)) (Ext.refl _) rfl
              · refine ObX.op rfl ?_
                intro f125 wd126 he127 hout128 hphi129
                have hS130 : St w wd126 [(Ty.sl (Ty.sl (Ty.sl (Ty.i .i64)))).at u5 x58] := St.extend hS76 he127
                have e131 : f125 9 = (Value.int .i64 (k34 : Int)) := (hout128 9 rfl).trans hf73
                exact OpX.val (Value.int .i64 (k34 : Int)) wd126 rfl (op_move e131) (Ext.refl _) ⟨rfl, hr51⟩
              · refine ObX.op rfl ?_
                intro f132 wd133 he134 hout135 hphi136
                have hS137 : St w wd133 [(Ty.sl (Ty.sl (Ty.sl (Ty.i .i64)))).at u5 x58] := St.extend hS76 he134
                obtain ⟨S138, hS139, hf140⟩ := hphi136 3 43 _ rfl rfl rfl
                have e141 : f132 43 = u122 := hf140
                obtain ⟨S142, hS143, hf144⟩ := hphi136 4 44 _ rfl rfl rfl
                obtain ⟨e145, hr146⟩ : f132 44 = (Value.int .i64 (k34 : Int)) ∧ InR .i64 (k34 : Int) := hf144
                exact OpX.val (Value.pointer (some (elA u122 ((k34 : Int)).toNat))) wd133 rfl (op_idx sl_57 (Ty.lift _ he134 hr124) e141 e145 ha148 hb149) (Ext.refl _) rfl
              · refine ObX.op rfl ?_
                intro f151 wd152 he153 hout154 hphi155
                have hS156 : St w wd152 [(Ty.sl (Ty.sl (Ty.sl (Ty.i .i64)))).at u5 x58] := St.extend hS76 he153
                obtain ⟨S157, hS158, hf159⟩ := hphi155 5 45 _ rfl rfl rfl
                have e160 : f151 45 = (Value.pointer (some (elA u122 ((k34 : Int)).toNat))) := hf159
                exact OpX.val u161 wd152 rfl (op_load one_35 e160 (Ext.cell he153 hc162)) (Ext.refl _) rfl
              · refine ObX.op rfl ?_
                intro f164 wd165 he166 hout167 hphi168
                have hS169 : St w wd165 [(Ty.sl (Ty.sl (Ty.sl (Ty.i .i64)))).at u5 x58] := St.extend hS76 he166
                have e170 : f164 10 = (Value.int .i64 (k57 : Int)) := (hout167 10 rfl).trans hf74
                exact OpX.val (Value.int .i64 (k57 : Int)) wd165 rfl (op_move e170) (Ext.refl _) ⟨rfl, hr75⟩
              · refine ObX.op rfl ?_
                intro f171 wd172 he173 hout174 hphi175
                have hS176 : St w wd172 [(Ty.sl (Ty.sl (Ty.sl (Ty.i .i64)))).at u5 x58] := St.extend hS76 he173
                have e177 : f171 0 = v_a := (hout174 0 rfl).trans hf67
                exact OpX.val v_a wd172 rfl (op_move e177) (Ext.refl _) rfl
              · refine ObX.op rfl ?_
                intro f178 wd179 he180 hout181 hphi182
                have hS183 : St w wd179 [(Ty.sl (Ty.sl (Ty.sl (Ty.i .i64)))).at u5 x58] := St.extend hS76 he180
                have e184 : f178 8 = (Value.int .i64 (k12 : Int)) := (hout181 8 rfl).trans hf72
                exact OpX.val (Value.int .i64 (k12 : Int)) wd179 rfl (op_move e184) (Ext.refl _) ⟨rfl, hr28⟩
              · refine ObX.op rfl ?_
                intro f185 wd186 he187 hout188 hphi189
                have hS190 : St w wd186 [(Ty.sl (Ty.sl (Ty.sl (Ty.i .i64)))).at u5 x58] := St.extend hS76 he187
                have e191 : f185 6 = (Value.int .i64 ((b).length : Int)) := (hout188 6 rfl).trans hf70
                exact OpX.val (Value.int .i64 ((b).length : Int)) wd186 rfl (op_move e191) (Ext.refl _) ⟨rfl, hr2⟩
              · refine ObX.op rfl ?_
                intro f192 wd193 he194 hout195 hphi196
                have hS197 : St w wd193 [(Ty.sl (Ty.sl (Ty.sl (Ty.i .i64)))).at u5 x58] := St.extend hS76 he194
                obtain ⟨S198, hS199, hf200⟩ := hphi196 9 49 _ rfl rfl rfl
                obtain ⟨e201, hr202⟩ : f192 49 = (Value.int .i64 (k12 : Int)) ∧ InR .i64 (k12 : Int) := hf200
                obtain ⟨S203, hS204, hf205⟩ := hphi196 10 50 _ rfl rfl rfl
                obtain ⟨e206, hr207⟩ : f192 50 = (Value.int .i64 ((b).length : Int)) ∧ InR .i64 ((b).length : Int) := hf205
                have hr211 : InR .i64 x208 := by rw [hz209]; exact inR_wrap _ _
                exact OpX.val (Value.int .i64 x208) wd193 rfl (by rw [hz209]; exact op_quo e201 e206 h0210) (Ext.refl _) ⟨rfl, hr211⟩
              · refine ObX.op rfl ?_
                intro f212 wd213 he214 hout215 hphi216
                have hS217 : St w wd213 [(Ty.sl (Ty.sl (Ty.sl (Ty.i .i64)))).at u5 x58] := St.extend hS76 he214
                obtain ⟨S218, hS219, hf220⟩ := hphi216 8 48 _ rfl rfl rfl
                have e221 : f212 48 = v_a := hf220
                obtain ⟨S222, hS223, hf224⟩ := hphi216 11 51 _ rfl rfl rfl
                obtain ⟨e225, hr226⟩ : f212 51 = (Value.int .i64 x208) ∧ InR .i64 x208 := hf224
                exact OpX.val (Value.pointer (some (elA v_a (x208).toNat))) wd213 rfl (op_idx sl_22 (Ty.lift _ hS217.ext r_a) e221 e225 ha228 hb229) (Ext.refl _) rfl
              · refine ObX.op rfl ?_
                intro f231 wd232 he233 hout234 hphi235
                have hS236 : St w wd232 [(Ty.sl (Ty.sl (Ty.sl (Ty.i .i64)))).at u5 x58] := St.extend hS76 he233
                obtain ⟨S237, hS238, hf239⟩ := hphi235 12 52 _ rfl rfl rfl
                have e240 : f231 52 = (Value.pointer (some (elA v_a (x208).toNat))) := hf239
                exact OpX.val u241 wd232 rfl (op_load one_57 e240 (Ext.cell hS236.ext hc242)) (Ext.refl _) rfl
              · refine ObX.op rfl ?_
                intro f244 wd245 he246 hout247 hphi248
                have hS249 : St w wd245 [(Ty.sl (Ty.sl (Ty.sl (Ty.i .i64)))).at u5 x58] := St.extend hS76 he246
                have e250 : f244 9 = (Value.int .i64 (k34 : Int)) := (hout247 9 rfl).trans hf73
                exact OpX.val (Value.int .i64 (k34 : Int)) wd245 rfl (op_move e250) (Ext.refl _) ⟨rfl, hr51⟩
              · refine ObX.op rfl ?_
                intro f251 wd252 he253 hout254 hphi255
                have hS256 : St w wd252 [(Ty.sl (Ty.sl (Ty.sl (Ty.i .i64)))).at u5 x58] := St.extend hS76 he253
                have e257 : f251 6 = (Value.int .i64 ((b).length : Int)) := (hout254 6 rfl).trans hf70
                exact OpX.val (Value.int .i64 ((b).length : Int)) wd252 rfl (op_move e257) (Ext.refl _) ⟨rfl, hr2⟩
              · refine ObX.op rfl ?_
                intro f258 wd259 he260 hout261 hphi262
                have hS263 : St w wd259 [(Ty.sl (Ty.sl (Ty.sl (Ty.i .i64)))).at u5 x58] := St.extend hS76 he260
                obtain ⟨S264, hS265, hf266⟩ := hphi262 14 54 _ rfl rfl rfl
                obtain ⟨e267, hr268⟩ : f258 54 = (Value.int .i64 (k34 : Int)) ∧ InR .i64 (k34 : Int) := hf266
                obtain ⟨S269, hS270, hf271⟩ := hphi262 15 55 _ rfl rfl rfl
                obtain ⟨e272, hr273⟩ : f258 55 = (Value.int .i64 ((b).length : Int)) ∧ InR .i64 ((b).length : Int) := hf271
                have hr277 : InR .i64 x274 := by rw [hz275]; exact inR_wrap _ _
                exact OpX.val (Value.int .i64 x274) wd259 rfl (by rw [hz275]; exact op_quo e267 e272 h0276) (Ext.refl _) ⟨rfl, hr277⟩
              · refine ObX.op rfl ?_
                intro f278 wd279 he280 hout281 hphi282
                have hS283 : St w wd279 [(Ty.sl (Ty.sl (Ty.sl (Ty.i .i64)))).at u5 x58] := St.extend hS76 he280
                obtain ⟨S284, hS285, hf286⟩ := hphi282 13 53 _ rfl rfl rfl
                have e287 : f278 53 = u241 := hf286
                obtain ⟨S288, hS289, hf290⟩ := hphi282 16 56 _ rfl rfl rfl
                obtain ⟨e291, hr292⟩ : f278 56 = (Value.int .i64 x274) ∧ InR .i64 x274 := hf290
                exact OpX.val (Value.pointer (some (elA u241 (x274).toNat))) wd279 rfl (op_idx sl_57 (Ty.lift _ hS283.ext hr243) e287 e291 ha294 hb295) (Ext.refl _) rfl
              · refine ObX.op rfl ?_
                intro f297 wd298 he299 hout300 hphi301
                have hS302 : St w wd298 [(Ty.sl (Ty.sl (Ty.sl (Ty.i .i64)))).at u5 x58] := St.extend hS76 he299
                obtain ⟨S303, hS304, hf305⟩ := hphi301 17 57 _ rfl rfl rfl
                have e306 : f297 57 = (Value.pointer (some (elA u241 (x274).toNat))) := hf305
                exact OpX.val u307 wd298 rfl (op_load one_35 e306 (Ext.cell hS302.ext hc308)) (Ext.refl _) rfl
              · refine ObX.op rfl ?_
                intro f310 wd311 he312 hout313 hphi314
                have hS315 : St w wd311 [(Ty.sl (Ty.sl (Ty.sl (Ty.i .i64)))).at u5 x58] := St.extend hS76 he312
                have e316 : f310 10 = (Value.int .i64 (k57 : Int)) := (hout313 10 rfl).trans hf74
                exact OpX.val (Value.int .i64 (k57 : Int)) wd311 rfl (op_move e316) (Ext.refl _) ⟨rfl, hr75⟩
              · refine ObX.op rfl ?_
                intro f317 wd318 he319 hout320 hphi321
                have hS322 : St w wd318 [(Ty.sl (Ty.sl (Ty.sl (Ty.i .i64)))).at u5 x58] := St.extend hS76 he319
                have e323 : f317 6 = (Value.int .i64 ((b).length : Int)) := (hout320 6 rfl).trans hf70
                exact OpX.val (Value.int .i64 ((b).length : Int)) wd318 rfl (op_move e323) (Ext.refl _) ⟨rfl, hr2⟩
              · refine ObX.op rfl ?_
                intro f324 wd325 he326 hout327 hphi328
                have hS329 : St w wd325 [(Ty.sl (Ty.sl (Ty.sl (Ty.i .i64)))).at u5 x58] := St.extend hS76 he326
                obtain ⟨S330, hS331, hf332⟩ := hphi328 19 59 _ rfl rfl rfl
                obtain ⟨e333, hr334⟩ : f324 59 = (Value.int .i64 (k57 : Int)) ∧ InR .i64 (k57 : Int) := hf332
                obtain ⟨S335, hS336, hf337⟩ := hphi328 20 60 _ rfl rfl rfl
                obtain ⟨e338, hr339⟩ : f324 60 = (Value.int .i64 ((b).length : Int)) ∧ InR .i64 ((b).length : Int) := hf337
                have hr343 : InR .i64 x340 := by rw [hz341]; exact inR_wrap _ _
                exact OpX.val (Value.int .i64 x340) wd325 rfl (by rw [hz341]; exact op_quo e333 e338 h0342) (Ext.refl _) ⟨rfl, hr343⟩
              · refine ObX.op rfl ?_
                intro f344 wd345 he346 hout347 hphi348
                have hS349 : St w wd345 [(Ty.sl (Ty.sl (Ty.sl (Ty.i .i64)))).at u5 x58] := St.extend hS76 he346
                obtain ⟨S350, hS351, hf352⟩ := hphi348 18 58 _ rfl rfl rfl
                have e353 : f344 58 = u307 := hf352
                obtain ⟨S354, hS355, hf356⟩ := hphi348 21 61 _ rfl rfl rfl
                obtain ⟨e357, hr358⟩ : f344 61 = (Value.int .i64 x340) ∧ InR .i64 x340 := hf356
                exact OpX.val (Value.pointer (some (elA u307 (x340).toNat))) wd345 rfl (op_idx sl_35 (Ty.lift _ hS349.ext hr309) e353 e357 ha360 hb361) (Ext.refl _) rfl
              · refine ObX.op rfl ?_
                intro f363 wd364 he365 hout366 hphi367
                have hS368 : St w wd364 [(Ty.sl (Ty.sl (Ty.sl (Ty.i .i64)))).at u5 x58] := St.extend hS76 he365
                obtain ⟨S369, hS370, hf371⟩ := hphi367 22 62 _ rfl rfl rfl
                have e372 : f363 62 = (Value.pointer (some (elA u307 (x340).toNat))) := hf371
                exact OpX.val (Value.int .i64 x359) wd364 rfl (op_load one_2 e372 (Ext.cell hS368.ext hc374)) (Ext.refl _) ⟨rfl, hr375⟩
              · refine ObX.op rfl ?_
                intro f376 wd377 he378 hout379 hphi380
                have hS381 : St w wd377 [(Ty.sl (Ty.sl (Ty.sl (Ty.i .i64)))).at u5 x58] := St.extend hS76 he378
                have e382 : f376 1 = v_b := (hout379 1 rfl).trans hf68
                exact OpX.val v_b wd377 rfl (op_move e382) (Ext.refl _) rfl
              · refine ObX.op rfl ?_
                intro f383 wd384 he385 hout386 hphi387
                have hS388 : St w wd384 [(Ty.sl (Ty.sl (Ty.sl (Ty.i .i64)))).at u5 x58] := St.extend hS76 he385
                have e389 : f383 8 = (Value.int .i64 (k12 : Int)) := (hout386 8 rfl).trans hf72
                exact OpX.val (Value.int .i64 (k12 : Int)) wd384 rfl (op_move e389) (Ext.refl _) ⟨rfl, hr28⟩
              · refine ObX.op rfl ?_
                intro f390 wd391 he392 hout393 hphi394
                have hS395 : St w wd391 [(Ty.sl (Ty.sl (Ty.sl (Ty.i .i64)))).at u5 x58] := St.extend hS76 he392
                have e396 : f390 6 = (Value.int .i64 ((b).length : Int)) := (hout393 6 rfl).trans hf70
                exact OpX.val (Value.int .i64 ((b).length : Int)) wd391 rfl (op_move e396) (Ext.refl _) ⟨rfl, hr2⟩
              · refine ObX.op rfl ?_
                intro f397 wd398 he399 hout400 hphi401
                have hS402 : St w wd398 [(Ty.sl (Ty.sl (Ty.sl (Ty.i .i64)))).at u5 x58] := St.extend hS76 he399
                obtain ⟨S403, hS404, hf405⟩ := hphi401 25 65 _ rfl rfl rfl
                obtain ⟨e406, hr407⟩ : f397 65 = (Value.int .i64 (k12 : Int)) ∧ InR .i64 (k12 : Int) := hf405
                obtain ⟨S408, hS409, hf410⟩ := hphi401 26 66 _ rfl rfl rfl
                obtain ⟨e411, hr412⟩ : f397 66 = (Value.int .i64 ((b).length : Int)) ∧ InR .i64 ((b).length : Int) := hf410
                have hr416 : InR .i64 x413 := by rw [hz414]; exact inR_tmod hr407
                exact OpX.val (Value.int .i64 x413) wd398 rfl (by rw [hz414]; exact op_rem e406 e411 h0415) (Ext.refl _) ⟨rfl, hr416⟩
              · refine ObX.op rfl ?_
                intro f417 wd418 he419 hout420 hphi421
                have hS422 : St w wd418 [(Ty.sl (Ty.sl (Ty.sl (Ty.i .i64)))).at u5 x58] := St.extend hS76 he419
                obtain ⟨S423, hS424, hf425⟩ := hphi421 24 64 _ rfl rfl rfl
                have e426 : f417 64 = v_b := hf425
                obtain ⟨S427, hS428, hf429⟩ := hphi421 27 67 _ rfl rfl rfl
                obtain ⟨e430, hr431⟩ : f417 67 = (Value.int .i64 x413) ∧ InR .i64 x413 := hf429
                exact OpX.val (Value.pointer (some (elA v_b (x413).toNat))) wd418 rfl (op_idx sl_22 (Ty.lift _ hS422.ext r_b) e426 e430 ha433 hb434) (Ext.refl _) rfl
              · refine ObX.op rfl ?_
                intro f436 wd437 he438 hout439 hphi440
                have hS441 : St w wd437 [(Ty.sl (Ty.sl (Ty.sl (Ty.i .i64)))).at u5 x58] := St.extend hS76 he438
                obtain ⟨S442, hS443, hf444⟩ := hphi440 28 68 _ rfl rfl rfl
                have e445 : f436 68 = (Value.pointer (some (elA v_b (x413).toNat))) := hf444
                exact OpX.val u446 wd437 rfl (op_load one_57 e445 (Ext.cell hS441.ext hc447)) (Ext.refl _) rfl
              · refine ObX.op rfl ?_
                intro f449 wd450 he451 hout452 hphi453
                have hS454 : St w wd450 [(Ty.sl (Ty.sl (Ty.sl (Ty.i .i64)))).at u5 x58] := St.extend hS76 he451
                have e455 : f449 9 = (Value.int .i64 (k34 : Int)) := (hout452 9 rfl).trans hf73
                exact OpX.val (Value.int .i64 (k34 : Int)) wd450 rfl (op_move e455) (Ext.refl _) ⟨rfl, hr51⟩
              · refine ObX.op rfl ?_
                intro f456 wd457 he458 hout459 hphi460
                have hS461 : St w wd457 [(Ty.sl (Ty.sl (Ty.sl (Ty.i .i64)))).at u5 x58] := St.extend hS76 he458
                have e462 : f456 6 = (Value.int .i64 ((b).length : Int)) := (hout459 6 rfl).trans hf70
                exact OpX.val (Value.int .i64 ((b).length : Int)) wd457 rfl (op_move e462) (Ext.refl _) ⟨rfl, hr2⟩
              · refine ObX.op rfl ?_
                intro f463 wd464 he465 hout466 hphi467
                have hS468 : St w wd464 [(Ty.sl (Ty.sl (Ty.sl (Ty.i .i64)))).at u5 x58] := St.extend hS76 he465
                obtain ⟨S469, hS470, hf471⟩ := hphi467 30 70 _ rfl rfl rfl
                obtain ⟨e472, hr473⟩ : f463 70 = (Value.int .i64 (k34 : Int)) ∧ InR .i64 (k34 : Int) := hf471
                obtain ⟨S474, hS475, hf476⟩ := hphi467 31 71 _ rfl rfl rfl
                obtain ⟨e477, hr478⟩ : f463 71 = (Value.int .i64 ((b).length : Int)) ∧ InR .i64 ((b).length : Int) := hf476
                have hr482 : InR .i64 x479 := by rw [hz480]; exact inR_tmod hr473
                exact OpX.val (Value.int .i64 x479) wd464 rfl (by rw [hz480]; exact op_rem e472 e477 h0481) (Ext.refl _) ⟨rfl, hr482⟩
              · refine ObX.op rfl ?_
                intro f483 wd484 he485 hout486 hphi487
                have hS488 : St w wd484 [(Ty.sl (Ty.sl (Ty.sl (Ty.i .i64)))).at u5 x58] := St.extend hS76 he485
                obtain ⟨S489, hS490, hf491⟩ := hphi487 29 69 _ rfl rfl rfl
                have e492 : f483 69 = u446 := hf491
                obtain ⟨S493, hS494, hf495⟩ := hphi487 32 72 _ rfl rfl rfl
                obtain ⟨e496, hr497⟩ : f483 72 = (Value.int .i64 x479) ∧ InR .i64 x479 := hf495
                exact OpX.val (Value.pointer (some (elA u446 (x479).toNat))) wd484 rfl (op_idx sl_57 (Ty.lift _ hS488.ext hr448) e492 e496 ha499 hb500) (Ext.refl _) rfl
              · refine ObX.op rfl ?_
                intro f502 wd503 he504 hout505 hphi506
                have hS507 : St w wd503 [(Ty.sl (Ty.sl (Ty.sl (Ty.i .i64)))).at u5 x58] := St.extend hS76 he504
                obtain ⟨S508, hS509, hf510⟩ := hphi506 33 73 _ rfl rfl rfl
                have e511 : f502 73 = (Value.pointer (some (elA u446 (x479).toNat))) := hf510
                exact OpX.val u512 wd503 rfl (op_load one_35 e511 (Ext.cell hS507.ext hc513)) (Ext.refl _) rfl
              · refine ObX.op rfl ?_
                intro f515 wd516 he517 hout518 hphi519
                have hS520 : St w wd516 [(Ty.sl (Ty.sl (Ty.sl (Ty.i .i64)))).at u5 x58] := St.extend hS76 he517
                have e521 : f515 10 = (Value.int .i64 (k57 : Int)) := (hout518 10 rfl).trans hf74
                exact OpX.val (Value.int .i64 (k57 : Int)) wd516 rfl (op_move e521) (Ext.refl _) ⟨rfl, hr75⟩
              · refine ObX.op rfl ?_
                intro f522 wd523 he524 hout525 hphi526
                have hS527 : St w wd523 [(Ty.sl (Ty.sl (Ty.sl (Ty.i .i64)))).at u5 x58] := St.extend hS76 he524
                have e528 : f522 6 = (Value.int .i64 ((b).length : Int)) := (hout525 6 rfl).trans hf70
                exact OpX.val (Value.int .i64 ((b).length : Int)) wd523 rfl (op_move e528) (Ext.refl _) ⟨rfl, hr2⟩
              · refine ObX.op rfl ?_
                intro f529 wd530 he531 hout532 hphi533
                have hS534 : St w wd530 [(Ty.sl (Ty.sl (Ty.sl (Ty.i .i64)))).at u5 x58] := St.extend hS76 he531
                obtain ⟨S535, hS536, hf537⟩ := hphi533 35 75 _ rfl rfl rfl
                obtain ⟨e538, hr539⟩ : f529 75 = (Value.int .i64 (k57 : Int)) ∧ InR .i64 (k57 : Int) := hf537
                obtain ⟨S540, hS541, hf542⟩ := hphi533 36 76 _ rfl rfl rfl
                obtain ⟨e543, hr544⟩ : f529 76 = (Value.int .i64 ((b).length : Int)) ∧ InR .i64 ((b).length : Int) := hf542
                have hr548 : InR .i64 x545 := by rw [hz546]; exact inR_tmod hr539
                exact OpX.val (Value.int .i64 x545) wd530 rfl (by rw [hz546]; exact op_rem e538 e543 h0547) (Ext.refl _) ⟨rfl, hr548⟩
              · refine ObX.op rfl ?_
                intro f549 wd550 he551 hout552 hphi553
                have hS554 : St w wd550 [(Ty.sl (Ty.sl (Ty.sl (Ty.i .i64)))).at u5 x58] := St.extend hS76 he551
                obtain ⟨S555, hS556, hf557⟩ := hphi553 34 74 _ rfl rfl rfl
                have e558 : f549 74 = u512 := hf557
                obtain ⟨S559, hS560, hf561⟩ := hphi553 37 77 _ rfl rfl rfl
                obtain ⟨e562, hr563⟩ : f549 77 = (Value.int .i64 x545) ∧ InR .i64 x545 := hf561
                exact OpX.val (Value.pointer (some (elA u512 (x545).toNat))) wd550 rfl (op_idx sl_35 (Ty.lift _ hS554.ext hr514) e558 e562 ha565 hb566) (Ext.refl _) rfl
              · refine ObX.op rfl ?_
                intro f568 wd569 he570 hout571 hphi572
                have hS573 : St w wd569 [(Ty.sl (Ty.sl (Ty.sl (Ty.i .i64)))).at u5 x58] := St.extend hS76 he570
                obtain ⟨S574, hS575, hf576⟩ := hphi572 38 78 _ rfl rfl rfl
                have e577 : f568 78 = (Value.pointer (some (elA u512 (x545).toNat))) := hf576
                exact OpX.val (Value.int .i64 x564) wd569 rfl (op_load one_2 e577 (Ext.cell hS573.ext hc579)) (Ext.refl _) ⟨rfl, hr580⟩
              · refine ObX.op rfl ?_
                intro f581 wd582 he583 hout584 hphi585
                have hS586 : St w wd582 [(Ty.sl (Ty.sl (Ty.sl (Ty.i .i64)))).at u5 x58] := St.extend hS76 he583
                obtain ⟨S587, hS588, hf589⟩ := hphi585 23 63 _ rfl rfl rfl
                obtain ⟨e590, hr591⟩ : f581 63 = (Value.int .i64 x359) ∧ InR .i64 x359 := hf589
                obtain ⟨S592, hS593, hf594⟩ := hphi585 39 79 _ rfl rfl rfl
                obtain ⟨e595, hr596⟩ : f581 79 = (Value.int .i64 x564) ∧ InR .i64 x564 := hf594
                exact OpX.val (Value.int .i64 (w64 (x359 * x564))) wd582 rfl (op_mul e590 e595) (Ext.refl _) ⟨rfl, (inR_wrap _ _)⟩
              · intro f597 wd598 Ss599 he600 hout601 hSn602 hSd603 hphi604
                show WL _ _ _ _ _ _ _
                have hS605 : St w wd598 [(Ty.sl (Ty.sl (Ty.sl (Ty.i .i64)))).at u5 x58] := St.extend hS76 he600
                have e606 : f597 46 = u161 := hphi604 6 46 _ (by decide) rfl rfl
                obtain ⟨e607, hr608⟩ : f597 47 = (Value.int .i64 (k57 : Int)) ∧ InR .i64 (k57 : Int) := hphi604 7 47 _ (by decide) rfl rfl
                obtain ⟨e609, hr610⟩ : f597 80 = (Value.int .i64 (w64 (x359 * x564))) ∧ InR .i64 (w64 (x359 * x564)) := hphi604 40 80 _ (by decide) rfl rfl
                have e611 : f597 0 = v_a := (hout601 0 rfl).trans hf67
                have e612 : f597 1 = v_b := (hout601 1 rfl).trans hf68
                have e613 : f597 5 = (Value.int .i64 ((a).length : Int)) := (hout601 5 rfl).trans hf69
                have e614 : f597 6 = (Value.int .i64 ((b).length : Int)) := (hout601 6 rfl).trans hf70
                have e615 : f597 7 = u5 := (hout601 7 rfl).trans hf71
                have e616 : f597 8 = (Value.int .i64 (k12 : Int)) := (hout601 8 rfl).trans hf72
                have e617 : f597 9 = (Value.int .i64 (k34 : Int)) := (hout601 9 rfl).trans hf73
                have e618 : f597 10 = (Value.int .i64 (k57 : Int)) := (hout601 10 rfl).trans hf74
                obtain ⟨x619, hx622, hb63⟩ := bs hb63
                obtain ⟨ha620, hb621, hx622⟩ := idx_some hx622
                refine WL.val (Value.pointer (some (elA u161 ((k57 : Int)).toNat))) _ (op_idx sl_35 (Ty.lift _ he600 hr163) e606 e607 ha620 hb621) rfl ?_
                refine WL.storeEl3 (flat_i .i64) hS605 (k := 0) rfl sz_2 hx111 hx150 (Ext.cell he600 hc123) (Ext.cell he600 hc162) rfl e609 (lt_of_idx ha620 hb621) ⟨rfl, hr610⟩ ?_
                intro wd623 hS624
                replace hS624 : St w wd623 [(Ty.sl (Ty.sl (Ty.sl (Ty.i .i64)))).at u5 ((x58).set ((k12 : Int)).toNat ((x108).set ((k34 : Int)).toNat ((x147).set ((k57 : Int)).toNat (w64 (x359 * x564)))))] := hS624
                refine WL.nil ?_
                show W _ _ _ _ _ _
                refine W.region ?_
                refine WL.val (Value.int .i64 (k57 : Int)) _ (op_move e618) rfl ?_
                refine WL.val (Value.int .i64 (w64 ((k57 : Int) + (1 : Int)))) _ (op_add rfl rfl) rfl ?_
                refine WL.val (Value.int .i64 (w64 ((k57 : Int) + (1 : Int)))) _ (op_assign rfl) rfl ?_
                refine WL.nil ?_
                obtain rfl := Option.some.inj hb63
                show ∃ s, _ = Ctl.next s ∧ _
                exact ⟨_, rfl, e611, e612, e613, e614, e615, e616, e617, (ctr_next hl77 (inR_wrap _ _)), (ctr_rng hl77 (inR_wrap _ _)), hS624⟩
            · intro x631 f626 wd627 hs628 hI629
              replace hI629 : f626 0 = v_a ∧ f626 1 = v_b ∧ f626 5 = (Value.int .i64 ((a).length : Int)) ∧ f626 6 = (Value.int .i64 ((b).length : Int)) ∧ f626 7 = u5 ∧ f626 8 = (Value.int .i64 (k12 : Int)) ∧ f626 9 = (Value.int .i64 (k34 : Int)) ∧ f626 10 = Value.int .i64 ((((w64 (((a).length : Int) * ((b).length : Int)))).toNat : Nat) : Int) ∧ InR .i64 ((((w64 (((a).length : Int) * ((b).length : Int)))).toNat : Nat) : Int) ∧ St w wd627 [(Ty.sl (Ty.sl (Ty.sl (Ty.i .i64)))).at u5 x631] := hI629
              obtain ⟨hf632, hf633, hf634, hf635, hf636, hf637, hf638, hf639, hr640, hS641⟩ := hI629
              refine W.seq (W.seq (W.region ?_))
              refine WL.val (Value.int .i64 ((((w64 (((a).length : Int) * ((b).length : Int)))).toNat : Nat) : Int)) _ (op_move hf639) rfl ?_
              refine WL.val (Value.int .i64 ((a).length : Int)) _ (op_move hf634) rfl ?_
              refine WL.val (Value.int .i64 ((b).length : Int)) _ (op_move hf635) rfl ?_
              refine WL.val (Value.int .i64 (w64 (((a).length : Int) * ((b).length : Int)))) _ (op_mul rfl rfl) rfl ?_
              refine WL.val (Value.bool (decide (((((w64 (((a).length : Int) * ((b).length : Int)))).toNat : Nat) : Int) < (w64 (((a).length : Int) * ((b).length : Int)))))) _ (op_lss rfl rfl) rfl ?_
              have hl642 : ¬ ((((w64 (((a).length : Int) * ((b).length : Int)))).toNat : Nat) : Int) < (w64 (((a).length : Int) * ((b).length : Int))) := by omega
              refine WL.nil ?_
              show W _ _ _ _ _ _
              refine W.condF (decide (((((w64 (((a).length : Int) * ((b).length : Int)))).toNat : Nat) : Int) < (w64 (((a).length : Int) * ((b).length : Int))))) rfl (decide_eq_false hl642) ?_
              refine W.exit ?_
              show _ = _ ∧ _
              exact ⟨rfl, _, hs628, hf632, hf633, hf634, hf635, hf636, hf637, hf638, hS641⟩
          · rintro f643 wd644 ⟨x647, rfl, hq645⟩
            replace hb40 := onRes_fin hb40
            replace hq645 : f643 0 = v_a ∧ f643 1 = v_b ∧ f643 5 = (Value.int .i64 ((a).length : Int)) ∧ f643 6 = (Value.int .i64 ((b).length : Int)) ∧ f643 7 = u5 ∧ f643 8 = (Value.int .i64 (k12 : Int)) ∧ f643 9 = (Value.int .i64 (k34 : Int)) ∧ St w wd644 [(Ty.sl (Ty.sl (Ty.sl (Ty.i .i64)))).at u5 x647] := hq645
            obtain ⟨hf648, hf649, hf650, hf651, hf652, hf653, hf654, hS655⟩ := hq645
            show W _ _ _ _ _ _
            refine W.region ?_
            refine WL.val (Value.int .i64 (k34 : Int)) _ (op_move hf654) rfl ?_
            refine WL.val (Value.int .i64 (w64 ((k34 : Int) + (1 : Int)))) _ (op_add rfl rfl) rfl ?_
            refine WL.val (Value.int .i64 (w64 ((k34 : Int) + (1 : Int)))) _ (op_assign rfl) rfl ?_
            refine WL.nil ?_
            obtain rfl := Option.some.inj hb40
            show ∃ s, _ = Ctl.next s ∧ _
            exact ⟨_, rfl, hf648, hf649, hf650, hf651, hf652, hf653, (ctr_next hl53 (inR_wrap _ _)), (ctr_rng hl53 (inR_wrap _ _)), hS655⟩
        · intro x663 f658 wd659 hs660 hI661
          replace hI661 : f658 0 = v_a ∧ f658 1 = v_b ∧ f658 5 = (Value.int .i64 ((a).length : Int)) ∧ f658 6 = (Value.int .i64 ((b).length : Int)) ∧ f658 7 = u5 ∧ f658 8 = (Value.int .i64 (k12 : Int)) ∧ f658 9 = Value.int .i64 ((((w64 (((a).length : Int) * ((b).length : Int)))).toNat : Nat) : Int) ∧ InR .i64 ((((w64 (((a).length : Int) * ((b).length : Int)))).toNat : Nat) : Int) ∧ St w wd659 [(Ty.sl (Ty.sl (Ty.sl (Ty.i .i64)))).at u5 x663] := hI661
          obtain ⟨hf664, hf665, hf666, hf667, hf668, hf669, hf670, hr671, hS672⟩ := hI661
          refine W.seq (W.seq (W.region ?_))
          refine WL.val (Value.int .i64 ((((w64 (((a).length : Int) * ((b).length : Int)))).toNat : Nat) : Int)) _ (op_move hf670) rfl ?_
          refine WL.val (Value.int .i64 ((a).length : Int)) _ (op_move hf666) rfl ?_
          refine WL.val (Value.int .i64 ((b).length : Int)) _ (op_move hf667) rfl ?_
          refine WL.val (Value.int .i64 (w64 (((a).length : Int) * ((b).length : Int)))) _ (op_mul rfl rfl) rfl ?_
          refine WL.val (Value.bool (decide (((((w64 (((a).length : Int) * ((b).length : Int)))).toNat : Nat) : Int) < (w64 (((a).length : Int) * ((b).length : Int)))))) _ (op_lss rfl rfl) rfl ?_
          have hl673 : ¬ ((((w64 (((a).length : Int) * ((b).length : Int)))).toNat : Nat) : Int) < (w64 (((a).length : Int) * ((b).length : Int))) := by omega
          refine WL.nil ?_
          show W _ _ _ _ _ _
          refine W.condF (decide (((((w64 (((a).length : Int) * ((b).length : Int)))).toNat : Nat) : Int) < (w64 (((a).length : Int) * ((b).length : Int))))) rfl (decide_eq_false hl673) ?_
          refine W.exit ?_
          show _ = _ ∧ _
          exact ⟨rfl, _, hs660, hf664, hf665, hf666, hf667, hf668, hf669, hS672⟩
      · rintro f674 wd675 ⟨x678, rfl, hq676⟩
        replace hb18 := onRes_fin hb18
        replace hq676 : f674 0 = v_a ∧ f674 1 = v_b ∧ f674 5 = (Value.int .i64 ((a).length : Int)) ∧ f674 6 = (Value.int .i64 ((b).length : Int)) ∧ f674 7 = u5 ∧ f674 8 = (Value.int .i64 (k12 : Int)) ∧ St w wd675 [(Ty.sl (Ty.sl (Ty.sl (Ty.i .i64)))).at u5 x678] := hq676
        obtain ⟨hf679, hf680, hf681, hf682, hf683, hf684, hS685⟩ := hq676
        show W _ _ _ _ _ _
        refine W.region ?_
        refine WL.val (Value.int .i64 (k12 : Int)) _ (op_move hf684) rfl ?_
        refine WL.val (Value.int .i64 (w64 ((k12 : Int) + (1 : Int)))) _ (op_add rfl rfl) rfl ?_
        refine WL.val (Value.int .i64 (w64 ((k12 : Int) + (1 : Int)))) _ (op_assign rfl) rfl ?_
        refine WL.nil ?_
        obtain rfl := Option.some.inj hb18
        show ∃ s, _ = Ctl.next s ∧ _
        exact ⟨_, rfl, hf679, hf680, hf681, hf682, hf683, (ctr_next hl30 (inR_wrap _ _)), (ctr_rng hl30 (inR_wrap _ _)), hS685⟩
    · intro x693 f688 wd689 hs690 hI691
      replace hI691 : f688 0 = v_a ∧ f688 1 = v_b ∧ f688 5 = (Value.int .i64 ((a).length : Int)) ∧ f688 6 = (Value.int .i64 ((b).length : Int)) ∧ f688 7 = u5 ∧ f688 8 = Value.int .i64 ((((w64 (((a).length : Int) * ((b).length : Int)))).toNat : Nat) : Int) ∧ InR .i64 ((((w64 (((a).length : Int) * ((b).length : Int)))).toNat : Nat) : Int) ∧ St w wd689 [(Ty.sl (Ty.sl (Ty.sl (Ty.i .i64)))).at u5 x693] := hI691
      obtain ⟨hf694, hf695, hf696, hf697, hf698, hf699, hr700, hS701⟩ := hI691
      refine W.seq (W.seq (W.region ?_))
      refine WL.val (Value.int .i64 ((((w64 (((a).length : Int) * ((b).length : Int)))).toNat : Nat) : Int)) _ (op_move hf699) rfl ?_
      refine WL.val (Value.int .i64 ((a).length : Int)) _ (op_move hf696) rfl ?_
      refine WL.val (Value.int .i64 ((b).length : Int)) _ (op_move hf697) rfl ?_
      refine WL.val (Value.int .i64 (w64 (((a).length : Int) * ((b).length : Int)))) _ (op_mul rfl rfl) rfl ?_
      refine WL.val (Value.bool (decide (((((w64 (((a).length : Int) * ((b).length : Int)))).toNat : Nat) : Int) < (w64 (((a).length : Int) * ((b).length : Int)))))) _ (op_lss rfl rfl) rfl ?_
      have hl702 : ¬ ((((w64 (((a).length : Int) * ((b).length : Int)))).toNat : Nat) : Int) < (w64 (((a).length : Int) * ((b).length : Int))) := by omega
      refine WL.nil ?_
      show W _ _ _ _ _ _
      refine W.condF (decide (((((w64 (((a).length : Int) * ((b).length : Int)))).toNat : Nat) : Int) < (w64 (((a).length : Int) * ((b).length : Int))))) rfl (decide_eq_false hl702) ?_
      refine W.exit ?_
      show _ = _ ∧ _
      exact ⟨rfl, _, hs690, hf698, hS701⟩
  · rintro f703 wd704 ⟨x707, rfl, hq705⟩
    replace h := onRes_fin h
    replace hq705 : f703 7 = u5 ∧ St w wd704 [(Ty.sl (Ty.sl (Ty.sl (Ty.i .i64)))).at u5 x707] := hq705
    obtain ⟨hf708, hS709⟩ := hq705
    show W _ _ _ _ _ _
    refine W.seq (W.region ?_)
    refine WL.val u5 _ (op_move hf708) rfl ?_
    refine WL.val u5 _ (op_assign rfl) rfl ?_
    refine WL.nil ?_
    show W _ _ _ _ _ _
    refine W.ret ?_
    obtain rfl := Option.some.inj h
    show FinP _ _ _ _ _ _ _
    exact FinP.ret _ (res1 rfl rfl) ⟨u5, rfl, hS709.ext, (St.out (St.pick hS709 [0] rfl) (Ext.refl _))⟩

theorem c_spec_ProductRing {w : World} {r_Table : (List (List (List Int)))} {v_r_Table : Value} {s_Table : (List (List (List Int)))} {v_s_Table : Value} (r_r_Table : (Ty.sl (Ty.sl (Ty.sl (Ty.i .i64)))).rep w v_r_Table r_Table) (r_s_Table : (Ty.sl (Ty.sl (Ty.sl (Ty.i .i64)))).rep w v_s_Table s_Table) {res : (List (List (List Int))) × Int} (h : p_spec_ProductRing r_Table s_Table  = some res) :
    Ret Try.prog 17 #[(Value.agg #[v_r_Table]), (Value.agg #[v_s_Table])] w (fun v w' => ∃ (u0 : Value), v = (Value.tuple #[(Value.agg #[u0]), Value.int .i64 res.2]) ∧ InR .i64 res.2 ∧ Ext w w' ∧ Sep w.heap.size w' [(Ty.sl (Ty.sl (Ty.sl (Ty.i .i64)))).at u0 res.1]) := by
  unfold p_spec_ProductRing at h
  have hS0 : St w w [] := St.start w
  refine Ret.start (fn := Try.f17) Try.func17 rfl 38 rfl rfl ?_
  refine W.seq (W.region ?_)
  refine WL.box hS0 rfl (cs := [v_r_Table]) rfl rfl ?_
  intro b1 wd2 hS3 he4 hx5
  replace hS3 : St w wd2 [bx b1 [v_r_Table]] := hS3
  have hx6 := St.boxAt hS3 0 rfl
  have hE7 : Ext w wd2 := hS3.ext
  have hS8 : St wd2 wd2 [] := St.start wd2
  refine WL.box hS8 rfl (cs := [v_s_Table]) rfl rfl ?_
  intro b9 wd10 hS11 he12 hx13
  replace hS11 : St wd2 wd10 [bx b9 [v_s_Table]] := hS11
  have hx14 := St.boxAt hS11 0 rfl
  have hE15 : Ext w wd10 := (Ext.trans hE7 hS11.ext)
  have hE16 : Ext wd2 wd10 := hS11.ext
  have hS17 : St wd10 wd10 [] := St.start wd10
  refine WL.alloc hS17 ze_26 (cs := [(Value.slice none 0 0)]) rfl rfl ?_
  intro b18 wd19 hS20 he21
  replace hS20 : St wd10 wd19 [bx b18 [(Value.slice none 0 0)]] := hS20
  refine WL.val (Value.int .i64 (0 : Int)) _ (op_assign rfl) rfl ?_
  refine WL.nil ?_
  show W _ _ _ _ _ _
  refine W.seq ?_
  refine W.block ?_
  refine W.seq (W.region ?_)
  refine WL.val (Value.agg #[v_r_Table]) _ (op_loadBox st_26 rfl (BoxAt.lift (Ext.trans hE16 hS20.ext) hx6) rfl rfl) rfl ?_
  obtain ⟨x22, hx23, h⟩ := bs h
  refine WL.call _ (op_call fn_35 (args1 rfl)) (c_spec_l03Is (Ty.lift _ (Ext.trans hE15 hS20.ext) r_r_Table) hx23) rfl ?_
  rintro _ wd24 ⟨rfl, he25⟩
  have hS27 := St.extend hS20 he25
  replace hS27 : St wd10 wd24 [bx b18 [(Value.slice none 0 0)]] := hS27
  refine WL.val (Value.bool (!x22)) _ (op_not rfl) rfl ?_
  refine WL.val (Value.bool (!x22)) _ (op_move rfl) rfl ?_
  obtain ⟨x29, hj30, h⟩ := bs h
  refine WL.cut 4 (fun fq wq => fq 2 = (Value.pointer (some ⟨b1, 0, none⟩)) ∧ fq 3 = (Value.pointer (some ⟨b9, 0, none⟩)) ∧ fq 4 = (Value.pointer (some ⟨b18, 0, none⟩)) ∧ fq 15 = Value.bool x29 ∧ St wd10 wq [bx b18 [(Value.slice none 0 0)]]) ?_ ?_
  · rcases Bool.eq_false_or_eq_true (!x22) with hc28 | hc28
    · replace hj30 := ip hj30 hc28
      refine WL.gskip rfl (bool_of rfl hc28) rfl ?_
      refine WL.gskip rfl (bool_of rfl hc28) rfl ?_
      refine WL.gskip rfl (bool_of rfl hc28) rfl ?_
      refine WL.val (Value.bool true) _ (op_pick_t (evb_of rfl hc28) rfl) rfl ?_
      refine WL.nil ?_
      obtain rfl := Option.some.inj hj30
      exact ⟨rfl, rfl, rfl, rfl, rfl, hS27⟩
    · replace hj30 := inegb hj30 hc28
      refine WL.grun rfl (bool_of rfl hc28) ?_
      refine WL.val (Value.agg #[v_s_Table]) _ (op_loadBox st_26 rfl (BoxAt.lift hS27.ext hx14) rfl rfl) rfl ?_
      refine WL.grun rfl (bool_of rfl hc28) ?_
      obtain ⟨x34, hx35, hj30⟩ := bs hj30
      refine WL.call _ (op_call fn_35 (args1 rfl)) (c_spec_l03Is (Ty.lift _ (Ext.trans hE15 hS27.ext) r_s_Table) hx35) rfl ?_
      rintro _ wd36 ⟨rfl, he37⟩
      have hS39 := St.extend hS27 he37
      replace hS39 : St wd10 wd36 [bx b18 [(Value.slice none 0 0)]] := hS39
      refine WL.grun rfl (bool_of rfl hc28) ?_
      refine WL.val (Value.bool (!x34)) _ (op_not rfl) rfl ?_
      refine WL.val (Value.bool (!x34)) _ (op_pick_f (evb_of rfl hc28) rfl) rfl ?_
      refine WL.nil ?_
      obtain rfl := Option.some.inj hj30
      exact ⟨rfl, rfl, rfl, rfl, rfl, hS39⟩
  · intro f31 wd32 hq33
    obtain ⟨hf40, hf41, hf42, hf43, hS44⟩ := hq33
    refine WL.val (Value.bool x29) _ (op_assign hf43) rfl ?_
    refine WL.nil ?_
    show W _ _ _ _ _ _
    refine W.cond x29 rfl (fun hc45 => ?_) (fun hc45 => ?_)
    · replace h := ip h hc45
      refine W.seq (W.region ?_)
      refine WL.val (Value.agg #[(Value.slice none 0 0)]) _ (op_build bd_26 (parts := []) (partsL trivial) trivial rfl) rfl ?_
      have hS49 := St.addNil (Ty.sl (Ty.sl (Ty.i .i64))) hS44
      replace hS49 : St wd10 wd32 [bx b18 [(Value.slice none 0 0)], (Ty.sl (Ty.sl (Ty.sl (Ty.i .i64)))).at (Value.slice none 0 0) ([] : (List (List (List Int))))] := hS49
      refine WL.storeBox [(Value.slice none 0 0)] hS49 (k := 0) rfl hf42 rfl (us := [(Value.slice none 0 0)]) rfl sz_26 rfl rfl (all_rep (St.rep (t := (Ty.sl (Ty.sl (Ty.sl (Ty.i .i64))))) hS49 1 rfl) all_nil) rfl ?_
      intro wd47 hS48
      replace hS48 : St wd10 wd47 [bx b18 [(Value.slice none 0 0)], (Ty.sl (Ty.sl (Ty.sl (Ty.i .i64)))).at (Value.slice none 0 0) ([] : (List (List (List Int))))] := hS48
      refine WL.val (Value.int .i64 (1 : Int)) _ (op_assign rfl) rfl ?_
      refine WL.nil ?_
      show W _ _ _ _ _ _
      refine W.ret ?_
      obtain rfl := Option.some.inj h
      show FinP _ _ _ _ _ _ _
      exact FinP.ret _ (resCT rfl hf42 st_26 (St.boxAt hS48 0 rfl) rfl rfl) ⟨(Value.slice none 0 0), rfl, (inR_i64.2 (show (-9223372036854775808 : Int) ≤ 1 ∧ (1 : Int) ≤ 9223372036854775807 from by decide)), (Ext.trans hE15 hS48.ext), (St.out (St.pick hS48 [1] rfl) (hE15))⟩
    · replace h := inegb h hc45
      refine W.seq (W.region ?_)
      refine WL.val (Value.pointer (some ⟨b1, 0, none⟩)) _ (op_fieldAddr fd_26_0 hf40) rfl ?_
      refine WL.val v_r_Table _ (op_load one_22 rfl (BoxAt.cell (BoxAt.lift (Ext.trans hE16 hS44.ext) hx6) rfl)) rfl ?_
      have hr50 := inR_len (Ty.lift _ (Ext.trans hE15 hS44.ext) r_r_Table)
      refine WL.val (Value.int .i64 ((r_Table).length : Int)) _ (op_lenL sl_22 (Ty.lift _ (Ext.trans hE15 hS44.ext) r_r_Table) rfl) rfl ?_
      refine WL.val (Value.pointer (some ⟨b9, 0, none⟩)) _ (op_fieldAddr fd_26_0 hf41) rfl ?_
      refine WL.val v_s_Table _ (op_load one_22 rfl (BoxAt.cell (BoxAt.lift hS44.ext hx14) rfl)) rfl ?_
      have hr51 := inR_len (Ty.lift _ (Ext.trans hE15 hS44.ext) r_s_Table)
      refine WL.val (Value.int .i64 ((s_Table).length : Int)) _ (op_lenL sl_22 (Ty.lift _ (Ext.trans hE15 hS44.ext) r_s_Table) rfl) rfl ?_
      refine WL.val (Value.int .i64 (w64 (((r_Table).length : Int) * ((s_Table).length : Int)))) _ (op_mul rfl rfl) rfl ?_
      refine WL.val (Value.bool (decide ((w64 (((r_Table).length : Int) * ((s_Table).length : Int))) > (16 : Int)))) _ (op_gtr rfl rfl) rfl ?_
      refine WL.val (Value.bool (decide ((w64 (((r_Table).length : Int) * ((s_Table).length : Int))) > (16 : Int)))) _ (op_assign rfl) rfl ?_
      refine WL.nil ?_
      show W _ _ _ _ _ _
      refine W.cond (decide ((w64 (((r_Table).length : Int) * ((s_Table).length : Int))) > (16 : Int))) rfl (fun hc52 => ?_) (fun hc52 => ?_)
      · replace h := ip h hc52
        refine W.seq (W.region ?_)
        refine WL.val (Value.agg #[(Value.slice none 0 0)]) _ (op_build bd_26 (parts := []) (partsL trivial) trivial rfl) rfl ?_
        have hS56 := St.addNil (Ty.sl (Ty.sl (Ty.i .i64))) hS44
        replace hS56 : St wd10 wd32 [bx b18 [(Value.slice none 0 0)], (Ty.sl (Ty.sl (Ty.sl (Ty.i .i64)))).at (Value.slice none 0 0) ([] : (List (List (List Int))))] := hS56
        refine WL.storeBox [(Value.slice none 0 0)] hS56 (k := 0) rfl hf42 rfl (us := [(Value.slice none 0 0)]) rfl sz_26 rfl rfl (all_rep (St.rep (t := (Ty.sl (Ty.sl (Ty.sl (Ty.i .i64))))) hS56 1 rfl) all_nil) rfl ?_
        intro wd54 hS55
        replace hS55 : St wd10 wd54 [bx b18 [(Value.slice none 0 0)], (Ty.sl (Ty.sl (Ty.sl (Ty.i .i64)))).at (Value.slice none 0 0) ([] : (List (List (List Int))))] := hS55
        refine WL.val (Value.int .i64 (3 : Int)) _ (op_assign rfl) rfl ?_
        refine WL.nil ?_
        show W _ _ _ _ _ _
        refine W.ret ?_
        obtain rfl := Option.some.inj h
        show FinP _ _ _ _ _ _ _
        exact FinP.ret _ (resCT rfl hf42 st_26 (St.boxAt hS55 0 rfl) rfl rfl) ⟨(Value.slice none 0 0), rfl, (inR_i64.2 (show (-9223372036854775808 : Int) ≤ 3 ∧ (3 : Int) ≤ 9223372036854775807 from by decide)), (Ext.trans hE15 hS55.ext), (St.out (St.pick hS55 [1] rfl) (hE15))⟩
      · replace h := inegb h hc52
        refine W.skip ?_
        show W _ _ _ _ _ _
        refine W.seq (W.region ?_)
        refine WL.val (Value.pointer (some ⟨b1, 0, none⟩)) _ (op_fieldAddr fd_26_0 hf40) rfl ?_
        refine WL.val v_r_Table _ (op_load one_22 rfl (BoxAt.cell (BoxAt.lift (Ext.trans hE16 hS44.ext) hx6) rfl)) rfl ?_
        refine WL.val (Value.pointer (some ⟨b9, 0, none⟩)) _ (op_fieldAddr fd_26_0 hf41) rfl ?_
        refine WL.val v_s_Table _ (op_load one_22 rfl (BoxAt.cell (BoxAt.lift hS44.ext hx14) rfl)) rfl ?_
        obtain ⟨x57, hx58, h⟩ := bs h
        refine WL.call _ (op_call fn_43 (args2 rfl rfl)) (c_spec_l06Product (Ty.lift _ (Ext.trans hE15 hS44.ext) r_r_Table) (Ty.lift _ (Ext.trans hE15 hS44.ext) r_s_Table) hx58) rfl ?_
        rintro u59 wd60 ⟨_, rfl, he61, hs62⟩
        have hS63 := St.join hS44 he61 hs62
        replace hS63 : St wd10 wd60 [bx b18 [(Value.slice none 0 0)], (Ty.sl (Ty.sl (Ty.sl (Ty.i .i64)))).at u59 x57] := hS63
        refine WL.val u59 _ (op_assign rfl) rfl ?_
        refine WL.nil ?_
        show W _ _ _ _ _ _
        refine W.seq (W.seq (W.region ?_))
        refine WL.val u59 _ (op_move rfl) rfl ?_
        obtain ⟨x64, hx65, h⟩ := bs h
        refine WL.call _ (op_call fn_44 (args1 rfl)) (c_spec_l03Cube (St.rep (t := (Ty.sl (Ty.sl (Ty.sl (Ty.i .i64))))) hS63 1 rfl) hx65) rfl ?_
        rintro _ wd66 ⟨rfl, he67⟩
        have hS69 := St.extend hS63 he67
        replace hS69 : St wd10 wd66 [bx b18 [(Value.slice none 0 0)], (Ty.sl (Ty.sl (Ty.sl (Ty.i .i64)))).at u59 x57] := hS69
        refine WL.val (Value.bool (!x64)) _ (op_not rfl) rfl ?_
        refine WL.nil ?_
        show W _ _ _ _ _ _
        refine W.cond (!x64) rfl (fun hc70 => ?_) (fun hc70 => ?_)
        · replace h := ip h hc70
          refine W.seq (W.region ?_)
          refine WL.val (Value.agg #[(Value.slice none 0 0)]) _ (op_build bd_26 (parts := []) (partsL trivial) trivial rfl) rfl ?_
          have hS74 := St.addNil (Ty.sl (Ty.sl (Ty.i .i64))) hS69
          replace hS74 : St wd10 wd66 [bx b18 [(Value.slice none 0 0)], (Ty.sl (Ty.sl (Ty.sl (Ty.i .i64)))).at u59 x57, (Ty.sl (Ty.sl (Ty.sl (Ty.i .i64)))).at (Value.slice none 0 0) ([] : (List (List (List Int))))] := hS74
          refine WL.storeBox [(Value.slice none 0 0)] hS74 (k := 0) rfl hf42 rfl (us := [(Value.slice none 0 0)]) rfl sz_26 rfl rfl (all_rep (St.rep (t := (Ty.sl (Ty.sl (Ty.sl (Ty.i .i64))))) hS74 2 rfl) all_nil) rfl ?_
          intro wd72 hS73
          replace hS73 : St wd10 wd72 [bx b18 [(Value.slice none 0 0)], (Ty.sl (Ty.sl (Ty.sl (Ty.i .i64)))).at u59 x57, (Ty.sl (Ty.sl (Ty.sl (Ty.i .i64)))).at (Value.slice none 0 0) ([] : (List (List (List Int))))] := hS73
          refine WL.val (Value.int .i64 (3 : Int)) _ (op_assign rfl) rfl ?_
          refine WL.nil ?_
          show W _ _ _ _ _ _
          refine W.ret ?_
          obtain rfl := Option.some.inj h
          show FinP _ _ _ _ _ _ _
          exact FinP.ret _ (resCT rfl hf42 st_26 (St.boxAt hS73 0 rfl) rfl rfl) ⟨(Value.slice none 0 0), rfl, (inR_i64.2 (show (-9223372036854775808 : Int) ≤ 3 ∧ (3 : Int) ≤ 9223372036854775807 from by decide)), (Ext.trans hE15 hS73.ext), (St.out (St.pick hS73 [2] rfl) (hE15))⟩
        · replace h := inegb h hc70
          refine W.skip ?_
          show W _ _ _ _ _ _
          refine W.seq (W.region ?_)
          refine WL.val u59 _ (op_move rfl) rfl ?_
          refine WL.val (Value.agg #[u59]) _ (op_build bd_26 (parts := [(0, u59, [u59])]) (partsL ⟨rfl, rfl, trivial⟩) ⟨(cells_rep (St.rep (t := (Ty.sl (Ty.sl (Ty.sl (Ty.i .i64))))) hS69 1 rfl)), trivial⟩ rfl) rfl ?_
          refine WL.storeBox [u59] hS69 (k := 0) rfl hf42 rfl (us := [u59]) rfl sz_26 rfl rfl (all_rep (St.rep (t := (Ty.sl (Ty.sl (Ty.sl (Ty.i .i64))))) hS69 1 rfl) all_nil) rfl ?_
          intro wd75 hS76
          replace hS76 : St wd10 wd75 [bx b18 [u59], (Ty.sl (Ty.sl (Ty.sl (Ty.i .i64)))).at u59 x57] := hS76
          refine WL.val (Value.int .i64 (0 : Int)) _ (op_assign rfl) rfl ?_
          refine WL.nil ?_
          show W _ _ _ _ _ _
          refine W.ret ?_
          obtain rfl := Option.some.inj h
          show FinP _ _ _ _ _ _ _
          exact FinP.ret _ (resCT rfl hf42 st_26 (St.boxAt hS76 0 rfl) rfl rfl) ⟨u59, rfl, (inR_i64.2 (show (-9223372036854775808 : Int) ≤ 0 ∧ (0 : Int) ≤ 9223372036854775807 from by decide)), (Ext.trans hE15 hS76.ext), (St.out (St.pick hS76 [1] rfl) (hE15))⟩

theorem c_impl_zeros {w : World} {rows : Int} {columns : Int} (r_rows : InR .i64 rows) (r_columns : InR .i64 columns) {res : (List (List Int))} (h : p_impl_zeros rows columns  = some res) :
    Ret Try.prog 90 #[(Value.int .i64 rows), (Value.int .i64 columns)] w (fun v w' => ∃ (u0 : Value), v = u0 ∧ Ext w w' ∧ Sep w.heap.size w' [(Ty.sl (Ty.sl (Ty.i .i64))).at u0 res]) := by
  unfold p_impl_zeros at h
  have hS0 : St w w [] := St.start w
  refine Ret.start (fn := Try.f90) Try.func90 rfl 17 rfl rfl ?_
  refine W.seq (W.region ?_)
  refine WL.val (Value.slice none 0 0) _ (op_assign rfl) rfl ?_
  refine WL.nil ?_
  show W _ _ _ _ _ _
  refine W.seq (W.region ?_)
  refine WL.lit0 (t := (Ty.sl (Ty.i .i64))) hS0 sl_57 rfl rfl ?_
  intro u1 wd2 hS3 he4
  replace hS3 : St w wd2 [(Ty.sl (Ty.sl (Ty.i .i64))).at u1 ([] : (List (List Int)))] := hS3
  refine WL.val u1 _ (op_assign rfl) rfl ?_
  refine WL.nil ?_
  show W _ _ _ _ _ _
  refine W.seq (W.seq (W.region ?_))
  refine WL.val (Value.int .i64 rows) _ (op_move rfl) rfl ?_
  refine WL.val (Value.int .i64 (0 : Int)) _ (op_move rfl) rfl ?_
  refine WL.nil ?_
  show W _ _ _ _ _ _
  obtain ⟨res5, hres6, h⟩ := bs h
  refine W.blockLoop (fun fq wq => ∃ s, res5 = Res.fin s ∧ ∃ (uu0 : Value), fq 5 = uu0 ∧ St w wq [(Ty.sl (Ty.sl (Ty.i .i64))).at uu0 s]) ?_ ?_
  · refine W.forN (fun k (s : (List (List Int))) fq wq => ∃ (uu0 : Value), fq 1 = (Value.int .i64 columns) ∧ fq 5 = uu0 ∧ fq 7 = (Value.int .i64 rows) ∧ fq 8 = Value.int .i64 (k : Int) ∧ InR .i64 (k : Int) ∧ St w wq [(Ty.sl (Ty.sl (Ty.i .i64))).at uu0 s]) hres6 ⟨u1, rfl, rfl, rfl, rfl, (inR_i64.2 (show (-9223372036854775808 : Int) ≤ 0 ∧ (0 : Int) ≤ 9223372036854775807 from by decide)), hS3⟩ ?_ ?_
    · intro k7 x8 ct9 f10 wd11 hk12 hb13 hI14 hbrk15 hret16
      replace hI14 : ∃ (uu0 : Value), f10 1 = (Value.int .i64 columns) ∧ f10 5 = uu0 ∧ f10 7 = (Value.int .i64 rows) ∧ f10 8 = Value.int .i64 (k7 : Int) ∧ InR .i64 (k7 : Int) ∧ St w wd11 [(Ty.sl (Ty.sl (Ty.i .i64))).at uu0 x8] := hI14
      replace hb13 : p_impl_zeros_L1 columns k7 x8 = some ct9 := hb13
      unfold p_impl_zeros_L1 at hb13
      obtain ⟨u17, hf18, hf19, hf20, hf21, hr22, hS23⟩ := hI14
      refine W.seq (W.region ?_)
      refine WL.val (Value.bool (decide ((k7 : Int) < rows))) _ (op_lss hf21 hf20) rfl ?_
      have hl24 : (k7 : Int) < rows := by omega
      refine WL.nil ?_
      show W _ _ _ _ _ _
      refine W.seq ?_
      refine W.condT (decide ((k7 : Int) < rows)) rfl (decide_eq_true hl24) ?_
      refine W.skip ?_
      show W _ _ _ _ _ _
      refine W.seq ?_
      refine W.block ?_
      refine W.region ?_
      refine WL.val u17 _ (op_move hf19) rfl ?_
      refine WL.val (Value.int .i64 columns) _ (op_move hf18) rfl ?_
      obtain ⟨x26, hx27, hb13⟩ := bs hb13
      refine WL.make (t := (Ty.i .i64)) hS23 sl_35 (fun _ _ => ⟨rfl, (inR_i64.2 (show (-9223372036854775808 : Int) ≤ 0 ∧ (0 : Int) ≤ 9223372036854775807 from by decide))⟩) rfl rfl hx27 rfl rfl ?_
      intro u28 wd29 hS30 he31
      replace hS30 : St w wd29 [(Ty.sl (Ty.sl (Ty.i .i64))).at u17 x8, (Ty.sl (Ty.i .i64)).at u28 x26] := hS30
      refine WL.lit [u28] hS30 sl_57 rfl rfl (fillL rfl ⟨rfl, rfl, (cells_rep (St.rep (t := (Ty.sl (Ty.i .i64))) hS30 1 rfl)), trivial⟩) rfl rfl ?_
      intro b36 wd33 hS34 he35 hx37
      replace hS34 : St w wd33 [(Ty.sl (Ty.sl (Ty.i .i64))).at u17 x8, (Ty.sl (Ty.i .i64)).at u28 x26, bx b36 [u28]] := hS34
      obtain ⟨x38, hx39, hb13⟩ := bs hb13
      refine WL.appendRow hS34 (k := 0) (k2 := 1) (k3 := 2) rfl rfl rfl rfl sl_57 rfl rfl rfl rfl hx39 rfl ?_
      intro u40 wd41 hS42 hz43
      replace hS42 : St w wd41 [(Ty.sl (Ty.sl (Ty.i .i64))).at u40 x38, emp, bx b36 [u28]] := hS42
      refine WL.val u40 _ (op_assign rfl) rfl ?_
      refine WL.nil ?_
      show W _ _ _ _ _ _
      refine W.region ?_
      refine WL.val (Value.int .i64 (w64 ((k7 : Int) + (1 : Int)))) _ (op_add hf21 rfl) rfl ?_
      refine WL.val (Value.int .i64 (w64 ((k7 : Int) + (1 : Int)))) _ (op_move rfl) rfl ?_
      refine WL.nil ?_
      obtain rfl := Option.some.inj hb13
      show ∃ s, _ = Ctl.next s ∧ _
      exact ⟨_, rfl, u40, hf18, rfl, hf20, (ctr_next hl24 r_rows), (ctr_rng hl24 r_rows), (St.pick hS42 [0] rfl)⟩
    · intro x50 f45 wd46 hs47 hI48
      replace hI48 : ∃ (uu0 : Value), f45 1 = (Value.int .i64 columns) ∧ f45 5 = uu0 ∧ f45 7 = (Value.int .i64 rows) ∧ f45 8 = Value.int .i64 (((rows).toNat : Nat) : Int) ∧ InR .i64 (((rows).toNat : Nat) : Int) ∧ St w wd46 [(Ty.sl (Ty.sl (Ty.i .i64))).at uu0 x50] := hI48
      obtain ⟨u51, hf52, hf53, hf54, hf55, hr56, hS57⟩ := hI48
      refine W.seq (W.region ?_)
      refine WL.val (Value.bool (decide ((((rows).toNat : Nat) : Int) < rows))) _ (op_lss hf55 hf54) rfl ?_
      have hl58 : ¬ (((rows).toNat : Nat) : Int) < rows := by omega
      refine WL.nil ?_
      show W _ _ _ _ _ _
      refine W.seq ?_
      refine W.condF (decide ((((rows).toNat : Nat) : Int) < rows)) rfl (decide_eq_false hl58) ?_
      refine W.exit ?_
      show _ = _ ∧ _
      exact ⟨rfl, _, hs47, u51, hf53, hS57⟩
  · rintro f59 wd60 ⟨x63, rfl, hq61⟩
    replace h := onRes_fin h
    replace hq61 : ∃ (uu0 : Value), f59 5 = uu0 ∧ St w wd60 [(Ty.sl (Ty.sl (Ty.i .i64))).at uu0 x63] := hq61
    obtain ⟨u64, hf65, hS66⟩ := hq61
    show W _ _ _ _ _ _
    refine W.seq (W.region ?_)
    refine WL.val u64 _ (op_move hf65) rfl ?_
    refine WL.val u64 _ (op_assign rfl) rfl ?_
    refine WL.nil ?_
    show W _ _ _ _ _ _
    refine W.ret ?_
    obtain rfl := Option.some.inj h
    show FinP _ _ _ _ _ _ _
    exact FinP.ret _ (res1 rfl rfl) ⟨u64, rfl, hS66.ext, (St.out (St.pick hS66 [0] rfl) (Ext.refl _))⟩

theorem c_impl_emptyCube {w : World} {n : Int} (r_n : InR .i64 n) {res : (List (List (List Int)))} (h : p_impl_emptyCube n  = some res) :
    Ret Try.prog 72 #[(Value.int .i64 n)] w (fun v w' => ∃ (u0 : Value), v = (Value.agg #[u0]) ∧ Ext w w' ∧ Sep w.heap.size w' [(Ty.sl (Ty.sl (Ty.sl (Ty.i .i64)))).at u0 res]) := by
  unfold p_impl_emptyCube at h
  have hS0 : St w w [] := St.start w
  refine Ret.start (fn := Try.f72) Try.func72 rfl 18 rfl rfl ?_
  refine W.seq (W.region ?_)
  refine WL.alloc hS0 ze_26 (cs := [(Value.slice none 0 0)]) rfl rfl ?_
  intro b1 wd2 hS3 he4
  replace hS3 : St w wd2 [bx b1 [(Value.slice none 0 0)]] := hS3
  refine WL.nil ?_
  show W _ _ _ _ _ _
  refine W.seq (W.region ?_)
  refine WL.val (Value.agg #[(Value.slice none 0 0)]) _ (op_build bd_26 (parts := []) (partsL trivial) trivial rfl) rfl ?_
  refine WL.alloc hS3 ze_26 (cs := [(Value.slice none 0 0)]) rfl rfl ?_
  intro b5 wd6 hS7 he8
  replace hS7 : St w wd6 [bx b1 [(Value.slice none 0 0)], bx b5 [(Value.slice none 0 0)]] := hS7
  have hS11 := St.addNil (Ty.sl (Ty.sl (Ty.i .i64))) hS7
  replace hS11 : St w wd6 [bx b1 [(Value.slice none 0 0)], bx b5 [(Value.slice none 0 0)], (Ty.sl (Ty.sl (Ty.sl (Ty.i .i64)))).at (Value.slice none 0 0) ([] : (List (List (List Int))))] := hS11
  refine WL.storeBox [(Value.slice none 0 0)] hS11 (k := 1) rfl rfl rfl (us := [(Value.slice none 0 0)]) rfl sz_26 rfl rfl (all_rep (St.rep (t := (Ty.sl (Ty.sl (Ty.sl (Ty.i .i64))))) hS11 2 rfl) all_nil) rfl ?_
  intro wd9 hS10
  replace hS10 : St w wd9 [bx b1 [(Value.slice none 0 0)], bx b5 [(Value.slice none 0 0)], (Ty.sl (Ty.sl (Ty.sl (Ty.i .i64)))).at (Value.slice none 0 0) ([] : (List (List (List Int))))] := hS10
  refine WL.nil ?_
  show W _ _ _ _ _ _
  refine W.seq (W.seq (W.region ?_))
  refine WL.val (Value.int .i64 n) _ (op_move rfl) rfl ?_
  refine WL.val (Value.int .i64 (0 : Int)) _ (op_move rfl) rfl ?_
  refine WL.nil ?_
  show W _ _ _ _ _ _
  obtain ⟨res12, hres13, h⟩ := bs h
  refine W.blockLoop (fun fq wq => ∃ s, res12 = Res.fin s ∧ ∃ (uu0 : Value), fq 2 = (Value.pointer (some ⟨b1, 0, none⟩)) ∧ fq 3 = (Value.pointer (some ⟨b5, 0, none⟩)) ∧ St w wq [bx b1 [(Value.slice none 0 0)], bx b5 [uu0], (Ty.sl (Ty.sl (Ty.sl (Ty.i .i64)))).at uu0 s]) ?_ ?_
  · refine W.forN (fun k (s : (List (List (List Int)))) fq wq => ∃ (uu0 : Value), fq 0 = (Value.int .i64 n) ∧ fq 2 = (Value.pointer (some ⟨b1, 0, none⟩)) ∧ fq 3 = (Value.pointer (some ⟨b5, 0, none⟩)) ∧ fq 5 = (Value.int .i64 n) ∧ fq 6 = Value.int .i64 (k : Int) ∧ InR .i64 (k : Int) ∧ St w wq [bx b1 [(Value.slice none 0 0)], bx b5 [uu0], (Ty.sl (Ty.sl (Ty.sl (Ty.i .i64)))).at uu0 s]) hres13 ⟨(Value.slice none 0 0), rfl, rfl, rfl, rfl, rfl, (inR_i64.2 (show (-9223372036854775808 : Int) ≤ 0 ∧ (0 : Int) ≤ 9223372036854775807 from by decide)), hS10⟩ ?_ ?_
    · intro k14 x15 ct16 f17 wd18 hk19 hb20 hI21 hbrk22 hret23
      replace hI21 : ∃ (uu0 : Value), f17 0 = (Value.int .i64 n) ∧ f17 2 = (Value.pointer (some ⟨b1, 0, none⟩)) ∧ f17 3 = (Value.pointer (some ⟨b5, 0, none⟩)) ∧ f17 5 = (Value.int .i64 n) ∧ f17 6 = Value.int .i64 (k14 : Int) ∧ InR .i64 (k14 : Int) ∧ St w wd18 [bx b1 [(Value.slice none 0 0)], bx b5 [uu0], (Ty.sl (Ty.sl (Ty.sl (Ty.i .i64)))).at uu0 x15] := hI21
      replace hb20 : p_impl_emptyCube_L1 n k14 x15 = some ct16 := hb20
      unfold p_impl_emptyCube_L1 at hb20
      obtain ⟨u24, hf25, hf26, hf27, hf28, hf29, hr30, hS31⟩ := hI21
      refine W.seq (W.region ?_)
      refine WL.val (Value.bool (decide ((k14 : Int) < n))) _ (op_lss hf29 hf28) rfl ?_
      have hl32 : (k14 : Int) < n := by omega
      refine WL.nil ?_
      show W _ _ _ _ _ _
      refine W.seq ?_
      refine W.condT (decide ((k14 : Int) < n)) rfl (decide_eq_true hl32) ?_
      refine W.skip ?_
      show W _ _ _ _ _ _
      refine W.seq ?_
      refine W.block ?_
      obtain ⟨x81, hx82, hb20⟩ := bs hb20
      refine W.drawR mixo 6 [] [fun _ v _ _ => v = (Value.pointer (some ⟨b5, 0, none⟩)), fun _ v _ _ => v = u24, fun _ v _ _ => v = (Value.int .i64 n) ∧ InR .i64 n, fun _ v _ _ => v = (Value.int .i64 n) ∧ InR .i64 n, fun _ v S w' => SepS S w' [(Ty.sl (Ty.sl (Ty.i .i64))).at v x81], fun f v S w' => ∃ b : Nat, v = Value.slice (some ⟨b, 0, none⟩) 1 1 ∧ SepS S w' [bx b [f 12]]] (by kernel_rfl) (by kernel_rfl) ⟨⟨fun _ _ _ _ _ _ h => h, fun _ _ _ _ _ _ h => h⟩, ⟨fun _ _ _ _ _ _ h => h, fun _ _ _ _ _ _ h => h⟩, ⟨fun _ _ _ _ _ _ h => h, fun _ _ _ _ _ _ h => h⟩, ⟨fun _ _ _ _ _ _ h => h, fun _ _ _ _ _ _ h => h⟩, ⟨fun _ _ _ _ _ he h => SepS.extend he h, fun _ _ _ _ _ _ h => h⟩, ⟨fun _ _ _ _ _ he ⟨b, h1, h2⟩ => ⟨b, h1, SepS.extend he h2⟩, fun f f2 _ _ _ hf ⟨b, h1, h2⟩ => ⟨b, h1, by rw [← hf 4 12 rfl rfl]; exact h2⟩⟩, trivial⟩ ⟨?_, ?_, ?_, ?_, ?_, ?_, trivial⟩ ?_
      · refine ObX.op rfl ?_
        intro f34 wd35 he36 hout37 hphi38
        have hS39 : St w wd35 [bx b1 [(Value.slice none 0 0)], bx b5 [u24], (Ty.sl (Ty.sl (Ty.sl (Ty.i .i64)))).at u24 x15] := St.extend hS31 he36
        have e40 : f34 3 = (Value.pointer (some ⟨b5, 0, none⟩)) := (hout37 3 rfl).trans hf27
        exact OpX.val (Value.pointer (some ⟨b5, 0, none⟩)) wd35 rfl (op_fieldAddr fd_26_0 e40) (Ext.refl _) rfl
      · refine ObX.op rfl ?_
        intro f41 wd42 he43 hout44 hphi45
        have hS46 : St w wd42 [bx b1 [(Value.slice none 0 0)], bx b5 [u24], (Ty.sl (Ty.sl (Ty.sl (Ty.i .i64)))).at u24 x15] := St.extend hS31 he43
        obtain ⟨S47, hS48, hf49⟩ := hphi45 0 8 _ rfl rfl rfl
        have e50 : f41 8 = (Value.pointer (some ⟨b5, 0, none⟩)) := hf49
        exact OpX.val u24 wd42 rfl (op_load one_22 e50 (BoxAt.cell (St.boxAt hS46 1 rfl) rfl)) (Ext.refl _) rfl
      · refine ObX.op rfl ?_
        intro f51 wd52 he53 hout54 hphi55
        have hS56 : St w wd52 [bx b1 [(Value.slice none 0 0)], bx b5 [u24], (Ty.sl (Ty.sl (Ty.sl (Ty.i .i64)))).at u24 x15] := St.extend hS31 he53
        have e57 : f51 0 = (Value.int .i64 n) := (hout54 0 rfl).trans hf25
        exact OpX.val (Value.int .i64 n) wd52 rfl (op_move e57) (Ext.refl _) ⟨rfl, r_n⟩
      · refine ObX.op rfl ?_
        intro f58 wd59 he60 hout61 hphi62
        have hS63 : St w wd59 [bx b1 [(Value.slice none 0 0)], bx b5 [u24], (Ty.sl (Ty.sl (Ty.sl (Ty.i .i64)))).at u24 x15] := St.extend hS31 he60
        have e64 : f58 0 = (Value.int .i64 n) := (hout61 0 rfl).trans hf25
        exact OpX.val (Value.int .i64 n) wd59 rfl (op_move e64) (Ext.refl _) ⟨rfl, r_n⟩
      · refine ObX.op rfl ?_
        intro f65 wd66 he67 hout68 hphi69
        have hS70 : St w wd66 [bx b1 [(Value.slice none 0 0)], bx b5 [u24], (Ty.sl (Ty.sl (Ty.sl (Ty.i .i64)))).at u24 x15] := St.extend hS31 he67
        obtain ⟨S71, hS72, hf73⟩ := hphi69 2 10 _ rfl rfl rfl
        obtain ⟨e74, hr75⟩ : f65 10 = (Value.int .i64 n) ∧ InR .i64 n := hf73
        obtain ⟨S76, hS77, hf78⟩ := hphi69 3 11 _ rfl rfl rfl
        obtain ⟨e79, hr80⟩ : f65 11 = (Value.int .i64 n) ∧ InR .i64 n := hf78
        refine OpX.call rfl (op_call fn_90 (args2 e74 e79)) (Ret.mono (c_impl_zeros hr75 hr80 hx82) ?_)
        rintro u83 wd84 ⟨_, rfl, he85, hs86⟩
        exact ⟨he85, _, newS _ _, (Sep.new hs86)⟩
      · refine ObX.op rfl ?_
        intro f87 wd88 he89 hout90 hphi91
        have hS92 : St w wd88 [bx b1 [(Value.slice none 0 0)], bx b5 [u24], (Ty.sl (Ty.sl (Ty.sl (Ty.i .i64)))).at u24 x15] := St.extend hS31 he89
        obtain ⟨S93, hS94, hf95⟩ := hphi91 4 12 _ rfl rfl rfl
        have e96 : SepS S93 wd88 [(Ty.sl (Ty.sl (Ty.i .i64))).at (f87 12) x81] := hf95
        exact OpX.valO _ _ rfl (mk_lit (us := [(f87 12)]) sl_22 rfl (by decide) (fillL rfl ⟨rfl, rfl, (cells_rep (SepS.rep (t := (Ty.sl (Ty.sl (Ty.i .i64)))) e96 0 rfl)), trivial⟩) rfl) (Ext.alloc _ _) ⟨_, rfl, Sep.new (sep_box _ [(f87 12)] _)⟩
      · intro f97 wd98 Ss99 he100 hout101 hSn102 hSd103 hphi104
        show WL _ _ _ _ _ _ _
        have hS105 : St w wd98 [bx b1 [(Value.slice none 0 0)], bx b5 [u24], (Ty.sl (Ty.sl (Ty.sl (Ty.i .i64)))).at u24 x15] := St.extend hS31 he100
        have e106 : f97 9 = u24 := hphi104 1 9 _ (by decide) rfl rfl
        have e107 : SepS (Ss99 4) wd98 [(Ty.sl (Ty.sl (Ty.i .i64))).at (f97 12) x81] := hphi104 4 12 _ (by decide) rfl rfl
        obtain ⟨b109, e108, e108s⟩ : ∃ b : Nat, f97 13 = Value.slice (some ⟨b, 0, none⟩) 1 1 ∧ SepS (Ss99 5) wd98 [bx b [f97 12]] := hphi104 5 13 _ (by decide) rfl rfl
        have e110 : f97 0 = (Value.int .i64 n) := (hout101 0 rfl).trans hf25
        have e111 : f97 2 = (Value.pointer (some ⟨b1, 0, none⟩)) := (hout101 2 rfl).trans hf26
        have e112 : f97 3 = (Value.pointer (some ⟨b5, 0, none⟩)) := (hout101 3 rfl).trans hf27
        have e113 : f97 5 = (Value.int .i64 n) := (hout101 5 rfl).trans hf28
        have e114 : f97 6 = (Value.int .i64 (k14 : Int)) := (hout101 6 rfl).trans hf29
        have hS115 := St.joinS hS31 he100 hSn102 (SepS.consS hSd103 rfl e107 (SepS.consS hSd103 rfl e108s SepS.nilS))
        replace hS115 : St w wd98 [bx b1 [(Value.slice none 0 0)], bx b5 [u24], (Ty.sl (Ty.sl (Ty.sl (Ty.i .i64)))).at u24 x15, (Ty.sl (Ty.sl (Ty.i .i64))).at (f97 12) x81, bx b109 [(f97 12)]] := hS115
        obtain ⟨x116, hx117, hb20⟩ := bs hb20
        refine WL.appendRow hS115 (k := 2) (k2 := 3) (k3 := 4) rfl rfl rfl rfl sl_22 rfl rfl e106 e108 hx117 rfl ?_
        intro u118 wd119 hS120 hz121
        replace hS120 : St w wd119 [bx b1 [(Value.slice none 0 0)], bx b5 [u24], (Ty.sl (Ty.sl (Ty.sl (Ty.i .i64)))).at u118 x116, emp, bx b109 [(f97 12)]] := hS120
        refine WL.val (Value.pointer (some ⟨b5, 0, none⟩)) _ (op_fieldAddr fd_26_0 e112) rfl ?_
        refine WL.storeBox [u118] hS120 (k := 1) rfl rfl rfl (us := [u118]) (cells_rep (St.rep (t := (Ty.sl (Ty.sl (Ty.sl (Ty.i .i64))))) hS120 2 rfl)) sz_22 rfl rfl (all_rep (St.rep (t := (Ty.sl (Ty.sl (Ty.sl (Ty.i .i64))))) hS120 2 rfl) all_nil) rfl ?_
        intro wd122 hS123
        replace hS123 : St w wd122 [bx b1 [(Value.slice none 0 0)], bx b5 [u118], (Ty.sl (Ty.sl (Ty.sl (Ty.i .i64)))).at u118 x116, emp, bx b109 [(f97 12)]] := hS123
        refine WL.nil ?_
        show W _ _ _ _ _ _
        refine W.region ?_
        refine WL.val (Value.int .i64 (w64 ((k14 : Int) + (1 : Int)))) _ (op_add e114 rfl) rfl ?_
        refine WL.val (Value.int .i64 (w64 ((k14 : Int) + (1 : Int)))) _ (op_move rfl) rfl ?_
        refine WL.nil ?_
        obtain rfl := Option.some.inj hb20
        show ∃ s, _ = Ctl.next s ∧ _
        exact ⟨_, rfl, u118, e110, e111, e112, e113, (ctr_next hl32 r_n), (ctr_rng hl32 r_n), (St.pick hS123 [0, 1, 2] rfl)⟩
    · intro x130 f125 wd126 hs127 hI128
      replace hI128 : ∃ (uu0 : Value), f125 0 = (Value.int .i64 n) ∧ f125 2 = (Value.pointer (some ⟨b1, 0, none⟩)) ∧ f125 3 = (Value.pointer (some ⟨b5, 0, none⟩)) ∧ f125 5 = (Value.int .i64 n) ∧ f125 6 = Value.int .i64 (((n).toNat : Nat) : Int) ∧ InR .i64 (((n).toNat : Nat) : Int) ∧ St w wd126 [bx b1 [(Value.slice none 0 0)], bx b5 [uu0], (Ty.sl (Ty.sl (Ty.sl (Ty.i .i64)))).at uu0 x130] := hI128
      obtain ⟨u131, hf132, hf133, hf134, hf135, hf136, hr137, hS138⟩ := hI128
      refine W.seq (W.region ?_)
      refine WL.val (Value.bool (decide ((((n).toNat : Nat) : Int) < n))) _ (op_lss hf136 hf135) rfl ?_
      have hl139 : ¬ (((n).toNat : Nat) : Int) < n := by omega
      refine WL.nil ?_
      show W _ _ _ _ _ _
      refine W.seq ?_
      refine W.condF (decide ((((n).toNat : Nat) : Int) < n)) rfl (decide_eq_false hl139) ?_
      refine W.exit ?_
      show _ = _ ∧ _
      exact ⟨rfl, _, hs127, u131, hf133, hf134, hS138⟩
  · rintro f140 wd141 ⟨x144, rfl, hq142⟩
    replace h := onRes_fin h
    replace hq142 : ∃ (uu0 : Value), f140 2 = (Value.pointer (some ⟨b1, 0, none⟩)) ∧ f140 3 = (Value.pointer (some ⟨b5, 0, none⟩)) ∧ St w wd141 [bx b1 [(Value.slice none 0 0)], bx b5 [uu0], (Ty.sl (Ty.sl (Ty.sl (Ty.i .i64)))).at uu0 x144] := hq142
    obtain ⟨u145, hf146, hf147, hS148⟩ := hq142
    show W _ _ _ _ _ _
    refine W.seq (W.region ?_)
    refine WL.val (Value.agg #[u145]) _ (op_loadBox st_26 hf147 (St.boxAt hS148 1 rfl) rfl rfl) rfl ?_
    refine WL.storeBox [u145] hS148 (k := 0) rfl hf146 rfl (us := [u145]) rfl sz_26 rfl rfl (all_rep (St.rep (t := (Ty.sl (Ty.sl (Ty.sl (Ty.i .i64))))) hS148 2 rfl) all_nil) rfl ?_
    intro wd149 hS150
    replace hS150 : St w wd149 [bx b1 [u145], bx b5 [u145], (Ty.sl (Ty.sl (Ty.sl (Ty.i .i64)))).at u145 x144] := hS150
    refine WL.nil ?_
    show W _ _ _ _ _ _
    refine W.ret ?_
    obtain rfl := Option.some.inj h
    show FinP _ _ _ _ _ _ _
    exact FinP.ret _ (resC rfl hf146 st_26 (St.boxAt hS150 0 rfl) rfl) ⟨u145, rfl, hS150.ext, (St.out (St.pick hS150 [2] rfl) (Ext.refl _))⟩

theorem c_impl_productRing {w : World} {r_Table : (List (List (List Int)))} {v_r_Table : Value} {s_Table : (List (List (List Int)))} {v_s_Table : Value} (r_r_Table : (Ty.sl (Ty.sl (Ty.sl (Ty.i .i64)))).rep w v_r_Table r_Table) (r_s_Table : (Ty.sl (Ty.sl (Ty.sl (Ty.i .i64)))).rep w v_s_Table s_Table) {res : (List (List (List Int)))} (h : p_impl_productRing r_Table s_Table  = some res) :
    Ret Try.prog 45 #[(Value.agg #[v_r_Table]), (Value.agg #[v_s_Table])] w (fun v w' => ∃ (u0 : Value), v = (Value.agg #[u0]) ∧ Ext w w' ∧ Sep w.heap.size w' [(Ty.sl (Ty.sl (Ty.sl (Ty.i .i64)))).at u0 res]) := by
  unfold p_impl_productRing at h
  have hS0 : St w w [] := St.start w
  refine Ret.start (fn := Try.f45) Try.func45 rfl 86 rfl rfl ?_
  refine W.seq (W.region ?_)
  refine WL.box hS0 rfl (cs := [v_r_Table]) rfl rfl ?_
  intro b1 wd2 hS3 he4 hx5
  replace hS3 : St w wd2 [bx b1 [v_r_Table]] := hS3
  have hx6 := St.boxAt hS3 0 rfl
  have hE7 : Ext w wd2 := hS3.ext
  have hS8 : St wd2 wd2 [] := St.start wd2
  refine WL.box hS8 rfl (cs := [v_s_Table]) rfl rfl ?_
  intro b9 wd10 hS11 he12 hx13
  replace hS11 : St wd2 wd10 [bx b9 [v_s_Table]] := hS11
  have hx14 := St.boxAt hS11 0 rfl
  have hE15 : Ext w wd10 := (Ext.trans hE7 hS11.ext)
  have hE16 : Ext wd2 wd10 := hS11.ext
  have hS17 : St wd10 wd10 [] := St.start wd10
  refine WL.alloc hS17 ze_26 (cs := [(Value.slice none 0 0)]) rfl rfl ?_
  intro b18 wd19 hS20 he21
  replace hS20 : St wd10 wd19 [bx b18 [(Value.slice none 0 0)]] := hS20
  refine WL.nil ?_
  show W _ _ _ _ _ _
  refine W.seq (W.region ?_)
  refine WL.val (Value.pointer (some ⟨b9, 0, none⟩)) _ (op_fieldAddr fd_26_0 rfl) rfl ?_
  refine WL.val v_s_Table _ (op_load one_22 rfl (BoxAt.cell (BoxAt.lift hS20.ext hx14) rfl)) rfl ?_
  have hr22 := inR_len (Ty.lift _ (Ext.trans hE15 hS20.ext) r_s_Table)
  refine WL.val (Value.int .i64 ((s_Table).length : Int)) _ (op_lenL sl_22 (Ty.lift _ (Ext.trans hE15 hS20.ext) r_s_Table) rfl) rfl ?_
  refine WL.val (Value.int .i64 ((s_Table).length : Int)) _ (op_assign rfl) rfl ?_
  refine WL.nil ?_
  show W _ _ _ _ _ _
  refine W.seq (W.region ?_)
  refine WL.val (Value.pointer (some ⟨b1, 0, none⟩)) _ (op_fieldAddr fd_26_0 rfl) rfl ?_
  refine WL.val v_r_Table _ (op_load one_22 rfl (BoxAt.cell (BoxAt.lift (Ext.trans hE16 hS20.ext) hx6) rfl)) rfl ?_
  have hr23 := inR_len (Ty.lift _ (Ext.trans hE15 hS20.ext) r_r_Table)
  refine WL.val (Value.int .i64 ((r_Table).length : Int)) _ (op_lenL sl_22 (Ty.lift _ (Ext.trans hE15 hS20.ext) r_r_Table) rfl) rfl ?_
  refine WL.val (Value.int .i64 ((s_Table).length : Int)) _ (op_move rfl) rfl ?_
  refine WL.val (Value.int .i64 (w64 (((r_Table).length : Int) * ((s_Table).length : Int)))) _ (op_mul rfl rfl) rfl ?_
  obtain ⟨x24, hx25, h⟩ := bs h
  refine WL.call _ (op_call fn_72 (args1 rfl)) (c_impl_emptyCube (inR_wrap _ _) hx25) rfl ?_
  rintro _ wd27 ⟨u26, rfl, he28, hs29⟩
  have hS30 := St.join hS20 he28 hs29
  replace hS30 : St wd10 wd27 [bx b18 [(Value.slice none 0 0)], (Ty.sl (Ty.sl (Ty.sl (Ty.i .i64)))).at u26 x24] := hS30
  refine WL.alloc hS30 ze_26 (cs := [(Value.slice none 0 0)]) rfl rfl ?_
  intro b31 wd32 hS33 he34
  replace hS33 : St wd10 wd32 [bx b18 [(Value.slice none 0 0)], (Ty.sl (Ty.sl (Ty.sl (Ty.i .i64)))).at u26 x24, bx b31 [(Value.slice none 0 0)]] := hS33
  refine WL.storeBox [u26] hS33 (k := 2) rfl rfl rfl (us := [u26]) rfl sz_26 rfl rfl (all_rep (St.rep (t := (Ty.sl (Ty.sl (Ty.sl (Ty.i .i64))))) hS33 1 rfl) all_nil) rfl ?_
  intro wd35 hS36
  replace hS36 : St wd10 wd35 [bx b18 [(Value.slice none 0 0)], (Ty.sl (Ty.sl (Ty.sl (Ty.i .i64)))).at u26 x24, bx b31 [u26]] := hS36
  refine WL.nil ?_
  show W _ _ _ _ _ _
  refine W.seq (W.seq (W.region ?_))
  refine WL.val (Value.pointer (some ⟨b31, 0, none⟩)) _ (op_fieldAddr fd_26_0 rfl) rfl ?_
  refine WL.val u26 _ (op_load one_22 rfl (BoxAt.cell (St.boxAt hS36 2 rfl) rfl)) rfl ?_
  have hr37 := inR_len (St.rep (t := (Ty.sl (Ty.sl (Ty.sl (Ty.i .i64))))) hS36 1 rfl)
  refine WL.val (Value.int .i64 ((x24).length : Int)) _ (op_lenL sl_22 (St.rep (t := (Ty.sl (Ty.sl (Ty.sl (Ty.i .i64))))) hS36 1 rfl) rfl) rfl ?_
  refine WL.val (Value.int .i64 (0 : Int)) _ (op_move rfl) rfl ?_
  refine WL.nil ?_
  show W _ _ _ _ _ _
  obtain ⟨res38, hres39, h⟩ := bs h
  refine W.blockLoop (fun fq wq => ∃ s, res38 = Res.fin s ∧ fq 4 = (Value.pointer (some ⟨b18, 0, none⟩)) ∧ fq 6 = (Value.pointer (some ⟨b31, 0, none⟩)) ∧ St wd10 wq [bx b18 [(Value.slice none 0 0)], (Ty.sl (Ty.sl (Ty.sl (Ty.i .i64)))).at u26 s, bx b31 [u26]]) ?_ ?_
  · refine W.forN (fun k (s : (List (List (List Int)))) fq wq => fq 2 = (Value.pointer (some ⟨b1, 0, none⟩)) ∧ fq 3 = (Value.pointer (some ⟨b9, 0, none⟩)) ∧ fq 4 = (Value.pointer (some ⟨b18, 0, none⟩)) ∧ fq 5 = (Value.int .i64 ((s_Table).length : Int)) ∧ fq 6 = (Value.pointer (some ⟨b31, 0, none⟩)) ∧ fq 21 = (Value.int .i64 ((x24).length : Int)) ∧ fq 22 = Value.int .i64 (k : Int) ∧ InR .i64 (k : Int) ∧ St wd10 wq [bx b18 [(Value.slice none 0 0)], (Ty.sl (Ty.sl (Ty.sl (Ty.i .i64)))).at u26 s, bx b31 [u26]]) hres39 ⟨rfl, rfl, rfl, rfl, rfl, rfl, rfl, (inR_i64.2 (show (-9223372036854775808 : Int) ≤ 0 ∧ (0 : Int) ≤ 9223372036854775807 from by decide)), hS36⟩ ?_ ?_
    · intro k40 x41 ct42 f43 wd44 hk45 hb46 hI47 hbrk48 hret49
      replace hI47 : f43 2 = (Value.pointer (some ⟨b1, 0, none⟩)) ∧ f43 3 = (Value.pointer (some ⟨b9, 0, none⟩)) ∧ f43 4 = (Value.pointer (some ⟨b18, 0, none⟩)) ∧ f43 5 = (Value.int .i64 ((s_Table).length : Int)) ∧ f43 6 = (Value.pointer (some ⟨b31, 0, none⟩)) ∧ f43 21 = (Value.int .i64 ((x24).length : Int)) ∧ f43 22 = Value.int .i64 (k40 : Int) ∧ InR .i64 (k40 : Int) ∧ St wd10 wd44 [bx b18 [(Value.slice none 0 0)], (Ty.sl (Ty.sl (Ty.sl (Ty.i .i64)))).at u26 x41, bx b31 [u26]] := hI47
      replace hb46 : p_impl_productRing_L1 s_Table r_Table k40 x41 = some ct42 := hb46
      unfold p_impl_productRing_L1 at hb46
      obtain ⟨hf50, hf51, hf52, hf53, hf54, hf55, hf56, hr57, hS58⟩ := hI47
      refine W.seq (W.region ?_)
      refine WL.val (Value.bool (decide ((k40 : Int) < ((x24).length : Int)))) _ (op_lss hf56 hf55) rfl ?_
      have hl59 : (k40 : Int) < ((x24).length : Int) := by omega
      refine WL.nil ?_
      show W _ _ _ _ _ _
      refine W.seq ?_
      refine W.condT (decide ((k40 : Int) < ((x24).length : Int))) rfl (decide_eq_true hl59) ?_
      refine W.skip ?_
      show W _ _ _ _ _ _
      refine W.seq ?_
      refine W.block ?_
      refine W.seq (W.region ?_)
      refine WL.val (Value.int .i64 (k40 : Int)) _ (op_move hf56) rfl ?_
      refine WL.val (Value.int .i64 (k40 : Int)) _ (op_assign rfl) rfl ?_
      refine WL.nil ?_
      show W _ _ _ _ _ _
      refine W.seq (W.region ?_)
      refine WL.val (Value.pointer (some ⟨b31, 0, none⟩)) _ (op_fieldAddr fd_26_0 hf54) rfl ?_
      refine WL.val u26 _ (op_load one_22 rfl (BoxAt.cell (St.boxAt hS58 2 rfl) rfl)) rfl ?_
      have hr61 := inR_len (St.rep (t := (Ty.sl (Ty.sl (Ty.sl (Ty.i .i64))))) hS58 1 rfl)
      refine WL.val (Value.int .i64 ((x41).length : Int)) _ (op_lenL sl_22 (St.rep (t := (Ty.sl (Ty.sl (Ty.sl (Ty.i .i64))))) hS58 1 rfl) rfl) rfl ?_
      refine WL.val (Value.int .i64 (0 : Int)) _ (op_move rfl) rfl ?_
      refine WL.nil ?_
      show W _ _ _ _ _ _
      obtain ⟨res62, hres63, hb46⟩ := bs hb46
      refine W.blockLoop (fun fq wq => ∃ s, res62 = Res.fin s ∧ fq 2 = (Value.pointer (some ⟨b1, 0, none⟩)) ∧ fq 3 = (Value.pointer (some ⟨b9, 0, none⟩)) ∧ fq 4 = (Value.pointer (some ⟨b18, 0, none⟩)) ∧ fq 5 = (Value.int .i64 ((s_Table).length : Int)) ∧ fq 6 = (Value.pointer (some ⟨b31, 0, none⟩)) ∧ fq 21 = (Value.int .i64 ((x24).length : Int)) ∧ fq 22 = (Value.int .i64 (k40 : Int)) ∧ St wd10 wq [bx b18 [(Value.slice none 0 0)], (Ty.sl (Ty.sl (Ty.sl (Ty.i .i64)))).at u26 s, bx b31 [u26]]) ?_ ?_
      · refine W.forN (fun k (s : (List (List (List Int)))) fq wq => fq 2 = (Value.pointer (some ⟨b1, 0, none⟩)) ∧ fq 3 = (Value.pointer (some ⟨b9, 0, none⟩)) ∧ fq 4 = (Value.pointer (some ⟨b18, 0, none⟩)) ∧ fq 5 = (Value.int .i64 ((s_Table).length : Int)) ∧ fq 6 = (Value.pointer (some ⟨b31, 0, none⟩)) ∧ fq 7 = (Value.int .i64 (k40 : Int)) ∧ fq 21 = (Value.int .i64 ((x24).length : Int)) ∧ fq 22 = (Value.int .i64 (k40 : Int)) ∧ fq 27 = (Value.int .i64 ((x41).length : Int)) ∧ fq 28 = Value.int .i64 (k : Int) ∧ InR .i64 (k : Int) ∧ St wd10 wq [bx b18 [(Value.slice none 0 0)], (Ty.sl (Ty.sl (Ty.sl (Ty.i .i64)))).at u26 s, bx b31 [u26]]) hres63 ⟨hf50, hf51, hf52, hf53, hf54, rfl, hf55, hf56, rfl, rfl, (inR_i64.2 (show (-9223372036854775808 : Int) ≤ 0 ∧ (0 : Int) ≤ 9223372036854775807 from by decide)), hS58⟩ ?_ ?_
        · intro k64 x65 ct66 f67 wd68 hk69 hb70 hI71 hbrk72 hret73
          replace hI71 : f67 2 = (Value.pointer (some ⟨b1, 0, none⟩)) ∧ f67 3 = (Value.pointer (some ⟨b9, 0, none⟩)) ∧ f67 4 = (Value.pointer (some ⟨b18, 0, none⟩)) ∧ f67 5 = (Value.int .i64 ((s_Table).length : Int)) ∧ f67 6 = (Value.pointer (some ⟨b31, 0, none⟩)) ∧ f67 7 = (Value.int .i64 (k40 : Int)) ∧ f67 21 = (Value.int .i64 ((x24).length : Int)) ∧ f67 22 = (Value.int .i64 (k40 : Int)) ∧ f67 27 = (Value.int .i64 ((x41).length : Int)) ∧ f67 28 = Value.int .i64 (k64 : Int) ∧ InR .i64 (k64 : Int) ∧ St wd10 wd68 [bx b18 [(Value.slice none 0 0)], (Ty.sl (Ty.sl (Ty.sl (Ty.i .i64)))).at u26 x65, bx b31 [u26]] := hI71
          replace hb70 : p_impl_productRing_L2 k40 s_Table r_Table k64 x65 = some ct66 := hb70
          unfold p_impl_productRing_L2 at hb70
          obtain ⟨hf74, hf75, hf76, hf77, hf78, hf79, hf80, hf81, hf82, hf83, hr84, hS85⟩ := hI71
          refine W.seq (W.region ?_)
          refine WL.val (Value.bool (decide ((k64 : Int) < ((x41).length : Int)))) _ (op_lss hf83 hf82) rfl ?_
          have hl86 : (k64 : Int) < ((x41).length : Int) := by omega
          refine WL.nil ?_
          show W _ _ _ _ _ _
          refine W.seq ?_
          refine W.condT (decide ((k64 : Int) < ((x41).length : Int))) rfl (decide_eq_true hl86) ?_
          refine W.skip ?_
          show W _ _ _ _ _ _
          refine W.seq ?_
          refine W.block ?_
          refine W.seq (W.region ?_)
          refine WL.val (Value.int .i64 (k64 : Int)) _ (op_move hf83) rfl ?_
          refine WL.val (Value.int .i64 (k64 : Int)) _ (op_assign rfl) rfl ?_
          refine WL.nil ?_
          show W _ _ _ _ _ _
          refine W.seq (W.region ?_)
          refine WL.val (Value.pointer (some ⟨b31, 0, none⟩)) _ (op_fieldAddr fd_26_0 hf78) rfl ?_
          refine WL.val u26 _ (op_load one_22 rfl (BoxAt.cell (St.boxAt hS85 2 rfl) rfl)) rfl ?_
          have hr88 := inR_len (St.rep (t := (Ty.sl (Ty.sl (Ty.sl (Ty.i .i64))))) hS85 1 rfl)
          refine WL.val (Value.int .i64 ((x65).length : Int)) _ (op_lenL sl_22 (St.rep (t := (Ty.sl (Ty.sl (Ty.sl (Ty.i .i64))))) hS85 1 rfl) rfl) rfl ?_
          refine WL.val (Value.int .i64 (0 : Int)) _ (op_move rfl) rfl ?_
          refine WL.nil ?_
          show W _ _ _ _ _ _
          obtain ⟨res89, hres90, hb70⟩ := bs hb70
          refine W.blockLoop (fun fq wq => ∃ s, res89 = Res.fin s ∧ fq 2 = (Value.pointer (some ⟨b1, 0, none⟩)) ∧ fq 3 = (Value.pointer (some ⟨b9, 0, none⟩)) ∧ fq 4 = (Value.pointer (some ⟨b18, 0, none⟩)) ∧ fq 5 = (Value.int .i64 ((s_Table).length : Int)) ∧ fq 6 = (Value.pointer (some ⟨b31, 0, none⟩)) ∧ fq 7 = (Value.int .i64 (k40 : Int)) ∧ fq 21 = (Value.int .i64 ((x24).length : Int)) ∧ fq 22 = (Value.int .i64 (k40 : Int)) ∧ fq 27 = (Value.int .i64 ((x41).length : Int)) ∧ fq 28 = (Value.int .i64 (k64 : Int)) ∧ St wd10 wq [bx b18 [(Value.slice none 0 0)], (Ty.sl (Ty.sl (Ty.sl (Ty.i .i64)))).at u26 s, bx b31 [u26]]) ?_ ?_
          · refine W.forN (fun k (s : (List (List (List Int)))) fq wq => fq 2 = (Value.pointer (some ⟨b1, 0, none⟩)) ∧ fq 3 = (Value.pointer (some ⟨b9, 0, none⟩)) ∧ fq 4 = (Value.pointer (some ⟨b18, 0, none⟩)) ∧ fq 5 = (Value.int .i64 ((s_Table).length : Int)) ∧ fq 6 = (Value.pointer (some ⟨b31, 0, none⟩)) ∧ fq 7 = (Value.int .i64 (k40 : Int)) ∧ fq 8 = (Value.int .i64 (k64 : Int)) ∧ fq 21 = (Value.int .i64 ((x24).length : Int)) ∧ fq 22 = (Value.int .i64 (k40 : Int)) ∧ fq 27 = (Value.int .i64 ((x41).length : Int)) ∧ fq 28 = (Value.int .i64 (k64 : Int)) ∧ fq 33 = (Value.int .i64 ((x65).length : Int)) ∧ fq 34 = Value.int .i64 (k : Int) ∧ InR .i64 (k : Int) ∧ St wd10 wq [bx b18 [(Value.slice none 0 0)], (Ty.sl (Ty.sl (Ty.sl (Ty.i .i64)))).at u26 s, bx b31 [u26]]) hres90 ⟨hf74, hf75, hf76, hf77, hf78, hf79, rfl, hf80, hf81, hf82, hf83, rfl, rfl, (inR_i64.2 (show (-9223372036854775808 : Int) ≤ 0 ∧ (0 : Int) ≤ 9223372036854775807 from by decide)), hS85⟩ ?_ ?_
            · intro k91 x92 ct93 f94 wd95 hk96 hb97 hI98 hbrk99 hret100
              replace hI98 : f94 2 = (Value.pointer (some ⟨b1, 0, none⟩)) ∧ f94 3 = (Value.pointer (some ⟨b9, 0, none⟩)) ∧ f94 4 = (Value.pointer (some ⟨b18, 0, none⟩)) ∧ f94 5 = (Value.int .i64 ((s_Table).length : Int)) ∧ f94 6 = (Value.pointer (some ⟨b31, 0, none⟩)) ∧ f94 7 = (Value.int .i64 (k40 : Int)) ∧ f94 8 = (Value.int .i64 (k64 : Int)) ∧ f94 21 = (Value.int .i64 ((x24).length : Int)) ∧ f94 22 = (Value.int .i64 (k40 : Int)) ∧ f94 27 = (Value.int .i64 ((x41).length : Int)) ∧ f94 28 = (Value.int .i64 (k64 : Int)) ∧ f94 33 = (Value.int .i64 ((x65).length : Int)) ∧ f94 34 = Value.int .i64 (k91 : Int) ∧ InR .i64 (k91 : Int) ∧ St wd10 wd95 [bx b18 [(Value.slice none 0 0)], (Ty.sl (Ty.sl (Ty.sl (Ty.i .i64)))).at u26 x92, bx b31 [u26]] := hI98
              replace hb97 : p_impl_productRing_L3 k40 k64 s_Table r_Table k91 x92 = some ct93 := hb97
              unfold p_impl_productRing_L3 at hb97
              obtain ⟨hf101, hf102, hf103, hf104, hf105, hf106, hf107, hf108, hf109, hf110, hf111, hf112, hf113, hr114, hS115⟩ := hI98
              refine W.seq (W.region ?_)
              refine WL.val (Value.bool (decide ((k91 : Int) < ((x65).length : Int)))) _ (op_lss hf113 hf112) rfl ?_
              have hl116 : (k91 : Int) < ((x65).length : Int) := by omega
              refine WL.nil ?_
              show W _ _ _ _ _ _
              refine W.seq ?_
              refine W.condT (decide ((k91 : Int) < ((x65).length : Int))) rfl (decide_eq_true hl116) ?_
              refine W.skip ?_
              show W _ _ _ _ _ _
              refine W.seq ?_
              refine W.block ?_
              refine W.seq (W.region ?_)
              refine WL.val (Value.int .i64 (k91 : Int)) _ (op_move hf113) rfl ?_
              refine WL.val (Value.int .i64 (k91 : Int)) _ (op_assign rfl) rfl ?_
              refine WL.nil ?_
              show W _ _ _ _ _ _
              obtain ⟨x157, hx160, hb97⟩ := bs hb97
              obtain ⟨ha158, hb159, hx160⟩ := idx_some hx160
              obtain ⟨u171, hc172, hr173⟩ := repSl.el (St.rep (t := (Ty.sl (Ty.sl (Ty.sl (Ty.i .i64))))) hS115 1 rfl) hx160
              obtain ⟨x196, hx199, hb97⟩ := bs hb97
              obtain ⟨ha197, hb198, hx199⟩ := idx_some hx199
              obtain ⟨u210, hc211, hr212⟩ := repSl.el hr173 hx199
              obtain ⟨x267, hz268, hb97⟩ := bs hb97
              obtain ⟨h0269, hz268⟩ := quoI_some hz268
              obtain ⟨x286, hx289, hb97⟩ := bs hb97
              obtain ⟨ha287, hb288, hx289⟩ := idx_some hx289
              obtain ⟨u300, hc301, hr302⟩ := repSl.el r_r_Table hx289
              obtain ⟨x333, hz334, hb97⟩ := bs hb97
              obtain ⟨h0335, hz334⟩ := quoI_some hz334
              obtain ⟨x352, hx355, hb97⟩ := bs hb97
              obtain ⟨ha353, hb354, hx355⟩ := idx_some hx355
              obtain ⟨u366, hc367, hr368⟩ := repSl.el hr302 hx355
              obtain ⟨x399, hz400, hb97⟩ := bs hb97
              obtain ⟨h0401, hz400⟩ := quoI_some hz400
              obtain ⟨x418, hx421, hb97⟩ := bs hb97
              obtain ⟨ha419, hb420, hx421⟩ := idx_some hx421
              obtain ⟨u432, hc433, hr434⟩ := repSl.el hr368 hx421
              obtain ⟨rfl, hr434⟩ := hr434
              obtain ⟨x482, hz483, hb97⟩ := bs hb97
              obtain ⟨h0484, hz483⟩ := remI_some hz483
              obtain ⟨x501, hx504, hb97⟩ := bs hb97
              obtain ⟨ha502, hb503, hx504⟩ := idx_some hx504
              obtain ⟨u515, hc516, hr517⟩ := repSl.el r_s_Table hx504
              obtain ⟨x548, hz549, hb97⟩ := bs hb97
              obtain ⟨h0550, hz549⟩ := remI_some hz549
              obtain ⟨x567, hx570, hb97⟩ := bs hb97
              obtain ⟨ha568, hb569, hx570⟩ := idx_some hx570
              obtain ⟨u581, hc582, hr583⟩ := repSl.el hr517 hx570
              obtain ⟨x614, hz615, hb97⟩ := bs hb97
              obtain ⟨h0616, hz615⟩ := remI_some hz615
              obtain ⟨x633, hx636, hb97⟩ := bs hb97
              obtain ⟨ha634, hb635, hx636⟩ := idx_some hx636
              obtain ⟨u647, hc648, hr649⟩ := repSl.el hr583 hx636
              obtain ⟨rfl, hr649⟩ := hr649
              refine W.drawR mixo 44 [] [fun _ v _ _ => v = (Value.pointer (some ⟨b31, 0, none⟩)), fun _ v _ _ => v = u26, fun _ v _ _ => v = (Value.int .i64 (k40 : Int)) ∧ InR .i64 (k40 : Int), fun _ v _ _ => v = (Value.pointer (some (elA u26 ((k40 : Int)).toNat))), fun _ v _ _ => v = u171, fun _ v _ _ => v = (Value.int .i64 (k64 : Int)) ∧ InR .i64 (k64 : Int), fun _ v _ _ => v = (Value.pointer (some (elA u171 ((k64 : Int)).toNat))), fun _ v _ _ => v = u210, fun _ v _ _ => v = (Value.int .i64 (k91 : Int)) ∧ InR .i64 (k91 : Int), fun _ v _ _ => v = (Value.pointer (some ⟨b1, 0, none⟩)), fun _ v _ _ => v = v_r_Table, fun _ v _ _ => v = (Value.int .i64 (k40 : Int)) ∧ InR .i64 (k40 : Int), fun _ v _ _ => v = (Value.int .i64 ((s_Table).length : Int)) ∧ InR .i64 ((s_Table).length : Int), fun _ v _ _ => v = (Value.int .i64 x267) ∧ InR .i64 x267, fun _ v _ _ => v = (Value.pointer (some (elA v_r_Table (x267).toNat))), fun _ v _ _ => v = u300, fun _ v _ _ => v = (Value.int .i64 (k64 : Int)) ∧ InR .i64 (k64 : Int), fun _ v _ _ => v = (Value.int .i64 ((s_Table).length : Int)) ∧ InR .i64 ((s_Table).length : Int), fun _ v _ _ => v = (Value.int .i64 x333) ∧ InR .i64 x333, fun _ v _ _ => v = (Value.pointer (some (elA u300 (x333).toNat))), fun _ v _ _ => v = u366, fun _ v _ _ => v = (Value.int .i64 (k91 : Int)) ∧ InR .i64 (k91 : Int), fun _ v _ _ => v = (Value.int .i64 ((s_Table).length : Int)) ∧ InR .i64 ((s_Table).length : Int), fun _ v _ _ => v = (Value.int .i64 x399) ∧ InR .i64 x399, fun _ v _ _ => v = (Value.pointer (some (elA u366 (x399).toNat))), fun _ v _ _ => v = (Value.int .i64 x418) ∧ InR .i64 x418, fun _ v _ _ => v = (Value.pointer (some ⟨b9, 0, none⟩)), fun _ v _ _ => v = v_s_Table, fun _ v _ _ => v = (Value.int .i64 (k40 : Int)) ∧ InR .i64 (k40 : Int), fun _ v _ _ => v = (Value.int .i64 ((s_Table).length : Int)) ∧ InR .i64 ((s_Table).length : Int), fun _ v _ _ => v = (Value.int .i64 x482) ∧ InR .i64 x482, fun _ v _ _ => v = (Value.pointer (some (elA v_s_Table (x482).toNat))), fun _ v _ _ => v = u515, fun _ v _ _ => v = (Value.int .i64 (k64 : Int)) ∧ InR .i64 (k64 : Int), fun _ v _ _ => v = (Value.int .i64 ((s_Table).length : Int)) ∧ InR .i64 ((s_Table).length : Int), fun _ v _ _ => v = (Value.int .i64 x548) ∧ InR .i64 x548, fun _ v _ _ => v = (Value.pointer (some (elA u515 (x548).toNat))), fun _ v _ _ => v = u581, fun _ v _ _ => v = (Value.int .i64 (k91 : Int)) ∧ InR .i64 (k91 : Int), fun _ v _ _ => v = (Value.int .i64 ((s_Table).length : Int)) ∧ InR .i64 ((s_Table).length : Int), fun _ v _ _ => v = (Value.int .i64 x614) ∧ InR .i64 x614, fun _ v _ _ => v = (Value.pointer (some (elA u581 (x614).toNat))), fun _ v _ _ => v = (Value.int .i64 x633) ∧ InR .i64 x633, fun _ v _ _ => v = (Value.int .i64 (w64 (x418 * x633))) ∧ InR .i64 (w64 (x418 * x633))] (by kernel_rfl) (by kernel_rfl) ⟨⟨fun _ _ _ _ _ _ h => h, fun _ _ _ _ _ _ h => h⟩, ⟨fun _ _ _ _ _ _ h => h, fun _ _ _ _ _ _ h => h⟩, ⟨fun _ _ _ _ _ _ h => h, fun _ _ _ _ _ _ h => h⟩, ⟨fun _ _ _ _ _ _ h => h, fun _ _ _ _ _ _ h => h⟩, ⟨fun _ _ _ _ _ _ h => h, fun _ _ _ _ _ _ h => h⟩, ⟨fun _ _ _ _ _ _ h => h, fun _ _ _ _ _ _ h => h⟩, ⟨fun _ _ _ _ _ _ h => h, fun _ _ _ _ _ _ h => h⟩, ⟨fun _ _ _ _ _ _ h => h, fun _ _ _ _ _ _ h => h⟩, ⟨fun _ _ _ _ _ _ h => h, fun _ _ _ _ _ _ h => h⟩, ⟨fun _ _ _ _ _ _ h => h, fun _ _ _ _ _ _ h => h⟩, ⟨fun _ _ _ _ _ _ h => h, fun _ _ _ _ _ _ h => h⟩, ⟨fun _ _ _ _ _ _ h => h, fun _ _ _ _ _ _ h => h⟩, ⟨fun _ _ _ _ _ _ h => h, fun _ _ _ _ _ _ h => h⟩, ⟨fun _ _ _ _ _ _ h => h, fun _ _ _ _ _ _ h => h⟩, ⟨fun _ _ _ _ _ _ h => h, fun _ _ _ _ _ _ h => h⟩, ⟨fun _ _ _ _ _ _ h => h, fun _ _ _ _ _ _ h => h⟩, ⟨fun _ _ _ _ _ _ h => h, fun _ _ _ _ _ _ h => h⟩, ⟨fun _ _ _ _ _ _ h => h, fun _ _ _ _ _ _ h => h⟩, ⟨fun _ _ _ _ _ _ h => h, fun _ _ _ _ _ _ h => h⟩, ⟨fun _ _ _ _ _ _ h => h, fun _ _ _ _ _ _ h => h⟩, ⟨fun _ _ _ _ _ _ h => h, fun _ _ _ _ _ _ h => h⟩, ⟨fun _ _ _ _ _ _ h => h, fun _ _ _ _ _ _ h => h⟩, ⟨fun _ _ _ _ _ _ h => h, fun _ _ _ _ _ _ h => h⟩, ⟨fun _ _ _ _ _ _ h => h, fun _ _ _ _ _ _ h => h⟩, ⟨fun _ _ _ _ _ _ h => h, fun _ _ _ _ _ _ h => h⟩, ⟨fun _ _ _ _ _ _ h => h, fun _ _ _ _ _ _ h => h⟩, ⟨fun _ _ _ _ _ _ h => h, fun _ _ _ _ _ _ h => h⟩, ⟨fun _ _ _ _ _ _ h => h, fun _ _ _ _ _ _ h => h⟩, ⟨fun _ _ _ _ _ _ h => h, fun _ _ _ _ _ _ h => h⟩, ⟨fun _ _ _ _ _ _ h => h, fun _ _ _ _ _ _ h => h⟩, ⟨fun _ _ _ _ _ _ h => h, fun _ _ _ _ _ _ h => h⟩, ⟨fun _ _ _ _ _ _ h => h, fun _ _ _ _ _ _ h => h⟩, ⟨fun _ _ _ _ _ _ h => h, fun _ _ _ _ _ _ h => h⟩, ⟨fun _ _ _ _ _ _ h => h, fun _ _ _ _ _ _ h => h⟩, ⟨fun _ _ _ _ _ _ h => h, fun _ _ _ _ _ _ h => h⟩, ⟨fun _ _ _ _ _ _ h => h, fun _ _ _ _ _ _ h => h⟩, ⟨fun _ _ _ _ _ _ h => h, fun _ _ _ _ _ _ h => h⟩, ⟨fun _ _ _ _ _ _ h => h, fun _ _ _ _ _ _ h => h⟩, ⟨fun _ _ _ _ _ _ h => h, fun _ _ _ _ _ _ h => h⟩, ⟨fun _ _ _ _ _ _ h => h, fun _ _ _ _ _ _ h => h⟩, ⟨fun _ _ _ _ _ _ h => h, fun _ _ _ _ _ _ h => h⟩, ⟨fun _ _ _ _ _ _ h => h, fun _ _ _ _ _ _ h => h⟩, ⟨fun _ _ _ _ _ _ h => h, fun _ _ _ _ _ _ h => h⟩, ⟨fun _ _ _ _ _ _ h => h, fun _ _ _ _ _ _ h => h⟩, trivial⟩ ⟨?_, ?_, ?_, ?_, ?_, ?_, ?_, ?_, ?_, ?_, ?_, ?_, ?_, ?_, ?_, ?_, ?_, ?_, ?_, ?_, ?_, ?_, ?_, ?_, ?_, ?_, ?_, ?_, ?_, ?_, ?_, ?_, ?_, ?_, ?_, ?_, ?_, ?_, ?_, ?_, ?_, ?_, ?_, ?_, trivial⟩ ?_
              · refine ObX.op rfl ?_
                intro f118 wd119 he120 hout121 hphi122
                have hS123 : St wd10 wd119 [bx b18 [(Value.slice none 0 0)], (Ty.sl (Ty.sl (Ty.sl (Ty.i .i64)))).at u26 x92, bx b31 [u26]] := St.extend hS115 he120
                have e124 : f118 6 = (Value.pointer (some ⟨b31, 0, none⟩)) := (hout121 6 rfl).trans hf105
                exact OpX.val (Value.pointer (some ⟨b31, 0, none⟩)) wd119 rfl (op_fieldAddr fd_26_0 e124) (Ext.refl _) rfl
              · refine ObX.op rfl ?_
                intro f125 wd126 he127 hout128 hphi129
                have hS130 : St wd10 wd126 [bx b18 [(Value.slice none 0 0)], (Ty.sl (Ty.sl (Ty.sl (Ty.i .i64)))).at u26 x92, bx b31 [u26]] := St.extend hS115 he127
                obtain ⟨S131, hS132, hf133⟩ := hphi129 0 37 _ rfl rfl rfl
                have e134 : f125 37 = (Value.pointer (some ⟨b31, 0, none⟩)) := hf133
                exact OpX.val u26 wd126 rfl (op_load one_22 e134 (BoxAt.cell (St.boxAt hS130 2 rfl) rfl)) (Ext.refl _) rfl
              · refine ObX.op rfl ?_
                intro f135 wd136 he137 hout138 hphi139
                have hS140 : St wd10 wd136 [bx b18 [(Value.slice none 0 0)], (Ty.sl (Ty.sl (Ty.sl (Ty.i .i64)))).at u26 x92, bx b31 [u26]] := St.extend hS115 he137
                have e141 : f135 7 = (Value.int .i64 (k40 : Int)) := (hout138 7 rfl).trans hf106
                exact OpX.val (Value.int .i64 (k40 : Int)) wd136 rfl (op_move e141) (Ext.refl _) ⟨rfl, hr57⟩
              · refine ObX.op rfl ?_
                intro f142 wd143 he144 hout145 hphi146
                have hS147 : St wd10 wd143 [bx b18 [(Value.slice none 0 0)], (Ty.sl (Ty.sl (Ty.sl (Ty.i .i64)))).at u26 x92, bx b31 [u26]] := St.extend hS115 he144
                obtain ⟨S148, hS149, hf150⟩ := hphi146 1 38 _ rfl rfl rfl
                have e151 : f142 38 = u26 := hf150
                obtain ⟨S152, hS153, hf154⟩ := hphi146 2 39 _ rfl rfl rfl
                obtain ⟨e155, hr156⟩ : f142 39 = (Value.int .i64 (k40 : Int)) ∧ InR .i64 (k40 : Int) := hf154
                exact OpX.val (Value.pointer (some (elA u26 ((k40 : Int)).toNat))) wd143 rfl (op_idx sl_22 (St.rep (t := (Ty.sl (Ty.sl (Ty.sl (Ty.i .i64))))) hS147 1 rfl) e151 e155 ha158 hb159) (Ext.refl _) rfl
              · refine ObX.op rfl ?_
                intro f161 wd162 he163 hout164 hphi165
                have hS166 : St wd10 wd162 [bx b18 [(Value.slice none 0 0)], (Ty.sl (Ty.sl (Ty.sl (Ty.i .i64)))).at u26 x92, bx b31 [u26]] := St.extend hS115 he163
                obtain ⟨S167, hS168, hf169⟩ := hphi165 3 40 _ rfl rfl rfl
                have e170 : f161 40 = (Value.pointer (some (elA u26 ((k40 : Int)).toNat))) := hf169
                exact OpX.val u171 wd162 rfl (op_load one_57 e170 (Ext.cell he163 hc172)) (Ext.refl _) rfl
              · refine ObX.op rfl ?_
                intro f174 wd175 he176 hout177 hphi178
                have hS179 : St wd10 wd175 [bx b18 [(Value.slice none 0 0)], (Ty.sl (Ty.sl (Ty.sl (Ty.i .i64)))).at u26 x92, bx b31 [u26]] := St.extend hS115 he176
                have e180 : f174 8 = (Value.int .i64 (k64 : Int)) := (hout177 8 rfl).trans hf107
                exact OpX.val (Value.int .i64 (k64 : Int)) wd175 rfl (op_move e180) (Ext.refl _) ⟨rfl, hr84⟩
              · refine ObX.op rfl ?_
                intro f181 wd182 he183 hout184 hphi185
                have hS186 : St wd10 wd182 [bx b18 [(Value.slice none 0 0)], (Ty.sl (Ty.sl (Ty.sl (Ty.i .i64)))).at u26 x92, bx b31 [u26]] := St.extend hS115 he183
                obtain ⟨S187, hS188, hf189⟩ := hphi185 4 41 _ rfl rfl rfl
                have e190 : f181 41 = u171 := hf189
                obtain ⟨S191, hS192, hf193⟩ := hphi185 5 42 _ rfl rfl rfl
                obtain ⟨e194, hr195⟩ : f181 42 = (Value.int .i64 (k64 : Int)) ∧ InR .i64 (k64 : Int) := hf193
                exact OpX.val (Value.pointer (some (elA u171 ((k64 : Int)).toNat))) wd182 rfl (op_idx sl_57 (Ty.lift _ he183 hr173) e190 e194 ha197 hb198) (Ext.refl _) rfl
              · refine ObX.op rfl ?_
                intro f200 wd201 he202 hout203 hphi204
                have hS205 : St wd10 wd201 [bx b18 [(Value.slice none 0 0)], (Ty.sl (Ty.sl (Ty.sl (Ty.i .i64)))).at u26 x92, bx b31 [u26]] := St.extend hS115 he202
                obtain ⟨S206, hS207, hf208⟩ := hphi204 6 43 _ rfl rfl rfl
                have e209 : f200 43 = (Value.pointer (some (elA u171 ((k64 : Int)).toNat))) := hf208
                exact OpX.val u210 wd201 rfl (op_load one_35 e209 (Ext.cell he202 hc211)) (Ext.refl _) rfl
              · refine ObX.op rfl ?_
                intro f213 wd214 he215 hout216 hphi217
                have hS218 : St wd10 wd214 [bx b18 [(Value.slice none 0 0)], (Ty.sl (Ty.sl (Ty.sl (Ty.i .i64)))).at u26 x92, bx b31 [u26]] := St.extend hS115 he215
                have e219 : f213 9 = (Value.int .i64 (k91 : Int)) := (hout216 9 rfl).trans rfl
                exact OpX.val (Value.int .i64 (k91 : Int)) wd214 rfl (op_move e219) (Ext.refl _) ⟨rfl, hr114⟩
              · refine ObX.op rfl ?_
                intro f220 wd221 he222 hout223 hphi224
                have hS225 : St wd10 wd221 [bx b18 [(Value.slice none 0 0)], (Ty.sl (Ty.sl (Ty.sl (Ty.i .i64)))).at u26 x92, bx b31 [u26]] := St.extend hS115 he222
                have e226 : f220 2 = (Value.pointer (some ⟨b1, 0, none⟩)) := (hout223 2 rfl).trans hf101
                exact OpX.val (Value.pointer (some ⟨b1, 0, none⟩)) wd221 rfl (op_fieldAddr fd_26_0 e226) (Ext.refl _) rfl
              · refine ObX.op rfl ?_
                intro f227 wd228 he229 hout230 hphi231
                have hS232 : St wd10 wd228 [bx b18 [(Value.slice none 0 0)], (Ty.sl (Ty.sl (Ty.sl (Ty.i .i64)))).at u26 x92, bx b31 [u26]] := St.extend hS115 he229
                obtain ⟨S233, hS234, hf235⟩ := hphi231 9 46 _ rfl rfl rfl
                have e236 : f227 46 = (Value.pointer (some ⟨b1, 0, none⟩)) := hf235
                exact OpX.val v_r_Table wd228 rfl (op_load one_22 e236 (BoxAt.cell (BoxAt.lift (Ext.trans hE16 hS232.ext) hx6) rfl)) (Ext.refl _) rfl
              · refine ObX.op rfl ?_
                intro f237 wd238 he239 hout240 hphi241
                have hS242 : St wd10 wd238 [bx b18 [(Value.slice none 0 0)], (Ty.sl (Ty.sl (Ty.sl (Ty.i .i64)))).at u26 x92, bx b31 [u26]] := St.extend hS115 he239
                have e243 : f237 7 = (Value.int .i64 (k40 : Int)) := (hout240 7 rfl).trans hf106
                exact OpX.val (Value.int .i64 (k40 : Int)) wd238 rfl (op_move e243) (Ext.refl _) ⟨rfl, hr57⟩
              · refine ObX.op rfl ?_
                intro f244 wd245 he246 hout247 hphi248
                have hS249 : St wd10 wd245 [bx b18 [(Value.slice none 0 0)], (Ty.sl (Ty.sl (Ty.sl (Ty.i .i64)))).at u26 x92, bx b31 [u26]] := St.extend hS115 he246
                have e250 : f244 5 = (Value.int .i64 ((s_Table).length : Int)) := (hout247 5 rfl).trans hf104
                exact OpX.val (Value.int .i64 ((s_Table).length : Int)) wd245 rfl (op_move e250) (Ext.refl _) ⟨rfl, hr22⟩
              · refine ObX.op rfl ?_
                intro f251 wd252 he253 hout254 hphi255
                have hS256 : St wd10 wd252 [bx b18 [(Value.slice none 0 0)], (Ty.sl (Ty.sl (Ty.sl (Ty.i .i64)))).at u26 x92, bx b31 [u26]] := St.extend hS115 he253
                obtain ⟨S257, hS258, hf259⟩ := hphi255 11 48 _ rfl rfl rfl
                obtain ⟨e260, hr261⟩ : f251 48 = (Value.int .i64 (k40 : Int)) ∧ InR .i64 (k40 : Int) := hf259
                obtain ⟨S262, hS263, hf264⟩ := hphi255 12 49 _ rfl rfl rfl
                obtain ⟨e265, hr266⟩ : f251 49 = (Value.int .i64 ((s_Table).length : Int)) ∧ InR .i64 ((s_Table).length : Int) := hf264
                have hr270 : InR .i64 x267 := by rw [hz268]; exact inR_wrap _ _
                exact OpX.val (Value.int .i64 x267) wd252 rfl (by rw [hz268]; exact op_quo e260 e265 h0269) (Ext.refl _) ⟨rfl, hr270⟩
              · refine ObX.op rfl ?_
                intro f271 wd272 he273 hout274 hphi275
                have hS276 : St wd10 wd272 [bx b18 [(Value.slice none 0 0)], (Ty.sl (Ty.sl (Ty.sl (Ty.i .i64)))).at u26 x92, bx b31 [u26]] := St.extend hS115 he273
                obtain ⟨S277, hS278, hf279⟩ := hphi275 10 47 _ rfl rfl rfl
                have e280 : f271 47 = v_r_Table := hf279
                obtain ⟨S281, hS282, hf283⟩ := hphi275 13 50 _ rfl rfl rfl
                obtain ⟨e284, hr285⟩ : f271 50 = (Value.int .i64 x267) ∧ InR .i64 x267 := hf283
                exact OpX.val (Value.pointer (some (elA v_r_Table (x267).toNat))) wd272 rfl (op_idx sl_22 (Ty.lift _ (Ext.trans hE15 hS276.ext) r_r_Table) e280 e284 ha287 hb288) (Ext.refl _) rfl
              · refine ObX.op rfl ?_
                intro f290 wd291 he292 hout293 hphi294
                have hS295 : St wd10 wd291 [bx b18 [(Value.slice none 0 0)], (Ty.sl (Ty.sl (Ty.sl (Ty.i .i64)))).at u26 x92, bx b31 [u26]] := St.extend hS115 he292
                obtain ⟨S296, hS297, hf298⟩ := hphi294 14 51 _ rfl rfl rfl
                have e299 : f290 51 = (Value.pointer (some (elA v_r_Table (x267).toNat))) := hf298
                exact OpX.val u300 wd291 rfl (op_load one_57 e299 (Ext.cell (Ext.trans hE15 hS295.ext) hc301)) (Ext.refl _) rfl
              · refine ObX.op rfl ?_
                intro f303 wd304 he305 hout306 hphi307
                have hS308 : St wd10 wd304 [bx b18 [(Value.slice none 0 0)], (Ty.sl (Ty.sl (Ty.sl (Ty.i .i64)))).at u26 x92, bx b31 [u26]] := St.extend hS115 he305
                have e309 : f303 8 = (Value.int .i64 (k64 : Int)) := (hout306 8 rfl).trans hf107
                exact OpX.val (Value.int .i64 (k64 : Int)) wd304 rfl (op_move e309) (Ext.refl _) ⟨rfl, hr84⟩
              · refine ObX.op rfl ?_
                intro f310 wd311 he312 hout313 hphi314
                have hS315 : St wd10 wd311 [bx b18 [(Value.slice none 0 0)], (Ty.sl (Ty.sl (Ty.sl (Ty.i .i64)))).at u26 x92, bx b31 [u26]] := St.extend hS115 he312
                have e316 : f310 5 = (Value.int .i64 ((s_Table).length : Int)) := (hout313 5 rfl).trans hf104
                exact OpX.val (Value.int .i64 ((s_Table).length : Int)) wd311 rfl (op_move e316) (Ext.refl _) ⟨rfl, hr22⟩
              · refine ObX.op rfl ?_
                intro f317 wd318 he319 hout320 hphi321
                have hS322 : St wd10 wd318 [bx b18 [(Value.slice none 0 0)], (Ty.sl (Ty.sl (Ty.sl (Ty.i .i64)))).at u26 x92, bx b31 [u26]] := St.extend hS115 he319
                obtain ⟨S323, hS324, hf325⟩ := hphi321 16 53 _ rfl rfl rfl
                obtain ⟨e326, hr327⟩ : f317 53 = (Value.int .i64 (k64 : Int)) ∧ InR .i64 (k64 : Int) := hf325
                obtain ⟨S328, hS329, hf330⟩ := hphi321 17 54 _ rfl rfl rfl
                obtain ⟨e331, hr332⟩ : f317 54 = (Value.int .i64 ((s_Table).length : Int)) ∧ InR .i64 ((s_Table).length : Int) := hf330
                have hr336 : InR .i64 x333 := by rw [hz334]; exact inR_wrap _ _
                exact OpX.val (Value.int .i64 x333) wd318 rfl (by rw [hz334]; exact op_quo e326 e331 h0335) (Ext.refl _) ⟨rfl, hr336⟩
              · refine ObX.op rfl ?_
                intro f337 wd338 he339 hout340 hphi341
                have hS342 : St wd10 wd338 [bx b18 [(Value.slice none 0 0)], (Ty.sl (Ty.sl (Ty.sl (Ty.i .i64)))).at u26 x92, bx b31 [u26]] := St.extend hS115 he339
                obtain ⟨S343, hS344, hf345⟩ := hphi341 15 52 _ rfl rfl rfl
                have e346 : f337 52 = u300 := hf345
                obtain ⟨S347, hS348, hf349⟩ := hphi341 18 55 _ rfl rfl rfl
                obtain ⟨e350, hr351⟩ : f337 55 = (Value.int .i64 x333) ∧ InR .i64 x333 := hf349
                exact OpX.val (Value.pointer (some (elA u300 (x333).toNat))) wd338 rfl (op_idx sl_57 (Ty.lift _ (Ext.trans hE15 hS342.ext) hr302) e346 e350 ha353 hb354) (Ext.refl _) rfl
              · refine ObX.op rfl ?_
                intro f356 wd357 he358 hout359 hphi360
                have hS361 : St wd10 wd357 [bx b18 [(Value.slice none 0 0)], (Ty.sl (Ty.sl (Ty.sl (Ty.i .i64)))).at u26 x92, bx b31 [u26]] := St.extend hS115 he358
                obtain ⟨S362, hS363, hf364⟩ := hphi360 19 56 _ rfl rfl rfl
                have e365 : f356 56 = (Value.pointer (some (elA u300 (x333).toNat))) := hf364
                exact OpX.val u366 wd357 rfl (op_load one_35 e365 (Ext.cell (Ext.trans hE15 hS361.ext) hc367)) (Ext.refl _) rfl
              · refine ObX.op rfl ?_
                intro f369 wd370 he371 hout372 hphi373
                have hS374 : St wd10 wd370 [bx b18 [(Value.slice none 0 0)], (Ty.sl (Ty.sl (Ty.sl (Ty.i .i64)))).at u26 x92, bx b31 [u26]] := St.extend hS115 he371
                have e375 : f369 9 = (Value.int .i64 (k91 : Int)) := (hout372 9 rfl).trans rfl
                exact OpX.val (Value.int .i64 (k91 : Int)) wd370 rfl (op_move e375) (Ext.refl _) ⟨rfl, hr114⟩
              · refine ObX.op rfl ?_
                intro f376 wd377 he378 hout379 hphi380
                have hS381 : St wd10 wd377 [bx b18 [(Value.slice none 0 0)], (Ty.sl (Ty.sl (Ty.sl (Ty.i .i64)))).at u26 x92, bx b31 [u26]] := St.extend hS115 he378
                have e382 : f376 5 = (Value.int .i64 ((s_Table).length : Int)) := (hout379 5 rfl).trans hf104
                exact OpX.val (Value.int .i64 ((s_Table).length : Int)) wd377 rfl (op_move e382) (Ext.refl _) ⟨rfl, hr22⟩
              · refine ObX.op rfl ?_
                intro f383 wd384 he385 hout386 hphi387
                have hS388 : St wd10 wd384 [bx b18 [(Value.slice none 0 0)], (Ty.sl (Ty.sl (Ty.sl (Ty.i .i64)))).at u26 x92, bx b31 [u26]] := St.extend hS115 he385
                obtain ⟨S389, hS390, hf391⟩ := hphi387 21 58 _ rfl rfl rfl
                obtain ⟨e392, hr393⟩ : f383 58 = (Value.int .i64 (k91 : Int)) ∧ InR .i64 (k91 : Int) := hf391
                obtain ⟨S394, hS395, hf396⟩ := hphi387 22 59 _ rfl rfl rfl
                obtain ⟨e397, hr398⟩ : f383 59 = (Value.int .i64 ((s_Table).length : Int)) ∧ InR .i64 ((s_Table).length : Int) := hf396
                have hr402 : InR .i64 x399 := by rw [hz400]; exact inR_wrap _ _
                exact OpX.val (Value.int .i64 x399) wd384 rfl (by rw [hz400]; exact op_quo e392 e397 h0401) (Ext.refl _) ⟨rfl, hr402⟩
              · refine ObX.op rfl ?_
                intro f403 wd404 he405 hout406 hphi407
                have hS408 : St wd10 wd404 [bx b18 [(Value.slice none 0 0)], (Ty.sl (Ty.sl (Ty.sl (Ty.i .i64)))).at u26 x92, bx b31 [u26]] := St.extend hS115 he405
                obtain ⟨S409, hS410, hf411⟩ := hphi407 20 57 _ rfl rfl rfl
                have e412 : f403 57 = u366 := hf411
                obtain ⟨S413, hS414, hf415⟩ := hphi407 23 60 _ rfl rfl rfl
                obtain ⟨e416, hr417⟩ : f403 60 = (Value.int .i64 x399) ∧ InR .i64 x399 := hf415
                exact OpX.val (Value.pointer (some (elA u366 (x399).toNat))) wd404 rfl (op_idx sl_35 (Ty.lift _ (Ext.trans hE15 hS408.ext) hr368) e412 e416 ha419 hb420) (Ext.refl _) rfl
              · refine ObX.op rfl ?_
                intro f422 wd423 he424 hout425 hphi426
                have hS427 : St wd10 wd423 [bx b18 [(Value.slice none 0 0)], (Ty.sl (Ty.sl (Ty.sl (Ty.i .i64)))).at u26 x92, bx b31 [u26]] := St.extend hS115 he424
                obtain ⟨S428, hS429, hf430⟩ := hphi426 24 61 _ rfl rfl rfl
                have e431 : f422 61 = (Value.pointer (some (elA u366 (x399).toNat))) := hf430
                exact OpX.val (Value.int .i64 x418) wd423 rfl (op_load one_2 e431 (Ext.cell (Ext.trans hE15 hS427.ext) hc433)) (Ext.refl _) ⟨rfl, hr434⟩
              · refine ObX.op rfl ?_
                intro f435 wd436 he437 hout438 hphi439
                have hS440 : St wd10 wd436 [bx b18 [(Value.slice none 0 0)], (Ty.sl (Ty.sl (Ty.sl (Ty.i .i64)))).at u26 x92, bx b31 [u26]] := St.extend hS115 he437
                have e441 : f435 3 = (Value.pointer (some ⟨b9, 0, none⟩)) := (hout438 3 rfl).trans hf102
                exact OpX.val (Value.pointer (some ⟨b9, 0, none⟩)) wd436 rfl (op_fieldAddr fd_26_0 e441) (Ext.refl _) rfl
              · refine ObX.op rfl ?_
                intro f442 wd443 he444 hout445 hphi446
                have hS447 : St wd10 wd443 [bx b18 [(Value.slice none 0 0)], (Ty.sl (Ty.sl (Ty.sl (Ty.i .i64)))).at u26 x92, bx b31 [u26]] := St.extend hS115 he444
                obtain ⟨S448, hS449, hf450⟩ := hphi446 26 63 _ rfl rfl rfl
                have e451 : f442 63 = (Value.pointer (some ⟨b9, 0, none⟩)) := hf450
                exact OpX.val v_s_Table wd443 rfl (op_load one_22 e451 (BoxAt.cell (BoxAt.lift hS447.ext hx14) rfl)) (Ext.refl _) rfl
              · refine ObX.op rfl ?_
                intro f452 wd453 he454 hout455 hphi456
                have hS457 : St wd10 wd453 [bx b18 [(Value.slice none 0 0)], (Ty.sl (Ty.sl (Ty.sl (Ty.i .i64)))).at u26 x92, bx b31 [u26]] := St.extend hS115 he454
                have e458 : f452 7 = (Value.int .i64 (k40 : Int)) := (hout455 7 rfl).trans hf106
                exact OpX.val (Value.int .i64 (k40 : Int)) wd453 rfl (op_move e458) (Ext.refl _) ⟨rfl, hr57⟩
              · refine ObX.op rfl ?_
                intro f459 wd460 he461 hout462 hphi463
                have hS464 : St wd10 wd460 [bx b18 [(Value.slice none 0 0)], (Ty.sl (Ty.sl (Ty.sl (Ty.i .i64)))).at u26 x92, bx b31 [u26]] := St.extend hS115 he461
                have e465 : f459 5 = (Value.int .i64 ((s_Table).length : Int)) := (hout462 5 rfl).trans hf104
                exact OpX.val (Value.int .i64 ((s_Table).length : Int)) wd460 rfl (op_move e465) (Ext.refl _) ⟨rfl, hr22⟩
              · refine ObX.op rfl ?_
                intro f466 wd467 he468 hout469 hphi470
                have hS471 : St wd10 wd467 [bx b18 [(Value.slice none 0 0)], (Ty.sl (Ty.sl (Ty.sl (Ty.i .i64)))).at u26 x92, bx b31 [u26]] := St.extend hS115 he468
                obtain ⟨S472, hS473, hf474⟩ := hphi470 28 65 _ rfl rfl rfl
                obtain ⟨e475, hr476⟩ : f466 65 = (Value.int .i64 (k40 : Int)) ∧ InR .i64 (k40 : Int) := hf474
                obtain ⟨S477, hS478, hf479⟩ := hphi470 29 66 _ rfl rfl rfl
                obtain ⟨e480, hr481⟩ : f466 66 = (Value.int .i64 ((s_Table).length : Int)) ∧ InR .i64 ((s_Table).length : Int) := hf479
                have hr485 : InR .i64 x482 := by rw [hz483]; exact inR_tmod hr476
                exact OpX.val (Value.int .i64 x482) wd467 rfl (by rw [hz483]; exact op_rem e475 e480 h0484) (Ext.refl _) ⟨rfl, hr485⟩
              · refine ObX.op rfl ?_
                intro f486 wd487 he488 hout489 hphi490
                have hS491 : St wd10 wd487 [bx b18 [(Value.slice none 0 0)], (Ty.sl (Ty.sl (Ty.sl (Ty.i .i64)))).at u26 x92, bx b31 [u26]] := St.extend hS115 he488
                obtain ⟨S492, hS493, hf494⟩ := hphi490 27 64 _ rfl rfl rfl
                have e495 : f486 64 = v_s_Table := hf494
                obtain ⟨S496, hS497, hf498⟩ := hphi490 30 67 _ rfl rfl rfl
                obtain ⟨e499, hr500⟩ : f486 67 = (Value.int .i64 x482) ∧ InR .i64 x482 := hf498
                exact OpX.val (Value.pointer (some (elA v_s_Table (x482).toNat))) wd487 rfl (op_idx sl_22 (Ty.lift _ (Ext.trans hE15 hS491.ext) r_s_Table) e495 e499 ha502 hb503) (Ext.refl _) rfl
              · refine ObX.op rfl ?_
                intro f505 wd506 he507 hout508 hphi509
                have hS510 : St wd10 wd506 [bx b18 [(Value.slice none 0 0)], (Ty.sl (Ty.sl (Ty.sl (Ty.i .i64)))).at u26 x92, bx b31 [u26]] := St.extend hS115 he507
                obtain ⟨S511, hS512, hf513⟩ := hphi509 31 68 _ rfl rfl rfl
                have e514 : f505 68 = (Value.pointer (some (elA v_s_Table (x482).toNat))) := hf513
                exact OpX.val u515 wd506 rfl (op_load one_57 e514 (Ext.cell (Ext.trans hE15 hS510.ext) hc516)) (Ext.refl _) rfl
              · refine ObX.op rfl ?_
                intro f518 wd519 he520 hout521 hphi522
                have hS523 : St wd10 wd519 [bx b18 [(Value.slice none 0 0)], (Ty.sl (Ty.sl (Ty.sl (Ty.i .i64)))).at u26 x92, bx b31 [u26]] := St.extend hS115 he520
                have e524 : f518 8 = (Value.int .i64 (k64 : Int)) := (hout521 8 rfl).trans hf107
                exact OpX.val (Value.int .i64 (k64 : Int)) wd519 rfl (op_move e524) (Ext.refl _) ⟨rfl, hr84⟩
              · refine ObX.op rfl ?_
                intro f525 wd526 he527 hout528 hphi529
                have hS530 : St wd10 wd526 [bx b18 [(Value.slice none 0 0)], (Ty.sl (Ty.sl (Ty.sl (Ty.i .i64)))).at u26 x92, bx b31 [u26]] := St.extend hS115 he527
                have e531 : f525 5 = (Value.int .i64 ((s_Table).length : Int)) := (hout528 5 rfl).trans hf104
                exact OpX.val (Value.int .i64 ((s_Table).length : Int)) wd526 rfl (op_move e531) (Ext.refl _) ⟨rfl, hr22⟩
              · refine ObX.op rfl ?_
                intro f532 wd533 he534 hout535 hphi536
                have hS537 : St wd10 wd533 [bx b18 [(Value.slice none 0 0)], (Ty.sl (Ty.sl (Ty.sl (Ty.i .i64)))).at u26 x92, bx b31 [u26]] := St.extend hS115 he534
                obtain ⟨S538, hS539, hf540⟩ := hphi536 33 70 _ rfl rfl rfl
                obtain ⟨e541, hr542⟩ : f532 70 = (Value.int .i64 (k64 : Int)) ∧ InR .i64 (k64 : Int) := hf540
                obtain ⟨S543, hS544, hf545⟩ := hphi536 34 71 _ rfl rfl rfl
                obtain ⟨e546, hr547⟩ : f532 71 = (Value.int .i64 ((s_Table).length : Int)) ∧ InR .i64 ((s_Table).length : Int) := hf545
                have hr551 : InR .i64 x548 := by rw [hz549]; exact inR_tmod hr542
                exact OpX.val (Value.int .i64 x548) wd533 rfl (by rw [hz549]; exact op_rem e541 e546 h0550) (Ext.refl _) ⟨rfl, hr551⟩
              · refine ObX.op rfl ?_
                intro f552 wd553 he554 hout555 hphi556
                have hS557 : St wd10 wd553 [bx b18 [(Value.slice none 0 0)], (Ty.sl (Ty.sl (Ty.sl (Ty.i .i64)))).at u26 x92, bx b31 [u26]] := St.extend hS115 he554
                obtain ⟨S558, hS559, hf560⟩ := hphi556 32 69 _ rfl rfl rfl
                have e561 : f552 69 = u515 := hf560
                obtain ⟨S562, hS563, hf564⟩ := hphi556 35 72 _ rfl rfl rfl
                obtain ⟨e565, hr566⟩ : f552 72 = (Value.int .i64 x548) ∧ InR .i64 x548 := hf564
                exact OpX.val (Value.pointer (some (elA u515 (x548).toNat))) wd553 rfl (op_idx sl_57 (Ty.lift _ (Ext.trans hE15 hS557.ext) hr517) e561 e565 ha568 hb569) (Ext.refl _) rfl
              · refine ObX.op rfl ?_
                intro f571 wd572 he573 hout574 hphi575
                have hS576 : St wd10 wd572 [bx b18 [(Value.slice none 0 0)], (Ty.sl (Ty.sl (Ty.sl (Ty.i .i64)))).at u26 x92, bx b31 [u26]] := St.extend hS115 he573
                obtain ⟨S577, hS578, hf579⟩ := hphi575 36 73 _ rfl rfl rfl
                have e580 : f571 73 = (Value.pointer (some (elA u515 (x548).toNat))) := hf579
                exact OpX.val u581 wd572 rfl (op_load one_35 e580 (Ext.cell (Ext.trans hE15 hS576.ext) hc582)) (Ext.refl _) rfl
              · refine ObX.op rfl ?_
                intro f584 wd585 he586 hout587 hphi588
                have hS589 : St wd10 wd585 [bx b18 [(Value.slice none 0 0)], (Ty.sl (Ty.sl (Ty.sl (Ty.i .i64)))).at u26 x92, bx b31 [u26]] := St.extend hS115 he586
                have e590 : f584 9 = (Value.int .i64 (k91 : Int)) := (hout587 9 rfl).trans rfl
                exact OpX.val (Value.int .i64 (k91 : Int)) wd585 rfl (op_move e590) (Ext.refl _) ⟨rfl, hr114⟩
              · refine ObX.op rfl ?_
                intro f591 wd592 he593 hout594 hphi595
                have hS596 : St wd10 wd592 [bx b18 [(Value.slice none 0 0)], (Ty.sl (Ty.sl (Ty.sl (Ty.i .i64)))).at u26 x92, bx b31 [u26]] := St.extend hS115 he593
                have e597 : f591 5 = (Value.int .i64 ((s_Table).length : Int)) := (hout594 5 rfl).trans hf104
                exact OpX.val (Value.int .i64 ((s_Table).length : Int)) wd592 rfl (op_move e597) (Ext.refl _) ⟨rfl, hr22⟩
              · refine ObX.op rfl ?_
                intro f598 wd599 he600 hout601 hphi602
                have hS603 : St wd10 wd599 [bx b18 [(Value.slice none 0 0)], (Ty.sl (Ty.sl (Ty.sl (Ty.i .i64)))).at u26 x92, bx b31 [u26]] := St.extend hS115 he600
                obtain ⟨S604, hS605, hf606⟩ := hphi602 38 75 _ rfl rfl rfl
                obtain ⟨e607, hr608⟩ : f598 75 = (Value.int .i64 (k91 : Int)) ∧ InR .i64 (k91 : Int) := hf606
                obtain ⟨S609, hS610, hf611⟩ := hphi602 39 76 _ rfl rfl rfl
                obtain ⟨e612, hr613⟩ : f598 76 = (Value.int .i64 ((s_Table).length : Int)) ∧ InR .i64 ((s_Table).length : Int) := hf611
                have hr617 : InR .i64 x614 := by rw [hz615]; exact inR_tmod hr608
                exact OpX.val (Value.int .i64 x614) wd599 rfl (by rw [hz615]; exact op_rem e607 e612 h0616) (Ext.refl _) ⟨rfl, hr617⟩
              · refine ObX.op rfl ?_
                intro f618 wd619 he620 hout621 hphi622
                have hS623 : St wd10 wd619 [bx b18 [(Value.slice none 0 0)], (Ty.sl (Ty.sl (Ty.sl (Ty.i .i64)))).at u26 x92, bx b31 [u26]] := St.extend hS115 he620
                obtain ⟨S624, hS625, hf626⟩ := hphi622 37 74 _ rfl rfl rfl
                have e627 : f618 74 = u581 := hf626
                obtain ⟨S628, hS629, hf630⟩ := hphi622 40 77 _ rfl rfl rfl
                obtain ⟨e631, hr632⟩ : f618 77 = (Value.int .i64 x614) ∧ InR .i64 x614 := hf630
                exact OpX.val (Value.pointer (some (elA u581 (x614).toNat))) wd619 rfl (op_idx sl_35 (Ty.lift _ (Ext.trans hE15 hS623.ext) hr583) e627 e631 ha634 hb635) (Ext.refl _) rfl
              · refine ObX.op rfl ?_
                intro f637 wd638 he639 hout640 hphi641
                have hS642 : St wd10 wd638 [bx b18 [(Value.slice none 0 0)], (Ty.sl (Ty.sl (Ty.sl (Ty.i .i64)))).at u26 x92, bx b31 [u26]] := St.extend hS115 he639
                obtain ⟨S643, hS644, hf645⟩ := hphi641 41 78 _ rfl rfl rfl
                have e646 : f637 78 = (Value.pointer (some (elA u581 (x614).toNat))) := hf645
                exact OpX.val (Value.int .i64 x633) wd638 rfl (op_load one_2 e646 (Ext.cell (Ext.trans hE15 hS642.ext) hc648)) (Ext.refl _) ⟨rfl, hr649⟩
              · refine ObX.op rfl ?_
                intro f650 wd651 he652 hout653 hphi654
                have hS655 : St wd10 wd651 [bx b18 [(Value.slice none 0 0)], (Ty.sl (Ty.sl (Ty.sl (Ty.i .i64)))).at u26 x92, bx b31 [u26]] := St.extend hS115 he652
                obtain ⟨S656, hS657, hf658⟩ := hphi654 25 62 _ rfl rfl rfl
                obtain ⟨e659, hr660⟩ : f650 62 = (Value.int .i64 x418) ∧ InR .i64 x418 := hf658
                obtain ⟨S661, hS662, hf663⟩ := hphi654 42 79 _ rfl rfl rfl
                obtain ⟨e664, hr665⟩ : f650 79 = (Value.int .i64 x633) ∧ InR .i64 x633 := hf663
                exact OpX.val (Value.int .i64 (w64 (x418 * x633))) wd651 rfl (op_mul e659 e664) (Ext.refl _) ⟨rfl, (inR_wrap _ _)⟩
              · intro f666 wd667 Ss668 he669 hout670 hSn671 hSd672 hphi673
                show WL _ _ _ _ _ _ _
                have hS674 : St wd10 wd667 [bx b18 [(Value.slice none 0 0)], (Ty.sl (Ty.sl (Ty.sl (Ty.i .i64)))).at u26 x92, bx b31 [u26]] := St.extend hS115 he669
                have e675 : f666 44 = u210 := hphi673 7 44 _ (by decide) rfl rfl
                obtain ⟨e676, hr677⟩ : f666 45 = (Value.int .i64 (k91 : Int)) ∧ InR .i64 (k91 : Int) := hphi673 8 45 _ (by decide) rfl rfl
                obtain ⟨e678, hr679⟩ : f666 80 = (Value.int .i64 (w64 (x418 * x633))) ∧ InR .i64 (w64 (x418 * x633)) := hphi673 43 80 _ (by decide) rfl rfl
                have e680 : f666 2 = (Value.pointer (some ⟨b1, 0, none⟩)) := (hout670 2 rfl).trans hf101
                have e681 : f666 3 = (Value.pointer (some ⟨b9, 0, none⟩)) := (hout670 3 rfl).trans hf102
                have e682 : f666 4 = (Value.pointer (some ⟨b18, 0, none⟩)) := (hout670 4 rfl).trans hf103
                have e683 : f666 5 = (Value.int .i64 ((s_Table).length : Int)) := (hout670 5 rfl).trans hf104
                have e684 : f666 6 = (Value.pointer (some ⟨b31, 0, none⟩)) := (hout670 6 rfl).trans hf105
                have e685 : f666 7 = (Value.int .i64 (k40 : Int)) := (hout670 7 rfl).trans hf106
                have e686 : f666 8 = (Value.int .i64 (k64 : Int)) := (hout670 8 rfl).trans hf107
                have e687 : f666 21 = (Value.int .i64 ((x24).length : Int)) := (hout670 21 rfl).trans hf108
                have e688 : f666 22 = (Value.int .i64 (k40 : Int)) := (hout670 22 rfl).trans hf109
                have e689 : f666 27 = (Value.int .i64 ((x41).length : Int)) := (hout670 27 rfl).trans hf110
                have e690 : f666 28 = (Value.int .i64 (k64 : Int)) := (hout670 28 rfl).trans hf111
                have e691 : f666 33 = (Value.int .i64 ((x65).length : Int)) := (hout670 33 rfl).trans hf112
                have e692 : f666 34 = (Value.int .i64 (k91 : Int)) := (hout670 34 rfl).trans hf113
                obtain ⟨x693, hx696, hb97⟩ := bs hb97
                obtain ⟨ha694, hb695, hx696⟩ := idx_some hx696
                refine WL.val (Value.pointer (some (elA u210 ((k91 : Int)).toNat))) _ (op_idx sl_35 (Ty.lift _ he669 hr212) e675 e676 ha694 hb695) rfl ?_
                refine WL.storeEl3 (flat_i .i64) hS674 (k := 1) rfl sz_2 hx160 hx199 (Ext.cell he669 hc172) (Ext.cell he669 hc211) rfl e678 (lt_of_idx ha694 hb695) ⟨rfl, hr679⟩ ?_
                intro wd697 hS698
                replace hS698 : St wd10 wd697 [bx b18 [(Value.slice none 0 0)], (Ty.sl (Ty.sl (Ty.sl (Ty.i .i64)))).at u26 ((x92).set ((k40 : Int)).toNat ((x157).set ((k64 : Int)).toNat ((x196).set ((k91 : Int)).toNat (w64 (x418 * x633))))), bx b31 [u26]] := hS698
                refine WL.nil ?_
                show W _ _ _ _ _ _
                refine W.region ?_
                refine WL.val (Value.int .i64 (w64 ((k91 : Int) + (1 : Int)))) _ (op_add e692 rfl) rfl ?_
                refine WL.val (Value.int .i64 (w64 ((k91 : Int) + (1 : Int)))) _ (op_move rfl) rfl ?_
                refine WL.nil ?_
                obtain rfl := Option.some.inj hb97
                show ∃ s, _ = Ctl.next s ∧ _
                exact ⟨_, rfl, e680, e681, e682, e683, e684, e685, e686, e687, e688, e689, e690, e691, (ctr_next hl116 hr88), (ctr_rng hl116 hr88), hS698⟩
            · intro x705 f700 wd701 hs702 hI703
              replace hI703 : f700 2 = (Value.pointer (some ⟨b1, 0, none⟩)) ∧ f700 3 = (Value.pointer (some ⟨b9, 0, none⟩)) ∧ f700 4 = (Value.pointer (some ⟨b18, 0, none⟩)) ∧ f700 5 = (Value.int .i64 ((s_Table).length : Int)) ∧ f700 6 = (Value.pointer (some ⟨b31, 0, none⟩)) ∧ f700 7 = (Value.int .i64 (k40 : Int)) ∧ f700 8 = (Value.int .i64 (k64 : Int)) ∧ f700 21 = (Value.int .i64 ((x24).length : Int)) ∧ f700 22 = (Value.int .i64 (k40 : Int)) ∧ f700 27 = (Value.int .i64 ((x41).length : Int)) ∧ f700 28 = (Value.int .i64 (k64 : Int)) ∧ f700 33 = (Value.int .i64 ((x65).length : Int)) ∧ f700 34 = Value.int .i64 (((x65).length : Nat) : Int) ∧ InR .i64 (((x65).length : Nat) : Int) ∧ St wd10 wd701 [bx b18 [(Value.slice none 0 0)], (Ty.sl (Ty.sl (Ty.sl (Ty.i .i64)))).at u26 x705, bx b31 [u26]] := hI703
              obtain ⟨hf706, hf707, hf708, hf709, hf710, hf711, hf712, hf713, hf714, hf715, hf716, hf717, hf718, hr719, hS720⟩ := hI703
              refine W.seq (W.region ?_)
              refine WL.val (Value.bool (decide ((((x65).length : Nat) : Int) < ((x65).length : Int)))) _ (op_lss hf718 hf717) rfl ?_
              have hl721 : ¬ (((x65).length : Nat) : Int) < ((x65).length : Int) := by omega
              refine WL.nil ?_
              show W _ _ _ _ _ _
              refine W.seq ?_
              refine W.condF (decide ((((x65).length : Nat) : Int) < ((x65).length : Int))) rfl (decide_eq_false hl721) ?_
              refine W.exit ?_
              show _ = _ ∧ _
              exact ⟨rfl, _, hs702, hf706, hf707, hf708, hf709, hf710, hf711, hf713, hf714, hf715, hf716, hS720⟩
          · rintro f722 wd723 ⟨x726, rfl, hq724⟩
            replace hb70 := onRes_fin hb70
            replace hq724 : f722 2 = (Value.pointer (some ⟨b1, 0, none⟩)) ∧ f722 3 = (Value.pointer (some ⟨b9, 0, none⟩)) ∧ f722 4 = (Value.pointer (some ⟨b18, 0, none⟩)) ∧ f722 5 = (Value.int .i64 ((s_Table).length : Int)) ∧ f722 6 = (Value.pointer (some ⟨b31, 0, none⟩)) ∧ f722 7 = (Value.int .i64 (k40 : Int)) ∧ f722 21 = (Value.int .i64 ((x24).length : Int)) ∧ f722 22 = (Value.int .i64 (k40 : Int)) ∧ f722 27 = (Value.int .i64 ((x41).length : Int)) ∧ f722 28 = (Value.int .i64 (k64 : Int)) ∧ St wd10 wd723 [bx b18 [(Value.slice none 0 0)], (Ty.sl (Ty.sl (Ty.sl (Ty.i .i64)))).at u26 x726, bx b31 [u26]] := hq724
            obtain ⟨hf727, hf728, hf729, hf730, hf731, hf732, hf733, hf734, hf735, hf736, hS737⟩ := hq724
            show W _ _ _ _ _ _
            refine W.region ?_
            refine WL.val (Value.int .i64 (w64 ((k64 : Int) + (1 : Int)))) _ (op_add hf736 rfl) rfl ?_
            refine WL.val (Value.int .i64 (w64 ((k64 : Int) + (1 : Int)))) _ (op_move rfl) rfl ?_
            refine WL.nil ?_
            obtain rfl := Option.some.inj hb70
            show ∃ s, _ = Ctl.next s ∧ _
            exact ⟨_, rfl, hf727, hf728, hf729, hf730, hf731, hf732, hf733, hf734, hf735, (ctr_next hl86 hr61), (ctr_rng hl86 hr61), hS737⟩
        · intro x745 f740 wd741 hs742 hI743
          replace hI743 : f740 2 = (Value.pointer (some ⟨b1, 0, none⟩)) ∧ f740 3 = (Value.pointer (some ⟨b9, 0, none⟩)) ∧ f740 4 = (Value.pointer (some ⟨b18, 0, none⟩)) ∧ f740 5 = (Value.int .i64 ((s_Table).length : Int)) ∧ f740 6 = (Value.pointer (some ⟨b31, 0, none⟩)) ∧ f740 7 = (Value.int .i64 (k40 : Int)) ∧ f740 21 = (Value.int .i64 ((x24).length : Int)) ∧ f740 22 = (Value.int .i64 (k40 : Int)) ∧ f740 27 = (Value.int .i64 ((x41).length : Int)) ∧ f740 28 = Value.int .i64 (((x41).length : Nat) : Int) ∧ InR .i64 (((x41).length : Nat) : Int) ∧ St wd10 wd741 [bx b18 [(Value.slice none 0 0)], (Ty.sl (Ty.sl (Ty.sl (Ty.i .i64)))).at u26 x745, bx b31 [u26]] := hI743
          obtain ⟨hf746, hf747, hf748, hf749, hf750, hf751, hf752, hf753, hf754, hf755, hr756, hS757⟩ := hI743
          refine W.seq (W.region ?_)
          refine WL.val (Value.bool (decide ((((x41).length : Nat) : Int) < ((x41).length : Int)))) _ (op_lss hf755 hf754) rfl ?_
          have hl758 : ¬ (((x41).length : Nat) : Int) < ((x41).length : Int) := by omega
          refine WL.nil ?_
          show W _ _ _ _ _ _
          refine W.seq ?_
          refine W.condF (decide ((((x41).length : Nat) : Int) < ((x41).length : Int))) rfl (decide_eq_false hl758) ?_
          refine W.exit ?_
          show _ = _ ∧ _
          exact ⟨rfl, _, hs742, hf746, hf747, hf748, hf749, hf750, hf752, hf753, hS757⟩
      · rintro f759 wd760 ⟨x763, rfl, hq761⟩
        replace hb46 := onRes_fin hb46
        replace hq761 : f759 2 = (Value.pointer (some ⟨b1, 0, none⟩)) ∧ f759 3 = (Value.pointer (some ⟨b9, 0, none⟩)) ∧ f759 4 = (Value.pointer (some ⟨b18, 0, none⟩)) ∧ f759 5 = (Value.int .i64 ((s_Table).length : Int)) ∧ f759 6 = (Value.pointer (some ⟨b31, 0, none⟩)) ∧ f759 21 = (Value.int .i64 ((x24).length : Int)) ∧ f759 22 = (Value.int .i64 (k40 : Int)) ∧ St wd10 wd760 [bx b18 [(Value.slice none 0 0)], (Ty.sl (Ty.sl (Ty.sl (Ty.i .i64)))).at u26 x763, bx b31 [u26]] := hq761
        obtain ⟨hf764, hf765, hf766, hf767, hf768, hf769, hf770, hS771⟩ := hq761
        show W _ _ _ _ _ _
        refine W.region ?_
        refine WL.val (Value.int .i64 (w64 ((k40 : Int) + (1 : Int)))) _ (op_add hf770 rfl) rfl ?_
        refine WL.val (Value.int .i64 (w64 ((k40 : Int) + (1 : Int)))) _ (op_move rfl) rfl ?_
        refine WL.nil ?_
        obtain rfl := Option.some.inj hb46
        show ∃ s, _ = Ctl.next s ∧ _
        exact ⟨_, rfl, hf764, hf765, hf766, hf767, hf768, hf769, (ctr_next hl59 hr37), (ctr_rng hl59 hr37), hS771⟩
    · intro x779 f774 wd775 hs776 hI777
      replace hI777 : f774 2 = (Value.pointer (some ⟨b1, 0, none⟩)) ∧ f774 3 = (Value.pointer (some ⟨b9, 0, none⟩)) ∧ f774 4 = (Value.pointer (some ⟨b18, 0, none⟩)) ∧ f774 5 = (Value.int .i64 ((s_Table).length : Int)) ∧ f774 6 = (Value.pointer (some ⟨b31, 0, none⟩)) ∧ f774 21 = (Value.int .i64 ((x24).length : Int)) ∧ f774 22 = Value.int .i64 (((x24).length : Nat) : Int) ∧ InR .i64 (((x24).length : Nat) : Int) ∧ St wd10 wd775 [bx b18 [(Value.slice none 0 0)], (Ty.sl (Ty.sl (Ty.sl (Ty.i .i64)))).at u26 x779, bx b31 [u26]] := hI777
      obtain ⟨hf780, hf781, hf782, hf783, hf784, hf785, hf786, hr787, hS788⟩ := hI777
      refine W.seq (W.region ?_)
      refine WL.val (Value.bool (decide ((((x24).length : Nat) : Int) < ((x24).length : Int)))) _ (op_lss hf786 hf785) rfl ?_
      have hl789 : ¬ (((x24).length : Nat) : Int) < ((x24).length : Int) := by omega
      refine WL.nil ?_
      show W _ _ _ _ _ _
      refine W.seq ?_
      refine W.condF (decide ((((x24).length : Nat) : Int) < ((x24).length : Int))) rfl (decide_eq_false hl789) ?_
      refine W.exit ?_
      show _ = _ ∧ _
      exact ⟨rfl, _, hs776, hf782, hf784, hS788⟩
  · rintro f790 wd791 ⟨x794, rfl, hq792⟩
    replace h := onRes_fin h
    replace hq792 : f790 4 = (Value.pointer (some ⟨b18, 0, none⟩)) ∧ f790 6 = (Value.pointer (some ⟨b31, 0, none⟩)) ∧ St wd10 wd791 [bx b18 [(Value.slice none 0 0)], (Ty.sl (Ty.sl (Ty.sl (Ty.i .i64)))).at u26 x794, bx b31 [u26]] := hq792
    obtain ⟨hf795, hf796, hS797⟩ := hq792
    show W _ _ _ _ _ _
    refine W.seq (W.region ?_)
    refine WL.val (Value.agg #[u26]) _ (op_loadBox st_26 hf796 (St.boxAt hS797 2 rfl) rfl rfl) rfl ?_
    refine WL.storeBox [u26] hS797 (k := 0) rfl hf795 rfl (us := [u26]) rfl sz_26 rfl rfl (all_rep (St.rep (t := (Ty.sl (Ty.sl (Ty.sl (Ty.i .i64))))) hS797 1 rfl) all_nil) rfl ?_
    intro wd798 hS799
    replace hS799 : St wd10 wd798 [bx b18 [u26], (Ty.sl (Ty.sl (Ty.sl (Ty.i .i64)))).at u26 x794, bx b31 [u26]] := hS799
    refine WL.nil ?_
    show W _ _ _ _ _ _
    refine W.ret ?_
    obtain rfl := Option.some.inj h
    show FinP _ _ _ _ _ _ _
    exact FinP.ret _ (resC rfl hf795 st_26 (St.boxAt hS799 0 rfl) rfl) ⟨u26, rfl, (Ext.trans hE15 hS799.ext), (St.out (St.pick hS799 [1] rfl) (hE15))⟩

theorem c_impl_ProductRing {w : World} {r_Table : (List (List (List Int)))} {v_r_Table : Value} {s_Table : (List (List (List Int)))} {v_s_Table : Value} (r_r_Table : (Ty.sl (Ty.sl (Ty.sl (Ty.i .i64)))).rep w v_r_Table r_Table) (r_s_Table : (Ty.sl (Ty.sl (Ty.sl (Ty.i .i64)))).rep w v_s_Table s_Table) {res : (List (List (List Int))) × Int} (h : p_impl_ProductRing r_Table s_Table  = some res) :
    Ret Try.prog 18 #[(Value.agg #[v_r_Table]), (Value.agg #[v_s_Table])] w (fun v w' => ∃ (u0 : Value), v = (Value.tuple #[(Value.agg #[u0]), Value.int .i64 res.2]) ∧ InR .i64 res.2 ∧ Ext w w' ∧ Sep w.heap.size w' [(Ty.sl (Ty.sl (Ty.sl (Ty.i .i64)))).at u0 res.1]) := by
  unfold p_impl_ProductRing at h
  have hS0 : St w w [] := St.start w
  refine Ret.start (fn := Try.f18) Try.func18 rfl 33 rfl rfl ?_
  refine W.seq (W.region ?_)
  refine WL.box hS0 rfl (cs := [v_r_Table]) rfl rfl ?_
  intro b1 wd2 hS3 he4 hx5
  replace hS3 : St w wd2 [bx b1 [v_r_Table]] := hS3
  have hx6 := St.boxAt hS3 0 rfl
  have hE7 : Ext w wd2 := hS3.ext
  have hS8 : St wd2 wd2 [] := St.start wd2
  refine WL.box hS8 rfl (cs := [v_s_Table]) rfl rfl ?_
  intro b9 wd10 hS11 he12 hx13
  replace hS11 : St wd2 wd10 [bx b9 [v_s_Table]] := hS11
  have hx14 := St.boxAt hS11 0 rfl
  have hE15 : Ext w wd10 := (Ext.trans hE7 hS11.ext)
  have hE16 : Ext wd2 wd10 := hS11.ext
  have hS17 : St wd10 wd10 [] := St.start wd10
  refine WL.alloc hS17 ze_26 (cs := [(Value.slice none 0 0)]) rfl rfl ?_
  intro b18 wd19 hS20 he21
  replace hS20 : St wd10 wd19 [bx b18 [(Value.slice none 0 0)]] := hS20
  refine WL.val (Value.int .i64 (0 : Int)) _ (op_assign rfl) rfl ?_
  refine WL.nil ?_
  show W _ _ _ _ _ _
  refine W.seq (W.seq (W.region ?_))
  refine WL.val (Value.agg #[v_r_Table]) _ (op_loadBox st_26 rfl (BoxAt.lift (Ext.trans hE16 hS20.ext) hx6) rfl rfl) rfl ?_
  obtain ⟨x22, hx23, h⟩ := bs h
  refine WL.call _ (op_call fn_38 (args1 rfl)) (c_impl_IsRing (Ty.lift _ (Ext.trans hE15 hS20.ext) r_r_Table) hx23) rfl ?_
  rintro _ wd24 ⟨rfl, he25⟩
  have hS27 := St.extend hS20 he25
  replace hS27 : St wd10 wd24 [bx b18 [(Value.slice none 0 0)]] := hS27
  refine WL.val (Value.bool (!x22)) _ (op_not rfl) rfl ?_
  refine WL.val (Value.bool (!x22)) _ (op_move rfl) rfl ?_
  obtain ⟨x29, hj30, h⟩ := bs h
  refine WL.cut 4 (fun fq wq => fq 2 = (Value.pointer (some ⟨b1, 0, none⟩)) ∧ fq 3 = (Value.pointer (some ⟨b9, 0, none⟩)) ∧ fq 4 = (Value.pointer (some ⟨b18, 0, none⟩)) ∧ fq 14 = Value.bool x29 ∧ St wd10 wq [bx b18 [(Value.slice none 0 0)]]) ?_ ?_
  · rcases Bool.eq_false_or_eq_true (!x22) with hc28 | hc28
    · replace hj30 := ip hj30 hc28
      refine WL.gskip rfl (bool_of rfl hc28) rfl ?_
      refine WL.gskip rfl (bool_of rfl hc28) rfl ?_
      refine WL.gskip rfl (bool_of rfl hc28) rfl ?_
      refine WL.val (Value.bool true) _ (op_pick_t (evb_of rfl hc28) rfl) rfl ?_
      refine WL.nil ?_
      obtain rfl := Option.some.inj hj30
      exact ⟨rfl, rfl, rfl, rfl, rfl, hS27⟩
    · replace hj30 := inegb hj30 hc28
      refine WL.grun rfl (bool_of rfl hc28) ?_
      refine WL.val (Value.agg #[v_s_Table]) _ (op_loadBox st_26 rfl (BoxAt.lift hS27.ext hx14) rfl rfl) rfl ?_
      refine WL.grun rfl (bool_of rfl hc28) ?_
      obtain ⟨x34, hx35, hj30⟩ := bs hj30
      refine WL.call _ (op_call fn_38 (args1 rfl)) (c_impl_IsRing (Ty.lift _ (Ext.trans hE15 hS27.ext) r_s_Table) hx35) rfl ?_
      rintro _ wd36 ⟨rfl, he37⟩
      have hS39 := St.extend hS27 he37
      replace hS39 : St wd10 wd36 [bx b18 [(Value.slice none 0 0)]] := hS39
      refine WL.grun rfl (bool_of rfl hc28) ?_
      refine WL.val (Value.bool (!x34)) _ (op_not rfl) rfl ?_
      refine WL.val (Value.bool (!x34)) _ (op_pick_f (evb_of rfl hc28) rfl) rfl ?_
      refine WL.nil ?_
      obtain rfl := Option.some.inj hj30
      exact ⟨rfl, rfl, rfl, rfl, rfl, hS39⟩
  · intro f31 wd32 hq33
    obtain ⟨hf40, hf41, hf42, hf43, hS44⟩ := hq33
    refine WL.nil ?_
    show W _ _ _ _ _ _
    refine W.cond x29 hf43 (fun hc45 => ?_) (fun hc45 => ?_)
    · replace h := ip h hc45
      refine W.seq (W.region ?_)
      refine WL.val (Value.agg #[(Value.slice none 0 0)]) _ (op_build bd_26 (parts := []) (partsL trivial) trivial rfl) rfl ?_
      have hS49 := St.addNil (Ty.sl (Ty.sl (Ty.i .i64))) hS44
      replace hS49 : St wd10 wd32 [bx b18 [(Value.slice none 0 0)], (Ty.sl (Ty.sl (Ty.sl (Ty.i .i64)))).at (Value.slice none 0 0) ([] : (List (List (List Int))))] := hS49
      refine WL.storeBox [(Value.slice none 0 0)] hS49 (k := 0) rfl hf42 rfl (us := [(Value.slice none 0 0)]) rfl sz_26 rfl rfl (all_rep (St.rep (t := (Ty.sl (Ty.sl (Ty.sl (Ty.i .i64))))) hS49 1 rfl) all_nil) rfl ?_
      intro wd47 hS48
      replace hS48 : St wd10 wd47 [bx b18 [(Value.slice none 0 0)], (Ty.sl (Ty.sl (Ty.sl (Ty.i .i64)))).at (Value.slice none 0 0) ([] : (List (List (List Int))))] := hS48
      refine WL.val (Value.int .i64 (1 : Int)) _ (op_assign rfl) rfl ?_
      refine WL.nil ?_
      show W _ _ _ _ _ _
      refine W.ret ?_
      obtain rfl := Option.some.inj h
      show FinP _ _ _ _ _ _ _
      exact FinP.ret _ (resCT rfl hf42 st_26 (St.boxAt hS48 0 rfl) rfl rfl) ⟨(Value.slice none 0 0), rfl, (inR_i64.2 (show (-9223372036854775808 : Int) ≤ 1 ∧ (1 : Int) ≤ 9223372036854775807 from by decide)), (Ext.trans hE15 hS48.ext), (St.out (St.pick hS48 [1] rfl) (hE15))⟩
    · replace h := inegb h hc45
      refine W.skip ?_
      show W _ _ _ _ _ _
      refine W.seq (W.seq (W.region ?_))
      refine WL.val (Value.pointer (some ⟨b1, 0, none⟩)) _ (op_fieldAddr fd_26_0 hf40) rfl ?_
      refine WL.val v_r_Table _ (op_load one_22 rfl (BoxAt.cell (BoxAt.lift (Ext.trans hE16 hS44.ext) hx6) rfl)) rfl ?_
      have hr50 := inR_len (Ty.lift _ (Ext.trans hE15 hS44.ext) r_r_Table)
      refine WL.val (Value.int .i64 ((r_Table).length : Int)) _ (op_lenL sl_22 (Ty.lift _ (Ext.trans hE15 hS44.ext) r_r_Table) rfl) rfl ?_
      refine WL.val (Value.pointer (some ⟨b9, 0, none⟩)) _ (op_fieldAddr fd_26_0 hf41) rfl ?_
      refine WL.val v_s_Table _ (op_load one_22 rfl (BoxAt.cell (BoxAt.lift hS44.ext hx14) rfl)) rfl ?_
      have hr51 := inR_len (Ty.lift _ (Ext.trans hE15 hS44.ext) r_s_Table)
      refine WL.val (Value.int .i64 ((s_Table).length : Int)) _ (op_lenL sl_22 (Ty.lift _ (Ext.trans hE15 hS44.ext) r_s_Table) rfl) rfl ?_
      refine WL.val (Value.int .i64 (w64 (((r_Table).length : Int) * ((s_Table).length : Int)))) _ (op_mul rfl rfl) rfl ?_
      refine WL.val (Value.bool (decide ((w64 (((r_Table).length : Int) * ((s_Table).length : Int))) > (16 : Int)))) _ (op_gtr rfl rfl) rfl ?_
      refine WL.nil ?_
      show W _ _ _ _ _ _
      refine W.cond (decide ((w64 (((r_Table).length : Int) * ((s_Table).length : Int))) > (16 : Int))) rfl (fun hc52 => ?_) (fun hc52 => ?_)
      · replace h := ip h hc52
        refine W.seq (W.region ?_)
        refine WL.val (Value.agg #[(Value.slice none 0 0)]) _ (op_build bd_26 (parts := []) (partsL trivial) trivial rfl) rfl ?_
        have hS56 := St.addNil (Ty.sl (Ty.sl (Ty.i .i64))) hS44
        replace hS56 : St wd10 wd32 [bx b18 [(Value.slice none 0 0)], (Ty.sl (Ty.sl (Ty.sl (Ty.i .i64)))).at (Value.slice none 0 0) ([] : (List (List (List Int))))] := hS56
        refine WL.storeBox [(Value.slice none 0 0)] hS56 (k := 0) rfl hf42 rfl (us := [(Value.slice none 0 0)]) rfl sz_26 rfl rfl (all_rep (St.rep (t := (Ty.sl (Ty.sl (Ty.sl (Ty.i .i64))))) hS56 1 rfl) all_nil) rfl ?_
        intro wd54 hS55
        replace hS55 : St wd10 wd54 [bx b18 [(Value.slice none 0 0)], (Ty.sl (Ty.sl (Ty.sl (Ty.i .i64)))).at (Value.slice none 0 0) ([] : (List (List (List Int))))] := hS55
        refine WL.val (Value.int .i64 (3 : Int)) _ (op_assign rfl) rfl ?_
        refine WL.nil ?_
        show W _ _ _ _ _ _
        refine W.ret ?_
        obtain rfl := Option.some.inj h
        show FinP _ _ _ _ _ _ _
        exact FinP.ret _ (resCT rfl hf42 st_26 (St.boxAt hS55 0 rfl) rfl rfl) ⟨(Value.slice none 0 0), rfl, (inR_i64.2 (show (-9223372036854775808 : Int) ≤ 3 ∧ (3 : Int) ≤ 9223372036854775807 from by decide)), (Ext.trans hE15 hS55.ext), (St.out (St.pick hS55 [1] rfl) (hE15))⟩
      · replace h := inegb h hc52
        refine W.skip ?_
        show W _ _ _ _ _ _
        refine W.seq (W.region ?_)
        refine WL.val (Value.agg #[v_r_Table]) _ (op_loadBox st_26 hf40 (BoxAt.lift (Ext.trans hE16 hS44.ext) hx6) rfl rfl) rfl ?_
        refine WL.val (Value.agg #[v_s_Table]) _ (op_loadBox st_26 hf41 (BoxAt.lift hS44.ext hx14) rfl rfl) rfl ?_
        obtain ⟨x57, hx58, h⟩ := bs h
        refine WL.call _ (op_call fn_45 (args2 rfl rfl)) (c_impl_productRing (Ty.lift _ (Ext.trans hE15 hS44.ext) r_r_Table) (Ty.lift _ (Ext.trans hE15 hS44.ext) r_s_Table) hx58) rfl ?_
        rintro _ wd60 ⟨u59, rfl, he61, hs62⟩
        have hS63 := St.join hS44 he61 hs62
        replace hS63 : St wd10 wd60 [bx b18 [(Value.slice none 0 0)], (Ty.sl (Ty.sl (Ty.sl (Ty.i .i64)))).at u59 x57] := hS63
        refine WL.alloc hS63 ze_26 (cs := [(Value.slice none 0 0)]) rfl rfl ?_
        intro b64 wd65 hS66 he67
        replace hS66 : St wd10 wd65 [bx b18 [(Value.slice none 0 0)], (Ty.sl (Ty.sl (Ty.sl (Ty.i .i64)))).at u59 x57, bx b64 [(Value.slice none 0 0)]] := hS66
        refine WL.storeBox [u59] hS66 (k := 2) rfl rfl rfl (us := [u59]) rfl sz_26 rfl rfl (all_rep (St.rep (t := (Ty.sl (Ty.sl (Ty.sl (Ty.i .i64))))) hS66 1 rfl) all_nil) rfl ?_
        intro wd68 hS69
        replace hS69 : St wd10 wd68 [bx b18 [(Value.slice none 0 0)], (Ty.sl (Ty.sl (Ty.sl (Ty.i .i64)))).at u59 x57, bx b64 [u59]] := hS69
        refine WL.nil ?_
        show W _ _ _ _ _ _
        refine W.seq (W.seq (W.region ?_))
        refine WL.val (Value.agg #[u59]) _ (op_loadBox st_26 rfl (St.boxAt hS69 2 rfl) rfl rfl) rfl ?_
        obtain ⟨x70, hx71, h⟩ := bs h
        refine WL.call _ (op_call fn_46 (args1 rfl)) (c_impl_isCube (St.rep (t := (Ty.sl (Ty.sl (Ty.sl (Ty.i .i64))))) hS69 1 rfl) hx71) rfl ?_
        rintro _ wd72 ⟨rfl, he73⟩
        have hS75 := St.extend hS69 he73
        replace hS75 : St wd10 wd72 [bx b18 [(Value.slice none 0 0)], (Ty.sl (Ty.sl (Ty.sl (Ty.i .i64)))).at u59 x57, bx b64 [u59]] := hS75
        refine WL.val (Value.bool (!x70)) _ (op_not rfl) rfl ?_
        refine WL.nil ?_
        show W _ _ _ _ _ _
        refine W.cond (!x70) rfl (fun hc76 => ?_) (fun hc76 => ?_)
        · replace h := ip h hc76
          refine W.seq (W.region ?_)
          refine WL.val (Value.agg #[(Value.slice none 0 0)]) _ (op_build bd_26 (parts := []) (partsL trivial) trivial rfl) rfl ?_
          have hS80 := St.addNil (Ty.sl (Ty.sl (Ty.i .i64))) hS75
          replace hS80 : St wd10 wd72 [bx b18 [(Value.slice none 0 0)], (Ty.sl (Ty.sl (Ty.sl (Ty.i .i64)))).at u59 x57, bx b64 [u59], (Ty.sl (Ty.sl (Ty.sl (Ty.i .i64)))).at (Value.slice none 0 0) ([] : (List (List (List Int))))] := hS80
          refine WL.storeBox [(Value.slice none 0 0)] hS80 (k := 0) rfl hf42 rfl (us := [(Value.slice none 0 0)]) rfl sz_26 rfl rfl (all_rep (St.rep (t := (Ty.sl (Ty.sl (Ty.sl (Ty.i .i64))))) hS80 3 rfl) all_nil) rfl ?_
          intro wd78 hS79
          replace hS79 : St wd10 wd78 [bx b18 [(Value.slice none 0 0)], (Ty.sl (Ty.sl (Ty.sl (Ty.i .i64)))).at u59 x57, bx b64 [u59], (Ty.sl (Ty.sl (Ty.sl (Ty.i .i64)))).at (Value.slice none 0 0) ([] : (List (List (List Int))))] := hS79
          refine WL.val (Value.int .i64 (3 : Int)) _ (op_assign rfl) rfl ?_
          refine WL.nil ?_
          show W _ _ _ _ _ _
          refine W.ret ?_
          obtain rfl := Option.some.inj h
          show FinP _ _ _ _ _ _ _
          exact FinP.ret _ (resCT rfl hf42 st_26 (St.boxAt hS79 0 rfl) rfl rfl) ⟨(Value.slice none 0 0), rfl, (inR_i64.2 (show (-9223372036854775808 : Int) ≤ 3 ∧ (3 : Int) ≤ 9223372036854775807 from by decide)), (Ext.trans hE15 hS79.ext), (St.out (St.pick hS79 [3] rfl) (hE15))⟩
        · replace h := inegb h hc76
          refine W.skip ?_
          show W _ _ _ _ _ _
          refine W.seq (W.region ?_)
          refine WL.val (Value.agg #[u59]) _ (op_loadBox st_26 rfl (St.boxAt hS75 2 rfl) rfl rfl) rfl ?_
          refine WL.storeBox [u59] hS75 (k := 0) rfl hf42 rfl (us := [u59]) rfl sz_26 rfl rfl (all_rep (St.rep (t := (Ty.sl (Ty.sl (Ty.sl (Ty.i .i64))))) hS75 1 rfl) all_nil) rfl ?_
          intro wd81 hS82
          replace hS82 : St wd10 wd81 [bx b18 [u59], (Ty.sl (Ty.sl (Ty.sl (Ty.i .i64)))).at u59 x57, bx b64 [u59]] := hS82
          refine WL.val (Value.int .i64 (0 : Int)) _ (op_assign rfl) rfl ?_
          refine WL.nil ?_
          show W _ _ _ _ _ _
          refine W.ret ?_
          obtain rfl := Option.some.inj h
          show FinP _ _ _ _ _ _ _
          exact FinP.ret _ (resCT rfl hf42 st_26 (St.boxAt hS82 0 rfl) rfl rfl) ⟨u59, rfl, (inR_i64.2 (show (-9223372036854775808 : Int) ≤ 0 ∧ (0 : Int) ≤ 9223372036854775807 from by decide)), (Ext.trans hE15 hS82.ext), (St.out (St.pick hS82 [1] rfl) (hE15))⟩

end Go.VG
