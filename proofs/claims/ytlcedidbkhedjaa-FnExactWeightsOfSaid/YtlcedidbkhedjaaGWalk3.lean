/- The walks, part 3: each Go function returns what its plain twin returns. No condition beyond what each names. -/
import Derived.Test.YtlcedidbkhedjaaGWalk2
set_option linter.all false
namespace Go.VG
open Go.Proofs
attribute [local irreducible] W WL Sep FinP

theorem c_laws_eqInt64SS {w : World} {a : (List (List Int))} {v_a : Value} {b : (List (List Int))} {v_b : Value} (r_a : (Ty.sl (Ty.sl (Ty.i .i64))).rep w v_a a) (r_b : (Ty.sl (Ty.sl (Ty.i .i64))).rep w v_b b) {res : Bool} (h : p_laws_eqInt64SS a b  = some res) :
    Ret Try.prog 68 #[v_a, v_b] w (fun v w' => v = Value.bool res ∧ Ext w w') := by
  unfold p_laws_eqInt64SS at h
  have hS0 : St w w [] := St.start w
  refine Ret.start (fn := Try.f68) Try.func68 rfl 27 rfl rfl ?_
  refine W.seq (W.region ?_)
  refine WL.val (Value.bool false) _ (op_assign rfl) rfl ?_
  refine WL.nil ?_
  show W _ _ _ _ _ _
  refine W.seq (W.seq (W.region ?_))
  refine WL.val v_a _ (op_move rfl) rfl ?_
  have hr1 := inR_len (Ty.lift _ hS0.ext r_a)
  refine WL.val (Value.int .i64 ((a).length : Int)) _ (op_lenL sl_57 (Ty.lift _ hS0.ext r_a) rfl) rfl ?_
  refine WL.val v_b _ (op_move rfl) rfl ?_
  have hr2 := inR_len (Ty.lift _ hS0.ext r_b)
  refine WL.val (Value.int .i64 ((b).length : Int)) _ (op_lenL sl_57 (Ty.lift _ hS0.ext r_b) rfl) rfl ?_
  refine WL.val (Value.bool (((a).length : Int) != ((b).length : Int))) _ (op_neq rfl rfl) rfl ?_
  refine WL.nil ?_
  show W _ _ _ _ _ _
  refine W.cond (((a).length : Int) != ((b).length : Int)) rfl (fun hc3 => ?_) (fun hc3 => ?_)
  · replace h := ip h hc3
    refine W.seq (W.region ?_)
    refine WL.val (Value.bool false) _ (op_assign rfl) rfl ?_
    refine WL.nil ?_
    show W _ _ _ _ _ _
    refine W.ret ?_
    obtain rfl := Option.some.inj h
    show FinP _ _ _ _ _ _ _
    exact FinP.ret _ (res1 rfl rfl) ⟨rfl, hS0.ext⟩
  · replace h := inegb h hc3
    refine W.skip ?_
    show W _ _ _ _ _ _
    refine W.seq (W.seq (W.region ?_))
    refine WL.val (Value.int .i64 (0 : Int)) _ (op_assign rfl) rfl ?_
    refine WL.nil ?_
    show W _ _ _ _ _ _
    obtain ⟨res5, hres6, h⟩ := bs h
    refine W.blockLoop (fun fq wq => ∃ s, res5 = Res.fin s ∧ St w wq []) ?_ ?_
    · refine W.forN (fun k (s : Unit) fq wq => fq 0 = v_a ∧ fq 1 = v_b ∧ fq 5 = Value.int .i64 (k : Int) ∧ InR .i64 (k : Int) ∧ St w wq []) hres6 ⟨rfl, rfl, rfl, (inR_i64.2 (show (-9223372036854775808 : Int) ≤ 0 ∧ (0 : Int) ≤ 9223372036854775807 from by decide)), hS0⟩ ?_ ?_
      · intro k7 s138 ct8 f9 wd10 hk11 hb12 hI13 hbrk14 hret15
        obtain ⟨⟩ := s138
        replace hI13 : f9 0 = v_a ∧ f9 1 = v_b ∧ f9 5 = Value.int .i64 (k7 : Int) ∧ InR .i64 (k7 : Int) ∧ St w wd10 [] := hI13
        replace hb12 : p_laws_eqInt64SS_L1 a b k7  = some ct8 := hb12
        unfold p_laws_eqInt64SS_L1 at hb12
        obtain ⟨hf16, hf17, hf18, hr19, hS20⟩ := hI13
        refine W.seq (W.seq (W.region ?_))
        refine WL.val (Value.int .i64 (k7 : Int)) _ (op_move hf18) rfl ?_
        refine WL.val v_a _ (op_move hf16) rfl ?_
        have hr21 := inR_len (Ty.lift _ hS20.ext r_a)
        refine WL.val (Value.int .i64 ((a).length : Int)) _ (op_lenL sl_57 (Ty.lift _ hS20.ext r_a) rfl) rfl ?_
        refine WL.val (Value.bool (decide ((k7 : Int) < ((a).length : Int)))) _ (op_lss rfl rfl) rfl ?_
        have hl22 : (k7 : Int) < ((a).length : Int) := by omega
        refine WL.nil ?_
        show W _ _ _ _ _ _
        refine W.condT (decide ((k7 : Int) < ((a).length : Int))) rfl (decide_eq_true hl22) ?_
        refine W.skip ?_
        show W _ _ _ _ _ _
        refine W.seq ?_
        refine W.block ?_
        refine W.seq ?_
        obtain ⟨x53, hx56, hb12⟩ := bs hb12
        obtain ⟨ha54, hb55, hx56⟩ := idx_some hx56
        obtain ⟨u67, hc68, hr69⟩ := repSl.el r_a hx56
        obtain ⟨x99, hx102, hb12⟩ := bs hb12
        obtain ⟨ha100, hb101, hx102⟩ := idx_some hx102
        obtain ⟨u113, hc114, hr115⟩ := repSl.el r_b hx102
        refine W.drawR mixo 8 [] [fun _ v _ _ => v = v_a, fun _ v _ _ => v = (Value.int .i64 (k7 : Int)) ∧ InR .i64 (k7 : Int), fun _ v _ _ => v = (Value.pointer (some (elA v_a ((k7 : Int)).toNat))), fun _ v _ _ => v = u67, fun _ v _ _ => v = v_b, fun _ v _ _ => v = (Value.int .i64 (k7 : Int)) ∧ InR .i64 (k7 : Int), fun _ v _ _ => v = (Value.pointer (some (elA v_b ((k7 : Int)).toNat))), fun _ v _ _ => v = u113] (by kernel_rfl) (by kernel_rfl) ⟨⟨fun _ _ _ _ _ _ h => h, fun _ _ _ _ _ _ h => h⟩, ⟨fun _ _ _ _ _ _ h => h, fun _ _ _ _ _ _ h => h⟩, ⟨fun _ _ _ _ _ _ h => h, fun _ _ _ _ _ _ h => h⟩, ⟨fun _ _ _ _ _ _ h => h, fun _ _ _ _ _ _ h => h⟩, ⟨fun _ _ _ _ _ _ h => h, fun _ _ _ _ _ _ h => h⟩, ⟨fun _ _ _ _ _ _ h => h, fun _ _ _ _ _ _ h => h⟩, ⟨fun _ _ _ _ _ _ h => h, fun _ _ _ _ _ _ h => h⟩, ⟨fun _ _ _ _ _ _ h => h, fun _ _ _ _ _ _ h => h⟩, trivial⟩ ⟨?_, ?_, ?_, ?_, ?_, ?_, ?_, ?_, trivial⟩ ?_
        · refine ObX.op rfl ?_
          intro f24 wd25 he26 hout27 hphi28
          have hS29 : St w wd25 [] := St.extend hS20 he26
          have e30 : f24 0 = v_a := (hout27 0 rfl).trans hf16
          exact OpX.val v_a wd25 rfl (op_move e30) (Ext.refl _) rfl
        · refine ObX.op rfl ?_
          intro f31 wd32 he33 hout34 hphi35
          have hS36 : St w wd32 [] := St.extend hS20 he33
          have e37 : f31 5 = (Value.int .i64 (k7 : Int)) := (hout34 5 rfl).trans hf18
          exact OpX.val (Value.int .i64 (k7 : Int)) wd32 rfl (op_move e37) (Ext.refl _) ⟨rfl, hr19⟩
        · refine ObX.op rfl ?_
          intro f38 wd39 he40 hout41 hphi42
          have hS43 : St w wd39 [] := St.extend hS20 he40
          obtain ⟨S44, hS45, hf46⟩ := hphi42 0 17 _ rfl rfl rfl
          have e47 : f38 17 = v_a := hf46
          obtain ⟨S48, hS49, hf50⟩ := hphi42 1 18 _ rfl rfl rfl
          obtain ⟨e51, hr52⟩ : f38 18 = (Value.int .i64 (k7 : Int)) ∧ InR .i64 (k7 : Int) := hf50
          exact OpX.val (Value.pointer (some (elA v_a ((k7 : Int)).toNat))) wd39 rfl (op_idx sl_57 (Ty.lift _ hS43.ext r_a) e47 e51 ha54 hb55) (Ext.refl _) rfl
        · refine ObX.op rfl ?_
          intro f57 wd58 he59 hout60 hphi61
          have hS62 : St w wd58 [] := St.extend hS20 he59
          obtain ⟨S63, hS64, hf65⟩ := hphi61 2 19 _ rfl rfl rfl
          have e66 : f57 19 = (Value.pointer (some (elA v_a ((k7 : Int)).toNat))) := hf65
          exact OpX.val u67 wd58 rfl (op_load one_35 e66 (Ext.cell hS62.ext hc68)) (Ext.refl _) rfl
        · refine ObX.op rfl ?_
          intro f70 wd71 he72 hout73 hphi74
          have hS75 : St w wd71 [] := St.extend hS20 he72
          have e76 : f70 1 = v_b := (hout73 1 rfl).trans hf17
          exact OpX.val v_b wd71 rfl (op_move e76) (Ext.refl _) rfl
        · refine ObX.op rfl ?_
          intro f77 wd78 he79 hout80 hphi81
          have hS82 : St w wd78 [] := St.extend hS20 he79
          have e83 : f77 5 = (Value.int .i64 (k7 : Int)) := (hout80 5 rfl).trans hf18
          exact OpX.val (Value.int .i64 (k7 : Int)) wd78 rfl (op_move e83) (Ext.refl _) ⟨rfl, hr19⟩
        · refine ObX.op rfl ?_
          intro f84 wd85 he86 hout87 hphi88
          have hS89 : St w wd85 [] := St.extend hS20 he86
          obtain ⟨S90, hS91, hf92⟩ := hphi88 4 21 _ rfl rfl rfl
          have e93 : f84 21 = v_b := hf92
          obtain ⟨S94, hS95, hf96⟩ := hphi88 5 22 _ rfl rfl rfl
          obtain ⟨e97, hr98⟩ : f84 22 = (Value.int .i64 (k7 : Int)) ∧ InR .i64 (k7 : Int) := hf96
          exact OpX.val (Value.pointer (some (elA v_b ((k7 : Int)).toNat))) wd85 rfl (op_idx sl_57 (Ty.lift _ hS89.ext r_b) e93 e97 ha100 hb101) (Ext.refl _) rfl
        · refine ObX.op rfl ?_
          intro f103 wd104 he105 hout106 hphi107
          have hS108 : St w wd104 [] := St.extend hS20 he105
          obtain ⟨S109, hS110, hf111⟩ := hphi107 6 23 _ rfl rfl rfl
          have e112 : f103 23 = (Value.pointer (some (elA v_b ((k7 : Int)).toNat))) := hf111
          exact OpX.val u113 wd104 rfl (op_load one_35 e112 (Ext.cell hS108.ext hc114)) (Ext.refl _) rfl
        · intro f116 wd117 Ss118 he119 hout120 hSn121 hSd122 hphi123
          show WL _ _ _ _ _ _ _
          have hS124 : St w wd117 [] := St.extend hS20 he119
          have e125 : f116 20 = u67 := hphi123 3 20 _ (by decide) rfl rfl
          have e126 : f116 24 = u113 := hphi123 7 24 _ (by decide) rfl rfl
          have e127 : f116 0 = v_a := (hout120 0 rfl).trans hf16
          have e128 : f116 1 = v_b := (hout120 1 rfl).trans hf17
          have e129 : f116 5 = (Value.int .i64 (k7 : Int)) := (hout120 5 rfl).trans hf18
          obtain ⟨x130, hx131, hb12⟩ := bs hb12
          refine WL.call _ (op_call fn_21 (args2 e125 e126)) (c_laws_eqInt64S (Ty.lift _ hS124.ext hr69) (Ty.lift _ hS124.ext hr115) hx131) rfl ?_
          rintro _ wd132 ⟨rfl, he133⟩
          have hS135 := St.extend hS124 he133
          replace hS135 : St w wd132 [] := hS135
          refine WL.val (Value.bool (!x130)) _ (op_not rfl) rfl ?_
          refine WL.nil ?_
          show W _ _ _ _ _ _
          refine W.cond (!x130) rfl (fun hc136 => ?_) (fun hc136 => ?_)
          · replace hb12 := ip hb12 hc136
            refine W.seq (W.region ?_)
            refine WL.val (Value.bool false) _ (op_assign rfl) rfl ?_
            refine WL.nil ?_
            show W _ _ _ _ _ _
            refine W.ret ?_
            obtain rfl := Option.some.inj hb12
            obtain rfl := hret15 _ rfl
            replace h := onRes_ret h
            obtain rfl := Option.some.inj h
            show FinP _ _ _ _ _ _ _
            exact FinP.ret _ (res1 rfl rfl) ⟨rfl, hS135.ext⟩
          · replace hb12 := inegb hb12 hc136
            refine W.skip ?_
            show W _ _ _ _ _ _
            refine W.region ?_
            refine WL.val (Value.int .i64 (k7 : Int)) _ (op_move e129) rfl ?_
            refine WL.val (Value.int .i64 (w64 ((k7 : Int) + (1 : Int)))) _ (op_add rfl rfl) rfl ?_
            refine WL.val (Value.int .i64 (w64 ((k7 : Int) + (1 : Int)))) _ (op_assign rfl) rfl ?_
            refine WL.nil ?_
            obtain rfl := Option.some.inj hb12
            show ∃ s, _ = Ctl.next s ∧ _
            exact ⟨_, rfl, e127, e128, (ctr_next hl22 hr21), (ctr_rng hl22 hr21), hS135⟩
      · intro s143 f139 wd140 hs141 hI142
        obtain ⟨⟩ := s143
        replace hI142 : f139 0 = v_a ∧ f139 1 = v_b ∧ f139 5 = Value.int .i64 (((a).length : Nat) : Int) ∧ InR .i64 (((a).length : Nat) : Int) ∧ St w wd140 [] := hI142
        obtain ⟨hf144, hf145, hf146, hr147, hS148⟩ := hI142
        refine W.seq (W.seq (W.region ?_))
        refine WL.val (Value.int .i64 (((a).length : Nat) : Int)) _ (op_move hf146) rfl ?_
        refine WL.val v_a _ (op_move hf144) rfl ?_
        have hr149 := inR_len (Ty.lift _ hS148.ext r_a)
        refine WL.val (Value.int .i64 ((a).length : Int)) _ (op_lenL sl_57 (Ty.lift _ hS148.ext r_a) rfl) rfl ?_
        refine WL.val (Value.bool (decide ((((a).length : Nat) : Int) < ((a).length : Int)))) _ (op_lss rfl rfl) rfl ?_
        have hl150 : ¬ (((a).length : Nat) : Int) < ((a).length : Int) := by omega
        refine WL.nil ?_
        show W _ _ _ _ _ _
        refine W.condF (decide ((((a).length : Nat) : Int) < ((a).length : Int))) rfl (decide_eq_false hl150) ?_
        refine W.exit ?_
        show _ = _ ∧ _
        exact ⟨rfl, _, hs141, hS148⟩
    · rintro f151 wd152 ⟨s154, rfl, hq153⟩
      replace h := onRes_fin h
      obtain ⟨⟩ := s154
      replace hq153 : St w wd152 [] := hq153
      have hS155 := hq153
      show W _ _ _ _ _ _
      refine W.seq (W.region ?_)
      refine WL.val (Value.bool true) _ (op_assign rfl) rfl ?_
      refine WL.nil ?_
      show W _ _ _ _ _ _
      refine W.ret ?_
      obtain rfl := Option.some.inj h
      show FinP _ _ _ _ _ _ _
      exact FinP.ret _ (res1 rfl rfl) ⟨rfl, hS155.ext⟩

theorem c_laws_eqInt64SSS {w : World} {a : (List (List (List Int)))} {v_a : Value} {b : (List (List (List Int)))} {v_b : Value} (r_a : (Ty.sl (Ty.sl (Ty.sl (Ty.i .i64)))).rep w v_a a) (r_b : (Ty.sl (Ty.sl (Ty.sl (Ty.i .i64)))).rep w v_b b) {res : Bool} (h : p_laws_eqInt64SSS a b  = some res) :
    Ret Try.prog 40 #[v_a, v_b] w (fun v w' => v = Value.bool res ∧ Ext w w') := by
  unfold p_laws_eqInt64SSS at h
  have hS0 : St w w [] := St.start w
  refine Ret.start (fn := Try.f40) Try.func40 rfl 27 rfl rfl ?_
  refine W.seq (W.region ?_)
  refine WL.val (Value.bool false) _ (op_assign rfl) rfl ?_
  refine WL.nil ?_
  show W _ _ _ _ _ _
  refine W.seq (W.seq (W.region ?_))
  refine WL.val v_a _ (op_move rfl) rfl ?_
  have hr1 := inR_len (Ty.lift _ hS0.ext r_a)
  refine WL.val (Value.int .i64 ((a).length : Int)) _ (op_lenL sl_22 (Ty.lift _ hS0.ext r_a) rfl) rfl ?_
  refine WL.val v_b _ (op_move rfl) rfl ?_
  have hr2 := inR_len (Ty.lift _ hS0.ext r_b)
  refine WL.val (Value.int .i64 ((b).length : Int)) _ (op_lenL sl_22 (Ty.lift _ hS0.ext r_b) rfl) rfl ?_
  refine WL.val (Value.bool (((a).length : Int) != ((b).length : Int))) _ (op_neq rfl rfl) rfl ?_
  refine WL.nil ?_
  show W _ _ _ _ _ _
  refine W.cond (((a).length : Int) != ((b).length : Int)) rfl (fun hc3 => ?_) (fun hc3 => ?_)
  · replace h := ip h hc3
    refine W.seq (W.region ?_)
    refine WL.val (Value.bool false) _ (op_assign rfl) rfl ?_
    refine WL.nil ?_
    show W _ _ _ _ _ _
    refine W.ret ?_
    obtain rfl := Option.some.inj h
    show FinP _ _ _ _ _ _ _
    exact FinP.ret _ (res1 rfl rfl) ⟨rfl, hS0.ext⟩
  · replace h := inegb h hc3
    refine W.skip ?_
    show W _ _ _ _ _ _
    refine W.seq (W.seq (W.region ?_))
    refine WL.val (Value.int .i64 (0 : Int)) _ (op_assign rfl) rfl ?_
    refine WL.nil ?_
    show W _ _ _ _ _ _
    obtain ⟨res5, hres6, h⟩ := bs h
    refine W.blockLoop (fun fq wq => ∃ s, res5 = Res.fin s ∧ St w wq []) ?_ ?_
    · refine W.forN (fun k (s : Unit) fq wq => fq 0 = v_a ∧ fq 1 = v_b ∧ fq 5 = Value.int .i64 (k : Int) ∧ InR .i64 (k : Int) ∧ St w wq []) hres6 ⟨rfl, rfl, rfl, (inR_i64.2 (show (-9223372036854775808 : Int) ≤ 0 ∧ (0 : Int) ≤ 9223372036854775807 from by decide)), hS0⟩ ?_ ?_
      · intro k7 s138 ct8 f9 wd10 hk11 hb12 hI13 hbrk14 hret15
        obtain ⟨⟩ := s138
        replace hI13 : f9 0 = v_a ∧ f9 1 = v_b ∧ f9 5 = Value.int .i64 (k7 : Int) ∧ InR .i64 (k7 : Int) ∧ St w wd10 [] := hI13
        replace hb12 : p_laws_eqInt64SSS_L1 a b k7  = some ct8 := hb12
        unfold p_laws_eqInt64SSS_L1 at hb12
        obtain ⟨hf16, hf17, hf18, hr19, hS20⟩ := hI13
        refine W.seq (W.seq (W.region ?_))
        refine WL.val (Value.int .i64 (k7 : Int)) _ (op_move hf18) rfl ?_
        refine WL.val v_a _ (op_move hf16) rfl ?_
        have hr21 := inR_len (Ty.lift _ hS20.ext r_a)
        refine WL.val (Value.int .i64 ((a).length : Int)) _ (op_lenL sl_22 (Ty.lift _ hS20.ext r_a) rfl) rfl ?_
        refine WL.val (Value.bool (decide ((k7 : Int) < ((a).length : Int)))) _ (op_lss rfl rfl) rfl ?_
        have hl22 : (k7 : Int) < ((a).length : Int) := by omega
        refine WL.nil ?_
        show W _ _ _ _ _ _
        refine W.condT (decide ((k7 : Int) < ((a).length : Int))) rfl (decide_eq_true hl22) ?_
        refine W.skip ?_
        show W _ _ _ _ _ _
        refine W.seq ?_
        refine W.block ?_
        refine W.seq ?_
        obtain ⟨x53, hx56, hb12⟩ := bs hb12
        obtain ⟨ha54, hb55, hx56⟩ := idx_some hx56
        obtain ⟨u67, hc68, hr69⟩ := repSl.el r_a hx56
        obtain ⟨x99, hx102, hb12⟩ := bs hb12
        obtain ⟨ha100, hb101, hx102⟩ := idx_some hx102
        obtain ⟨u113, hc114, hr115⟩ := repSl.el r_b hx102
        refine W.drawR mixo 8 [] [fun _ v _ _ => v = v_a, fun _ v _ _ => v = (Value.int .i64 (k7 : Int)) ∧ InR .i64 (k7 : Int), fun _ v _ _ => v = (Value.pointer (some (elA v_a ((k7 : Int)).toNat))), fun _ v _ _ => v = u67, fun _ v _ _ => v = v_b, fun _ v _ _ => v = (Value.int .i64 (k7 : Int)) ∧ InR .i64 (k7 : Int), fun _ v _ _ => v = (Value.pointer (some (elA v_b ((k7 : Int)).toNat))), fun _ v _ _ => v = u113] (by kernel_rfl) (by kernel_rfl) ⟨⟨fun _ _ _ _ _ _ h => h, fun _ _ _ _ _ _ h => h⟩, ⟨fun _ _ _ _ _ _ h => h, fun _ _ _ _ _ _ h => h⟩, ⟨fun _ _ _ _ _ _ h => h, fun _ _ _ _ _ _ h => h⟩, ⟨fun _ _ _ _ _ _ h => h, fun _ _ _ _ _ _ h => h⟩, ⟨fun _ _ _ _ _ _ h => h, fun _ _ _ _ _ _ h => h⟩, ⟨fun _ _ _ _ _ _ h => h, fun _ _ _ _ _ _ h => h⟩, ⟨fun _ _ _ _ _ _ h => h, fun _ _ _ _ _ _ h => h⟩, ⟨fun _ _ _ _ _ _ h => h, fun _ _ _ _ _ _ h => h⟩, trivial⟩ ⟨?_, ?_, ?_, ?_, ?_, ?_, ?_, ?_, trivial⟩ ?_
        · refine ObX.op rfl ?_
          intro f24 wd25 he26 hout27 hphi28
          have hS29 : St w wd25 [] := St.extend hS20 he26
          have e30 : f24 0 = v_a := (hout27 0 rfl).trans hf16
          exact OpX.val v_a wd25 rfl (op_move e30) (Ext.refl _) rfl
        · refine ObX.op rfl ?_
          intro f31 wd32 he33 hout34 hphi35
          have hS36 : St w wd32 [] := St.extend hS20 he33
          have e37 : f31 5 = (Value.int .i64 (k7 : Int)) := (hout34 5 rfl).trans hf18
          exact OpX.val (Value.int .i64 (k7 : Int)) wd32 rfl (op_move e37) (Ext.refl _) ⟨rfl, hr19⟩
        · refine ObX.op rfl ?_
          intro f38 wd39 he40 hout41 hphi42
          have hS43 : St w wd39 [] := St.extend hS20 he40
          obtain ⟨S44, hS45, hf46⟩ := hphi42 0 17 _ rfl rfl rfl
          have e47 : f38 17 = v_a := hf46
          obtain ⟨S48, hS49, hf50⟩ := hphi42 1 18 _ rfl rfl rfl
          obtain ⟨e51, hr52⟩ : f38 18 = (Value.int .i64 (k7 : Int)) ∧ InR .i64 (k7 : Int) := hf50
          exact OpX.val (Value.pointer (some (elA v_a ((k7 : Int)).toNat))) wd39 rfl (op_idx sl_22 (Ty.lift _ hS43.ext r_a) e47 e51 ha54 hb55) (Ext.refl _) rfl
        · refine ObX.op rfl ?_
          intro f57 wd58 he59 hout60 hphi61
          have hS62 : St w wd58 [] := St.extend hS20 he59
          obtain ⟨S63, hS64, hf65⟩ := hphi61 2 19 _ rfl rfl rfl
          have e66 : f57 19 = (Value.pointer (some (elA v_a ((k7 : Int)).toNat))) := hf65
          exact OpX.val u67 wd58 rfl (op_load one_57 e66 (Ext.cell hS62.ext hc68)) (Ext.refl _) rfl
        · refine ObX.op rfl ?_
          intro f70 wd71 he72 hout73 hphi74
          have hS75 : St w wd71 [] := St.extend hS20 he72
          have e76 : f70 1 = v_b := (hout73 1 rfl).trans hf17
          exact OpX.val v_b wd71 rfl (op_move e76) (Ext.refl _) rfl
        · refine ObX.op rfl ?_
          intro f77 wd78 he79 hout80 hphi81
          have hS82 : St w wd78 [] := St.extend hS20 he79
          have e83 : f77 5 = (Value.int .i64 (k7 : Int)) := (hout80 5 rfl).trans hf18
          exact OpX.val (Value.int .i64 (k7 : Int)) wd78 rfl (op_move e83) (Ext.refl _) ⟨rfl, hr19⟩
        · refine ObX.op rfl ?_
          intro f84 wd85 he86 hout87 hphi88
          have hS89 : St w wd85 [] := St.extend hS20 he86
          obtain ⟨S90, hS91, hf92⟩ := hphi88 4 21 _ rfl rfl rfl
          have e93 : f84 21 = v_b := hf92
          obtain ⟨S94, hS95, hf96⟩ := hphi88 5 22 _ rfl rfl rfl
          obtain ⟨e97, hr98⟩ : f84 22 = (Value.int .i64 (k7 : Int)) ∧ InR .i64 (k7 : Int) := hf96
          exact OpX.val (Value.pointer (some (elA v_b ((k7 : Int)).toNat))) wd85 rfl (op_idx sl_22 (Ty.lift _ hS89.ext r_b) e93 e97 ha100 hb101) (Ext.refl _) rfl
        · refine ObX.op rfl ?_
          intro f103 wd104 he105 hout106 hphi107
          have hS108 : St w wd104 [] := St.extend hS20 he105
          obtain ⟨S109, hS110, hf111⟩ := hphi107 6 23 _ rfl rfl rfl
          have e112 : f103 23 = (Value.pointer (some (elA v_b ((k7 : Int)).toNat))) := hf111
          exact OpX.val u113 wd104 rfl (op_load one_57 e112 (Ext.cell hS108.ext hc114)) (Ext.refl _) rfl
        · intro f116 wd117 Ss118 he119 hout120 hSn121 hSd122 hphi123
          show WL _ _ _ _ _ _ _
          have hS124 : St w wd117 [] := St.extend hS20 he119
          have e125 : f116 20 = u67 := hphi123 3 20 _ (by decide) rfl rfl
          have e126 : f116 24 = u113 := hphi123 7 24 _ (by decide) rfl rfl
          have e127 : f116 0 = v_a := (hout120 0 rfl).trans hf16
          have e128 : f116 1 = v_b := (hout120 1 rfl).trans hf17
          have e129 : f116 5 = (Value.int .i64 (k7 : Int)) := (hout120 5 rfl).trans hf18
          obtain ⟨x130, hx131, hb12⟩ := bs hb12
          refine WL.call _ (op_call fn_68 (args2 e125 e126)) (c_laws_eqInt64SS (Ty.lift _ hS124.ext hr69) (Ty.lift _ hS124.ext hr115) hx131) rfl ?_
          rintro _ wd132 ⟨rfl, he133⟩
          have hS135 := St.extend hS124 he133
          replace hS135 : St w wd132 [] := hS135
          refine WL.val (Value.bool (!x130)) _ (op_not rfl) rfl ?_
          refine WL.nil ?_
          show W _ _ _ _ _ _
          refine W.cond (!x130) rfl (fun hc136 => ?_) (fun hc136 => ?_)
          · replace hb12 := ip hb12 hc136
            refine W.seq (W.region ?_)
            refine WL.val (Value.bool false) _ (op_assign rfl) rfl ?_
            refine WL.nil ?_
            show W _ _ _ _ _ _
            refine W.ret ?_
            obtain rfl := Option.some.inj hb12
            obtain rfl := hret15 _ rfl
            replace h := onRes_ret h
            obtain rfl := Option.some.inj h
            show FinP _ _ _ _ _ _ _
            exact FinP.ret _ (res1 rfl rfl) ⟨rfl, hS135.ext⟩
          · replace hb12 := inegb hb12 hc136
            refine W.skip ?_
            show W _ _ _ _ _ _
            refine W.region ?_
            refine WL.val (Value.int .i64 (k7 : Int)) _ (op_move e129) rfl ?_
            refine WL.val (Value.int .i64 (w64 ((k7 : Int) + (1 : Int)))) _ (op_add rfl rfl) rfl ?_
            refine WL.val (Value.int .i64 (w64 ((k7 : Int) + (1 : Int)))) _ (op_assign rfl) rfl ?_
            refine WL.nil ?_
            obtain rfl := Option.some.inj hb12
            show ∃ s, _ = Ctl.next s ∧ _
            exact ⟨_, rfl, e127, e128, (ctr_next hl22 hr21), (ctr_rng hl22 hr21), hS135⟩
      · intro s143 f139 wd140 hs141 hI142
        obtain ⟨⟩ := s143
        replace hI142 : f139 0 = v_a ∧ f139 1 = v_b ∧ f139 5 = Value.int .i64 (((a).length : Nat) : Int) ∧ InR .i64 (((a).length : Nat) : Int) ∧ St w wd140 [] := hI142
        obtain ⟨hf144, hf145, hf146, hr147, hS148⟩ := hI142
        refine W.seq (W.seq (W.region ?_))
        refine WL.val (Value.int .i64 (((a).length : Nat) : Int)) _ (op_move hf146) rfl ?_
        refine WL.val v_a _ (op_move hf144) rfl ?_
        have hr149 := inR_len (Ty.lift _ hS148.ext r_a)
        refine WL.val (Value.int .i64 ((a).length : Int)) _ (op_lenL sl_22 (Ty.lift _ hS148.ext r_a) rfl) rfl ?_
        refine WL.val (Value.bool (decide ((((a).length : Nat) : Int) < ((a).length : Int)))) _ (op_lss rfl rfl) rfl ?_
        have hl150 : ¬ (((a).length : Nat) : Int) < ((a).length : Int) := by omega
        refine WL.nil ?_
        show W _ _ _ _ _ _
        refine W.condF (decide ((((a).length : Nat) : Int) < ((a).length : Int))) rfl (decide_eq_false hl150) ?_
        refine W.exit ?_
        show _ = _ ∧ _
        exact ⟨rfl, _, hs141, hS148⟩
    · rintro f151 wd152 ⟨s154, rfl, hq153⟩
      replace h := onRes_fin h
      obtain ⟨⟩ := s154
      replace hq153 : St w wd152 [] := hq153
      have hS155 := hq153
      show W _ _ _ _ _ _
      refine W.seq (W.region ?_)
      refine WL.val (Value.bool true) _ (op_assign rfl) rfl ?_
      refine WL.nil ?_
      show W _ _ _ _ _ _
      refine W.ret ?_
      obtain rfl := Option.some.inj h
      show FinP _ _ _ _ _ _ _
      exact FinP.ret _ (res1 rfl rfl) ⟨rfl, hS155.ext⟩

theorem c_laws_eqRing {w : World} {a_Table : (List (List (List Int)))} {v_a_Table : Value} {b_Table : (List (List (List Int)))} {v_b_Table : Value} (r_a_Table : (Ty.sl (Ty.sl (Ty.sl (Ty.i .i64)))).rep w v_a_Table a_Table) (r_b_Table : (Ty.sl (Ty.sl (Ty.sl (Ty.i .i64)))).rep w v_b_Table b_Table) {res : Bool} (h : p_laws_eqRing a_Table b_Table  = some res) :
    Ret Try.prog 14 #[(Value.agg #[v_a_Table]), (Value.agg #[v_b_Table])] w (fun v w' => v = Value.bool res ∧ Ext w w') := by
  unfold p_laws_eqRing at h
  have hS0 : St w w [] := St.start w
  refine Ret.start (fn := Try.f14) Try.func14 rfl 11 rfl rfl ?_
  refine W.seq (W.region ?_)
  refine WL.box hS0 rfl (cs := [v_a_Table]) rfl rfl ?_
  intro b1 wd2 hS3 he4 hx5
  replace hS3 : St w wd2 [bx b1 [v_a_Table]] := hS3
  have hx6 := St.boxAt hS3 0 rfl
  have hE7 : Ext w wd2 := hS3.ext
  have hS8 : St wd2 wd2 [] := St.start wd2
  refine WL.box hS8 rfl (cs := [v_b_Table]) rfl rfl ?_
  intro b9 wd10 hS11 he12 hx13
  replace hS11 : St wd2 wd10 [bx b9 [v_b_Table]] := hS11
  have hx14 := St.boxAt hS11 0 rfl
  have hE15 : Ext w wd10 := (Ext.trans hE7 hS11.ext)
  have hE16 : Ext wd2 wd10 := hS11.ext
  have hS17 : St wd10 wd10 [] := St.start wd10
  refine WL.val (Value.bool false) _ (op_assign rfl) rfl ?_
  refine WL.nil ?_
  show W _ _ _ _ _ _
  refine W.seq (W.seq (W.region ?_))
  refine WL.val (Value.pointer (some ⟨b1, 0, none⟩)) _ (op_fieldAddr fd_26_0 rfl) rfl ?_
  refine WL.val v_a_Table _ (op_load one_22 rfl (BoxAt.cell (BoxAt.lift (Ext.trans hE16 hS17.ext) hx6) rfl)) rfl ?_
  refine WL.val (Value.pointer (some ⟨b9, 0, none⟩)) _ (op_fieldAddr fd_26_0 rfl) rfl ?_
  refine WL.val v_b_Table _ (op_load one_22 rfl (BoxAt.cell (BoxAt.lift hS17.ext hx14) rfl)) rfl ?_
  obtain ⟨x18, hx19, h⟩ := bs h
  refine WL.call _ (op_call fn_40 (args2 rfl rfl)) (c_laws_eqInt64SSS (Ty.lift _ (Ext.trans hE15 hS17.ext) r_a_Table) (Ty.lift _ (Ext.trans hE15 hS17.ext) r_b_Table) hx19) rfl ?_
  rintro _ wd20 ⟨rfl, he21⟩
  have hS23 := St.extend hS17 he21
  replace hS23 : St wd10 wd20 [] := hS23
  refine WL.val (Value.bool (!x18)) _ (op_not rfl) rfl ?_
  refine WL.nil ?_
  show W _ _ _ _ _ _
  refine W.cond (!x18) rfl (fun hc24 => ?_) (fun hc24 => ?_)
  · replace h := ip h hc24
    refine W.seq (W.region ?_)
    refine WL.val (Value.bool false) _ (op_assign rfl) rfl ?_
    refine WL.nil ?_
    show W _ _ _ _ _ _
    refine W.ret ?_
    obtain rfl := Option.some.inj h
    show FinP _ _ _ _ _ _ _
    exact FinP.ret _ (res1 rfl rfl) ⟨rfl, (Ext.trans hE15 hS23.ext)⟩
  · replace h := inegb h hc24
    refine W.skip ?_
    show W _ _ _ _ _ _
    refine W.seq (W.region ?_)
    refine WL.val (Value.bool true) _ (op_assign rfl) rfl ?_
    refine WL.nil ?_
    show W _ _ _ _ _ _
    refine W.ret ?_
    obtain rfl := Option.some.inj h
    show FinP _ _ _ _ _ _ _
    exact FinP.ret _ (res1 rfl rfl) ⟨rfl, (Ext.trans hE15 hS23.ext)⟩

theorem c_laws_markInt64S {w : World} {a : (List Int)} {v_a : Value} {k1 : Int} {w0 : World} {R : Ent} (hS0 : St w0 w [(Ty.sl (Ty.i .i64)).at v_a a, R]) (r_k1 : InR .i64 k1) {res : Int × (List Int)} (h : p_laws_markInt64S a k1  = some res) :
    Ret Try.prog 22 #[v_a, (Value.int .i64 k1)] w (fun v w' => v = Value.int .i64 res.1 ∧ InR .i64 res.1 ∧ St w0 w' [(Ty.sl (Ty.i .i64)).at v_a res.2, R]) := by
  unfold p_laws_markInt64S at h
  refine Ret.start (fn := Try.f22) Try.func22 rfl 19 rfl rfl ?_
  refine W.seq (W.region ?_)
  refine WL.val (Value.int .i64 (0 : Int)) _ (op_assign rfl) rfl ?_
  refine WL.nil ?_
  show W _ _ _ _ _ _
  refine W.seq (W.seq (W.region ?_))
  refine WL.val (Value.int .i64 (0 : Int)) _ (op_assign rfl) rfl ?_
  refine WL.nil ?_
  show W _ _ _ _ _ _
  obtain ⟨res1, hres2, h⟩ := bs h
  refine W.blockLoop (fun fq wq => ∃ s, res1 = Res.fin s ∧ fq 1 = Value.int .i64 s.2 ∧ InR .i64 s.2 ∧ (s.1).length = (a).length ∧ St w0 wq [(Ty.sl (Ty.i .i64)).at v_a s.1, R]) ?_ ?_
  · refine W.forN (fun k (s : (List Int) × Int) fq wq => fq 0 = v_a ∧ fq 1 = Value.int .i64 s.2 ∧ InR .i64 s.2 ∧ fq 5 = Value.int .i64 (k : Int) ∧ InR .i64 (k : Int) ∧ (s.1).length = (a).length ∧ St w0 wq [(Ty.sl (Ty.i .i64)).at v_a s.1, R]) hres2 ⟨rfl, rfl, r_k1, rfl, (inR_i64.2 (show (-9223372036854775808 : Int) ≤ 0 ∧ (0 : Int) ≤ 9223372036854775807 from by decide)), rfl, hS0⟩ ?_ ?_
    · intro k3 s30 ct6 f7 wd8 hk9 hb10 hI11 hbrk12 hret13
      obtain ⟨x4, x5⟩ := s30
      replace hI11 : f7 0 = v_a ∧ f7 1 = Value.int .i64 x5 ∧ InR .i64 x5 ∧ f7 5 = Value.int .i64 (k3 : Int) ∧ InR .i64 (k3 : Int) ∧ (x4).length = (a).length ∧ St w0 wd8 [(Ty.sl (Ty.i .i64)).at v_a x4, R] := hI11
      replace hb10 : p_laws_markInt64S_L1  k3 x4 x5 = some ct6 := hb10
      unfold p_laws_markInt64S_L1 at hb10
      obtain ⟨hf14, hf15, hr16, hf17, hr18, hL19, hS20⟩ := hI11
      refine W.seq (W.seq (W.region ?_))
      refine WL.val (Value.int .i64 (k3 : Int)) _ (op_move hf17) rfl ?_
      refine WL.val v_a _ (op_move hf14) rfl ?_
      have hr21 := inR_len (St.rep (t := (Ty.sl (Ty.i .i64))) hS20 0 rfl)
      refine WL.val (Value.int .i64 ((x4).length : Int)) _ (op_lenL sl_35 (St.rep (t := (Ty.sl (Ty.i .i64))) hS20 0 rfl) rfl) rfl ?_
      refine WL.val (Value.bool (decide ((k3 : Int) < ((x4).length : Int)))) _ (op_lss rfl rfl) rfl ?_
      have hl22 : (k3 : Int) < ((x4).length : Int) := by omega
      refine WL.nil ?_
      show W _ _ _ _ _ _
      refine W.condT (decide ((k3 : Int) < ((x4).length : Int))) rfl (decide_eq_true hl22) ?_
      refine W.skip ?_
      show W _ _ _ _ _ _
      refine W.seq ?_
      refine W.block ?_
      refine W.seq (W.region ?_)
      refine WL.val v_a _ (op_move hf14) rfl ?_
      refine WL.val (Value.int .i64 (k3 : Int)) _ (op_move hf17) rfl ?_
      refine WL.val (Value.int .i64 x5) _ (op_move hf15) rfl ?_
      obtain ⟨x24, hx27, hb10⟩ := bs hb10
      obtain ⟨ha25, hb26, hx27⟩ := idx_some hx27
      refine WL.val (Value.pointer (some (elA v_a ((k3 : Int)).toNat))) _ (op_idx sl_35 (St.rep (t := (Ty.sl (Ty.i .i64))) hS20 0 rfl) rfl rfl ha25 hb26) rfl ?_
      refine WL.storeEl (flat_i .i64) hS20 (k := 0) rfl sz_2 rfl rfl (lt_of_idx ha25 hb26) ⟨rfl, hr16⟩ ?_
      intro wd28 hS29
      replace hS29 : St w0 wd28 [(Ty.sl (Ty.i .i64)).at v_a ((x4).set ((k3 : Int)).toNat x5), R] := hS29
      refine WL.nil ?_
      show W _ _ _ _ _ _
      refine W.region ?_
      refine WL.val (Value.int .i64 x5) _ (op_move hf15) rfl ?_
      refine WL.val (Value.int .i64 (w64 (x5 + (1 : Int)))) _ (op_add rfl rfl) rfl ?_
      refine WL.val (Value.int .i64 (w64 (x5 + (1 : Int)))) _ (op_assign rfl) rfl ?_
      refine WL.nil ?_
      show W _ _ _ _ _ _
      refine W.region ?_
      refine WL.val (Value.int .i64 (k3 : Int)) _ (op_move hf17) rfl ?_
      refine WL.val (Value.int .i64 (w64 ((k3 : Int) + (1 : Int)))) _ (op_add rfl rfl) rfl ?_
      refine WL.val (Value.int .i64 (w64 ((k3 : Int) + (1 : Int)))) _ (op_assign rfl) rfl ?_
      refine WL.nil ?_
      obtain rfl := Option.some.inj hb10
      show ∃ s, _ = Ctl.next s ∧ _
      exact ⟨_, rfl, hf14, rfl, (inR_wrap _ _), (ctr_next hl22 hr21), (ctr_rng hl22 hr21), (by first | exact hL19 | (simp only [List.length_set]; exact hL19)), hS29⟩
    · intro s35 f31 wd32 hs33 hI34
      obtain ⟨x36, x37⟩ := s35
      replace hI34 : f31 0 = v_a ∧ f31 1 = Value.int .i64 x37 ∧ InR .i64 x37 ∧ f31 5 = Value.int .i64 (((a).length : Nat) : Int) ∧ InR .i64 (((a).length : Nat) : Int) ∧ (x36).length = (a).length ∧ St w0 wd32 [(Ty.sl (Ty.i .i64)).at v_a x36, R] := hI34
      obtain ⟨hf38, hf39, hr40, hf41, hr42, hL43, hS44⟩ := hI34
      refine W.seq (W.seq (W.region ?_))
      refine WL.val (Value.int .i64 (((a).length : Nat) : Int)) _ (op_move hf41) rfl ?_
      refine WL.val v_a _ (op_move hf38) rfl ?_
      have hr45 := inR_len (St.rep (t := (Ty.sl (Ty.i .i64))) hS44 0 rfl)
      refine WL.val (Value.int .i64 ((x36).length : Int)) _ (op_lenL sl_35 (St.rep (t := (Ty.sl (Ty.i .i64))) hS44 0 rfl) rfl) rfl ?_
      refine WL.val (Value.bool (decide ((((a).length : Nat) : Int) < ((x36).length : Int)))) _ (op_lss rfl rfl) rfl ?_
      have hl46 : ¬ (((a).length : Nat) : Int) < ((x36).length : Int) := by omega
      refine WL.nil ?_
      show W _ _ _ _ _ _
      refine W.condF (decide ((((a).length : Nat) : Int) < ((x36).length : Int))) rfl (decide_eq_false hl46) ?_
      refine W.exit ?_
      show _ = _ ∧ _
      exact ⟨rfl, _, hs33, hf39, hr40, (by first | exact hL43 | (simp only [List.length_set]; exact hL43)), hS44⟩
  · rintro f47 wd48 ⟨s50, rfl, hq49⟩
    replace h := onRes_fin h
    obtain ⟨x51, x52⟩ := s50
    replace hq49 : f47 1 = Value.int .i64 x52 ∧ InR .i64 x52 ∧ (x51).length = (a).length ∧ St w0 wd48 [(Ty.sl (Ty.i .i64)).at v_a x51, R] := hq49
    replace h : (_ : Option _) = _ := h
    dsimp only at h
    obtain ⟨hf53, hr54, hL55, hS56⟩ := hq49
    show W _ _ _ _ _ _
    refine W.seq (W.region ?_)
    refine WL.val (Value.int .i64 x52) _ (op_move hf53) rfl ?_
    refine WL.val (Value.int .i64 x52) _ (op_assign rfl) rfl ?_
    refine WL.nil ?_
    show W _ _ _ _ _ _
    refine W.ret ?_
    obtain rfl := Option.some.inj h
    show FinP _ _ _ _ _ _ _
    exact FinP.ret _ (res1 rfl rfl) ⟨rfl, hr54, (St.pick hS56 [0, 1] rfl)⟩

theorem c_laws_markInt64SS {w : World} {a : (List (List Int))} {v_a : Value} {k1 : Int} {w0 : World} {R : Ent} (hS0 : St w0 w [(Ty.sl (Ty.sl (Ty.i .i64))).at v_a a, R]) (r_k1 : InR .i64 k1) {res : Int × (List (List Int))} (h : p_laws_markInt64SS a k1  = some res) :
    Ret Try.prog 69 #[v_a, (Value.int .i64 k1)] w (fun v w' => v = Value.int .i64 res.1 ∧ InR .i64 res.1 ∧ St w0 w' [(Ty.sl (Ty.sl (Ty.i .i64))).at v_a res.2, R]) := by
  unfold p_laws_markInt64SS at h
  refine Ret.start (fn := Try.f69) Try.func69 rfl 19 rfl rfl ?_
  refine W.seq (W.region ?_)
  refine WL.val (Value.int .i64 (0 : Int)) _ (op_assign rfl) rfl ?_
  refine WL.nil ?_
  show W _ _ _ _ _ _
  refine W.seq (W.seq (W.region ?_))
  refine WL.val (Value.int .i64 (0 : Int)) _ (op_assign rfl) rfl ?_
  refine WL.nil ?_
  show W _ _ _ _ _ _
  obtain ⟨res1, hres2, h⟩ := bs h
  refine W.blockLoop (fun fq wq => ∃ s, res1 = Res.fin s ∧ fq 1 = Value.int .i64 s.2 ∧ InR .i64 s.2 ∧ (s.1).length = (a).length ∧ St w0 wq [(Ty.sl (Ty.sl (Ty.i .i64))).at v_a s.1, R]) ?_ ?_
  · refine W.forN (fun k (s : (List (List Int)) × Int) fq wq => fq 0 = v_a ∧ fq 1 = Value.int .i64 s.2 ∧ InR .i64 s.2 ∧ fq 5 = Value.int .i64 (k : Int) ∧ InR .i64 (k : Int) ∧ (s.1).length = (a).length ∧ St w0 wq [(Ty.sl (Ty.sl (Ty.i .i64))).at v_a s.1, R]) hres2 ⟨rfl, rfl, r_k1, rfl, (inR_i64.2 (show (-9223372036854775808 : Int) ≤ 0 ∧ (0 : Int) ≤ 9223372036854775807 from by decide)), rfl, hS0⟩ ?_ ?_
    · intro k3 s40 ct6 f7 wd8 hk9 hb10 hI11 hbrk12 hret13
      obtain ⟨x4, x5⟩ := s40
      replace hI11 : f7 0 = v_a ∧ f7 1 = Value.int .i64 x5 ∧ InR .i64 x5 ∧ f7 5 = Value.int .i64 (k3 : Int) ∧ InR .i64 (k3 : Int) ∧ (x4).length = (a).length ∧ St w0 wd8 [(Ty.sl (Ty.sl (Ty.i .i64))).at v_a x4, R] := hI11
      replace hb10 : p_laws_markInt64SS_L1  k3 x4 x5 = some ct6 := hb10
      unfold p_laws_markInt64SS_L1 at hb10
      obtain ⟨hf14, hf15, hr16, hf17, hr18, hL19, hS20⟩ := hI11
      refine W.seq (W.seq (W.region ?_))
      refine WL.val (Value.int .i64 (k3 : Int)) _ (op_move hf17) rfl ?_
      refine WL.val v_a _ (op_move hf14) rfl ?_
      have hr21 := inR_len (St.rep (t := (Ty.sl (Ty.sl (Ty.i .i64)))) hS20 0 rfl)
      refine WL.val (Value.int .i64 ((x4).length : Int)) _ (op_lenL sl_57 (St.rep (t := (Ty.sl (Ty.sl (Ty.i .i64)))) hS20 0 rfl) rfl) rfl ?_
      refine WL.val (Value.bool (decide ((k3 : Int) < ((x4).length : Int)))) _ (op_lss rfl rfl) rfl ?_
      have hl22 : (k3 : Int) < ((x4).length : Int) := by omega
      refine WL.nil ?_
      show W _ _ _ _ _ _
      refine W.condT (decide ((k3 : Int) < ((x4).length : Int))) rfl (decide_eq_true hl22) ?_
      refine W.skip ?_
      show W _ _ _ _ _ _
      refine W.seq ?_
      refine W.block ?_
      refine W.region ?_
      refine WL.val v_a _ (op_move hf14) rfl ?_
      refine WL.val (Value.int .i64 (k3 : Int)) _ (op_move hf17) rfl ?_
      obtain ⟨x24, hx27, hb10⟩ := bs hb10
      obtain ⟨ha25, hb26, hx27⟩ := idx_some hx27
      refine WL.val (Value.pointer (some (elA v_a ((k3 : Int)).toNat))) _ (op_idx sl_57 (St.rep (t := (Ty.sl (Ty.sl (Ty.i .i64)))) hS20 0 rfl) rfl rfl ha25 hb26) rfl ?_
      obtain ⟨u28, hc29, hr30⟩ := repSl.el (St.rep (t := (Ty.sl (Ty.sl (Ty.i .i64)))) hS20 0 rfl) hx27
      refine WL.val u28 _ (op_load one_35 rfl hc29) rfl ?_
      refine WL.val (Value.int .i64 x5) _ (op_move hf15) rfl ?_
      have hS31 := St.unrow (k := 0) hS20 rfl hx27 hc29
      replace hS31 : St w0 wd8 [holeAt (Ty.sl (Ty.i .i64)) v_a x4 ((k3 : Int)).toNat u28, R, (Ty.sl (Ty.i .i64)).at u28 x24] := hS31
      obtain ⟨x32, hx33, hb10⟩ := bs hb10
      have hS34 := St.fold [(Ty.sl (Ty.i .i64)).at u28 x24] [holeAt (Ty.sl (Ty.i .i64)) v_a x4 ((k3 : Int)).toNat u28, R] (St.pick hS31 [2, 0, 1] rfl)
      refine WL.call _ (op_call fn_22 (args2 rfl rfl)) (c_laws_markInt64S hS34 hr16 hx33) rfl ?_
      rintro _ wd37 ⟨rfl, hr38, hS35⟩
      have hS36 := St.pick (St.unfold [(Ty.sl (Ty.i .i64)).at u28 x32.2] [holeAt (Ty.sl (Ty.i .i64)) v_a x4 ((k3 : Int)).toNat u28, R] hS35) [1, 2, 0] rfl
      replace hS36 : St w0 wd37 [holeAt (Ty.sl (Ty.i .i64)) v_a x4 ((k3 : Int)).toNat u28, R, (Ty.sl (Ty.i .i64)).at u28 x32.2] := hS36
      have hS39 := St.rerow (k := 0) (k2 := 2) hS36 rfl rfl rfl
      replace hS39 : St w0 wd37 [(Ty.sl (Ty.sl (Ty.i .i64))).at v_a ((x4).set ((k3 : Int)).toNat x32.2), R, emp] := hS39
      refine WL.val (Value.int .i64 x32.1) _ (op_assign rfl) rfl ?_
      refine WL.nil ?_
      show W _ _ _ _ _ _
      refine W.region ?_
      refine WL.val (Value.int .i64 (k3 : Int)) _ (op_move hf17) rfl ?_
      refine WL.val (Value.int .i64 (w64 ((k3 : Int) + (1 : Int)))) _ (op_add rfl rfl) rfl ?_
      refine WL.val (Value.int .i64 (w64 ((k3 : Int) + (1 : Int)))) _ (op_assign rfl) rfl ?_
      refine WL.nil ?_
      obtain rfl := Option.some.inj hb10
      show ∃ s, _ = Ctl.next s ∧ _
      exact ⟨_, rfl, hf14, rfl, hr38, (ctr_next hl22 hr21), (ctr_rng hl22 hr21), (by first | exact hL19 | (simp only [List.length_set]; exact hL19)), (St.pick hS39 [0, 1] rfl)⟩
    · intro s45 f41 wd42 hs43 hI44
      obtain ⟨x46, x47⟩ := s45
      replace hI44 : f41 0 = v_a ∧ f41 1 = Value.int .i64 x47 ∧ InR .i64 x47 ∧ f41 5 = Value.int .i64 (((a).length : Nat) : Int) ∧ InR .i64 (((a).length : Nat) : Int) ∧ (x46).length = (a).length ∧ St w0 wd42 [(Ty.sl (Ty.sl (Ty.i .i64))).at v_a x46, R] := hI44
      obtain ⟨hf48, hf49, hr50, hf51, hr52, hL53, hS54⟩ := hI44
      refine W.seq (W.seq (W.region ?_))
      refine WL.val (Value.int .i64 (((a).length : Nat) : Int)) _ (op_move hf51) rfl ?_
      refine WL.val v_a _ (op_move hf48) rfl ?_
      have hr55 := inR_len (St.rep (t := (Ty.sl (Ty.sl (Ty.i .i64)))) hS54 0 rfl)
      refine WL.val (Value.int .i64 ((x46).length : Int)) _ (op_lenL sl_57 (St.rep (t := (Ty.sl (Ty.sl (Ty.i .i64)))) hS54 0 rfl) rfl) rfl ?_
      refine WL.val (Value.bool (decide ((((a).length : Nat) : Int) < ((x46).length : Int)))) _ (op_lss rfl rfl) rfl ?_
      have hl56 : ¬ (((a).length : Nat) : Int) < ((x46).length : Int) := by omega
      refine WL.nil ?_
      show W _ _ _ _ _ _
      refine W.condF (decide ((((a).length : Nat) : Int) < ((x46).length : Int))) rfl (decide_eq_false hl56) ?_
      refine W.exit ?_
      show _ = _ ∧ _
      exact ⟨rfl, _, hs43, hf49, hr50, (by first | exact hL53 | (simp only [List.length_set]; exact hL53)), hS54⟩
  · rintro f57 wd58 ⟨s60, rfl, hq59⟩
    replace h := onRes_fin h
    obtain ⟨x61, x62⟩ := s60
    replace hq59 : f57 1 = Value.int .i64 x62 ∧ InR .i64 x62 ∧ (x61).length = (a).length ∧ St w0 wd58 [(Ty.sl (Ty.sl (Ty.i .i64))).at v_a x61, R] := hq59
    replace h : (_ : Option _) = _ := h
    dsimp only at h
    obtain ⟨hf63, hr64, hL65, hS66⟩ := hq59
    show W _ _ _ _ _ _
    refine W.seq (W.region ?_)
    refine WL.val (Value.int .i64 x62) _ (op_move hf63) rfl ?_
    refine WL.val (Value.int .i64 x62) _ (op_assign rfl) rfl ?_
    refine WL.nil ?_
    show W _ _ _ _ _ _
    refine W.ret ?_
    obtain rfl := Option.some.inj h
    show FinP _ _ _ _ _ _ _
    exact FinP.ret _ (res1 rfl rfl) ⟨rfl, hr64, (St.pick hS66 [0, 1] rfl)⟩

theorem c_laws_markInt64SSS {w : World} {a : (List (List (List Int)))} {v_a : Value} {k1 : Int} {w0 : World} {R : Ent} (hS0 : St w0 w [(Ty.sl (Ty.sl (Ty.sl (Ty.i .i64)))).at v_a a, R]) (r_k1 : InR .i64 k1) {res : Int × (List (List (List Int)))} (h : p_laws_markInt64SSS a k1  = some res) :
    Ret Try.prog 41 #[v_a, (Value.int .i64 k1)] w (fun v w' => v = Value.int .i64 res.1 ∧ InR .i64 res.1 ∧ St w0 w' [(Ty.sl (Ty.sl (Ty.sl (Ty.i .i64)))).at v_a res.2, R]) := by
  unfold p_laws_markInt64SSS at h
  refine Ret.start (fn := Try.f41) Try.func41 rfl 19 rfl rfl ?_
  refine W.seq (W.region ?_)
  refine WL.val (Value.int .i64 (0 : Int)) _ (op_assign rfl) rfl ?_
  refine WL.nil ?_
  show W _ _ _ _ _ _
  refine W.seq (W.seq (W.region ?_))
  refine WL.val (Value.int .i64 (0 : Int)) _ (op_assign rfl) rfl ?_
  refine WL.nil ?_
  show W _ _ _ _ _ _
  obtain ⟨res1, hres2, h⟩ := bs h
  refine W.blockLoop (fun fq wq => ∃ s, res1 = Res.fin s ∧ fq 1 = Value.int .i64 s.2 ∧ InR .i64 s.2 ∧ (s.1).length = (a).length ∧ St w0 wq [(Ty.sl (Ty.sl (Ty.sl (Ty.i .i64)))).at v_a s.1, R]) ?_ ?_
  · refine W.forN (fun k (s : (List (List (List Int))) × Int) fq wq => fq 0 = v_a ∧ fq 1 = Value.int .i64 s.2 ∧ InR .i64 s.2 ∧ fq 5 = Value.int .i64 (k : Int) ∧ InR .i64 (k : Int) ∧ (s.1).length = (a).length ∧ St w0 wq [(Ty.sl (Ty.sl (Ty.sl (Ty.i .i64)))).at v_a s.1, R]) hres2 ⟨rfl, rfl, r_k1, rfl, (inR_i64.2 (show (-9223372036854775808 : Int) ≤ 0 ∧ (0 : Int) ≤ 9223372036854775807 from by decide)), rfl, hS0⟩ ?_ ?_
    · intro k3 s40 ct6 f7 wd8 hk9 hb10 hI11 hbrk12 hret13
      obtain ⟨x4, x5⟩ := s40
      replace hI11 : f7 0 = v_a ∧ f7 1 = Value.int .i64 x5 ∧ InR .i64 x5 ∧ f7 5 = Value.int .i64 (k3 : Int) ∧ InR .i64 (k3 : Int) ∧ (x4).length = (a).length ∧ St w0 wd8 [(Ty.sl (Ty.sl (Ty.sl (Ty.i .i64)))).at v_a x4, R] := hI11
      replace hb10 : p_laws_markInt64SSS_L1  k3 x4 x5 = some ct6 := hb10
      unfold p_laws_markInt64SSS_L1 at hb10
      obtain ⟨hf14, hf15, hr16, hf17, hr18, hL19, hS20⟩ := hI11
      refine W.seq (W.seq (W.region ?_))
      refine WL.val (Value.int .i64 (k3 : Int)) _ (op_move hf17) rfl ?_
      refine WL.val v_a _ (op_move hf14) rfl ?_
      have hr21 := inR_len (St.rep (t := (Ty.sl (Ty.sl (Ty.sl (Ty.i .i64))))) hS20 0 rfl)
      refine WL.val (Value.int .i64 ((x4).length : Int)) _ (op_lenL sl_22 (St.rep (t := (Ty.sl (Ty.sl (Ty.sl (Ty.i .i64))))) hS20 0 rfl) rfl) rfl ?_
      refine WL.val (Value.bool (decide ((k3 : Int) < ((x4).length : Int)))) _ (op_lss rfl rfl) rfl ?_
      have hl22 : (k3 : Int) < ((x4).length : Int) := by omega
      refine WL.nil ?_
      show W _ _ _ _ _ _
      refine W.condT (decide ((k3 : Int) < ((x4).length : Int))) rfl (decide_eq_true hl22) ?_
      refine W.skip ?_
      show W _ _ _ _ _ _
      refine W.seq ?_
      refine W.block ?_
      refine W.region ?_
      refine WL.val v_a _ (op_move hf14) rfl ?_
      refine WL.val (Value.int .i64 (k3 : Int)) _ (op_move hf17) rfl ?_
      obtain ⟨x24, hx27, hb10⟩ := bs hb10
      obtain ⟨ha25, hb26, hx27⟩ := idx_some hx27
      refine WL.val (Value.pointer (some (elA v_a ((k3 : Int)).toNat))) _ (op_idx sl_22 (St.rep (t := (Ty.sl (Ty.sl (Ty.sl (Ty.i .i64))))) hS20 0 rfl) rfl rfl ha25 hb26) rfl ?_
      obtain ⟨u28, hc29, hr30⟩ := repSl.el (St.rep (t := (Ty.sl (Ty.sl (Ty.sl (Ty.i .i64))))) hS20 0 rfl) hx27
      refine WL.val u28 _ (op_load one_57 rfl hc29) rfl ?_
      refine WL.val (Value.int .i64 x5) _ (op_move hf15) rfl ?_
      have hS31 := St.unrow (k := 0) hS20 rfl hx27 hc29
      replace hS31 : St w0 wd8 [holeAt (Ty.sl (Ty.sl (Ty.i .i64))) v_a x4 ((k3 : Int)).toNat u28, R, (Ty.sl (Ty.sl (Ty.i .i64))).at u28 x24] := hS31
      obtain ⟨x32, hx33, hb10⟩ := bs hb10
      have hS34 := St.fold [(Ty.sl (Ty.sl (Ty.i .i64))).at u28 x24] [holeAt (Ty.sl (Ty.sl (Ty.i .i64))) v_a x4 ((k3 : Int)).toNat u28, R] (St.pick hS31 [2, 0, 1] rfl)
      refine WL.call _ (op_call fn_69 (args2 rfl rfl)) (c_laws_markInt64SS hS34 hr16 hx33) rfl ?_
      rintro _ wd37 ⟨rfl, hr38, hS35⟩
      have hS36 := St.pick (St.unfold [(Ty.sl (Ty.sl (Ty.i .i64))).at u28 x32.2] [holeAt (Ty.sl (Ty.sl (Ty.i .i64))) v_a x4 ((k3 : Int)).toNat u28, R] hS35) [1, 2, 0] rfl
      replace hS36 : St w0 wd37 [holeAt (Ty.sl (Ty.sl (Ty.i .i64))) v_a x4 ((k3 : Int)).toNat u28, R, (Ty.sl (Ty.sl (Ty.i .i64))).at u28 x32.2] := hS36
      have hS39 := St.rerow (k := 0) (k2 := 2) hS36 rfl rfl rfl
      replace hS39 : St w0 wd37 [(Ty.sl (Ty.sl (Ty.sl (Ty.i .i64)))).at v_a ((x4).set ((k3 : Int)).toNat x32.2), R, emp] := hS39
      refine WL.val (Value.int .i64 x32.1) _ (op_assign rfl) rfl ?_
      refine WL.nil ?_
      show W _ _ _ _ _ _
      refine W.region ?_
      refine WL.val (Value.int .i64 (k3 : Int)) _ (op_move hf17) rfl ?_
      refine WL.val (Value.int .i64 (w64 ((k3 : Int) + (1 : Int)))) _ (op_add rfl rfl) rfl ?_
      refine WL.val (Value.int .i64 (w64 ((k3 : Int) + (1 : Int)))) _ (op_assign rfl) rfl ?_
      refine WL.nil ?_
      obtain rfl := Option.some.inj hb10
      show ∃ s, _ = Ctl.next s ∧ _
      exact ⟨_, rfl, hf14, rfl, hr38, (ctr_next hl22 hr21), (ctr_rng hl22 hr21), (by first | exact hL19 | (simp only [List.length_set]; exact hL19)), (St.pick hS39 [0, 1] rfl)⟩
    · intro s45 f41 wd42 hs43 hI44
      obtain ⟨x46, x47⟩ := s45
      replace hI44 : f41 0 = v_a ∧ f41 1 = Value.int .i64 x47 ∧ InR .i64 x47 ∧ f41 5 = Value.int .i64 (((a).length : Nat) : Int) ∧ InR .i64 (((a).length : Nat) : Int) ∧ (x46).length = (a).length ∧ St w0 wd42 [(Ty.sl (Ty.sl (Ty.sl (Ty.i .i64)))).at v_a x46, R] := hI44
      obtain ⟨hf48, hf49, hr50, hf51, hr52, hL53, hS54⟩ := hI44
      refine W.seq (W.seq (W.region ?_))
      refine WL.val (Value.int .i64 (((a).length : Nat) : Int)) _ (op_move hf51) rfl ?_
      refine WL.val v_a _ (op_move hf48) rfl ?_
      have hr55 := inR_len (St.rep (t := (Ty.sl (Ty.sl (Ty.sl (Ty.i .i64))))) hS54 0 rfl)
      refine WL.val (Value.int .i64 ((x46).length : Int)) _ (op_lenL sl_22 (St.rep (t := (Ty.sl (Ty.sl (Ty.sl (Ty.i .i64))))) hS54 0 rfl) rfl) rfl ?_
      refine WL.val (Value.bool (decide ((((a).length : Nat) : Int) < ((x46).length : Int)))) _ (op_lss rfl rfl) rfl ?_
      have hl56 : ¬ (((a).length : Nat) : Int) < ((x46).length : Int) := by omega
      refine WL.nil ?_
      show W _ _ _ _ _ _
      refine W.condF (decide ((((a).length : Nat) : Int) < ((x46).length : Int))) rfl (decide_eq_false hl56) ?_
      refine W.exit ?_
      show _ = _ ∧ _
      exact ⟨rfl, _, hs43, hf49, hr50, (by first | exact hL53 | (simp only [List.length_set]; exact hL53)), hS54⟩
  · rintro f57 wd58 ⟨s60, rfl, hq59⟩
    replace h := onRes_fin h
    obtain ⟨x61, x62⟩ := s60
    replace hq59 : f57 1 = Value.int .i64 x62 ∧ InR .i64 x62 ∧ (x61).length = (a).length ∧ St w0 wd58 [(Ty.sl (Ty.sl (Ty.sl (Ty.i .i64)))).at v_a x61, R] := hq59
    replace h : (_ : Option _) = _ := h
    dsimp only at h
    obtain ⟨hf63, hr64, hL65, hS66⟩ := hq59
    show W _ _ _ _ _ _
    refine W.seq (W.region ?_)
    refine WL.val (Value.int .i64 x62) _ (op_move hf63) rfl ?_
    refine WL.val (Value.int .i64 x62) _ (op_assign rfl) rfl ?_
    refine WL.nil ?_
    show W _ _ _ _ _ _
    refine W.ret ?_
    obtain rfl := Option.some.inj h
    show FinP _ _ _ _ _ _ _
    exact FinP.ret _ (res1 rfl rfl) ⟨rfl, hr64, (St.pick hS66 [0, 1] rfl)⟩

theorem c_laws_markRing {w : World} {a_Table : (List (List (List Int)))} {v_a_Table : Value} {k1 : Int} {w0 : World} {R : Ent} (hS0 : St w0 w [(Ty.sl (Ty.sl (Ty.sl (Ty.i .i64)))).at v_a_Table a_Table, R]) (r_k1 : InR .i64 k1) {res : Int × (List (List (List Int)))} (h : p_laws_markRing a_Table k1  = some res) :
    Ret Try.prog 15 #[(Value.agg #[v_a_Table]), (Value.int .i64 k1)] w (fun v w' => v = Value.int .i64 res.1 ∧ InR .i64 res.1 ∧ St w0 w' [(Ty.sl (Ty.sl (Ty.sl (Ty.i .i64)))).at v_a_Table res.2, R]) := by
  unfold p_laws_markRing at h
  refine Ret.start (fn := Try.f15) Try.func15 rfl 10 rfl rfl ?_
  refine W.seq (W.region ?_)
  refine WL.box hS0 rfl (cs := [v_a_Table]) rfl rfl ?_
  intro b1 wd2 hS3 he4 hx5
  replace hS3 : St w0 wd2 [(Ty.sl (Ty.sl (Ty.sl (Ty.i .i64)))).at v_a_Table a_Table, R, bx b1 [v_a_Table]] := hS3
  refine WL.val (Value.int .i64 (0 : Int)) _ (op_assign rfl) rfl ?_
  refine WL.nil ?_
  show W _ _ _ _ _ _
  refine W.seq (W.region ?_)
  refine WL.val (Value.pointer (some ⟨b1, 0, none⟩)) _ (op_fieldAddr fd_26_0 rfl) rfl ?_
  refine WL.val v_a_Table _ (op_load one_22 rfl (BoxAt.cell (St.boxAt hS3 2 rfl) rfl)) rfl ?_
  refine WL.val (Value.int .i64 k1) _ (op_move rfl) rfl ?_
  obtain ⟨x6, hx7, h⟩ := bs h
  have hS8 := St.fold [(Ty.sl (Ty.sl (Ty.sl (Ty.i .i64)))).at v_a_Table a_Table] [R, bx b1 [v_a_Table]] (St.pick hS3 [0, 1, 2] rfl)
  refine WL.call _ (op_call fn_41 (args2 rfl rfl)) (c_laws_markInt64SSS hS8 r_k1 hx7) rfl ?_
  rintro _ wd11 ⟨rfl, hr12, hS9⟩
  have hS10 := St.pick (St.unfold [(Ty.sl (Ty.sl (Ty.sl (Ty.i .i64)))).at v_a_Table x6.2] [R, bx b1 [v_a_Table]] hS9) [0, 1, 2] rfl
  replace hS10 : St w0 wd11 [(Ty.sl (Ty.sl (Ty.sl (Ty.i .i64)))).at v_a_Table x6.2, R, bx b1 [v_a_Table]] := hS10
  refine WL.val (Value.int .i64 x6.1) _ (op_assign rfl) rfl ?_
  refine WL.nil ?_
  show W _ _ _ _ _ _
  refine W.seq (W.region ?_)
  refine WL.val (Value.int .i64 x6.1) _ (op_move rfl) rfl ?_
  refine WL.val (Value.int .i64 x6.1) _ (op_assign rfl) rfl ?_
  refine WL.nil ?_
  show W _ _ _ _ _ _
  refine W.ret ?_
  obtain rfl := Option.some.inj h
  show FinP _ _ _ _ _ _ _
  exact FinP.ret _ (res1 rfl rfl) ⟨rfl, hr12, (St.pick hS10 [0, 1] rfl)⟩

theorem c_laws_heldInt64S {w : World} {a : (List Int)} {v_a : Value} {k1 : Int} (r_a : (Ty.sl (Ty.i .i64)).rep w v_a a) (r_k1 : InR .i64 k1) {res : Int} (h : p_laws_heldInt64S a k1  = some res) :
    Ret Try.prog 23 #[v_a, (Value.int .i64 k1)] w (fun v w' => v = Value.int .i64 res ∧ InR .i64 res ∧ Ext w w') := by
  unfold p_laws_heldInt64S at h
  have hS0 : St w w [] := St.start w
  refine Ret.start (fn := Try.f23) Try.func23 rfl 21 rfl rfl ?_
  refine W.seq (W.region ?_)
  refine WL.val (Value.int .i64 (0 : Int)) _ (op_assign rfl) rfl ?_
  refine WL.nil ?_
  show W _ _ _ _ _ _
  refine W.seq (W.seq (W.region ?_))
  refine WL.val (Value.int .i64 (0 : Int)) _ (op_assign rfl) rfl ?_
  refine WL.nil ?_
  show W _ _ _ _ _ _
  obtain ⟨res1, hres2, h⟩ := bs h
  refine W.blockLoop (fun fq wq => ∃ s, res1 = Res.fin s ∧ fq 1 = Value.int .i64 s ∧ InR .i64 s ∧ St w wq []) ?_ ?_
  · refine W.forN (fun k (s : Int) fq wq => fq 0 = v_a ∧ fq 1 = Value.int .i64 s ∧ InR .i64 s ∧ fq 5 = Value.int .i64 (k : Int) ∧ InR .i64 (k : Int) ∧ St w wq []) hres2 ⟨rfl, rfl, r_k1, rfl, (inR_i64.2 (show (-9223372036854775808 : Int) ≤ 0 ∧ (0 : Int) ≤ 9223372036854775807 from by decide)), hS0⟩ ?_ ?_
    · intro k3 x4 ct5 f6 wd7 hk8 hb9 hI10 hbrk11 hret12
      replace hI10 : f6 0 = v_a ∧ f6 1 = Value.int .i64 x4 ∧ InR .i64 x4 ∧ f6 5 = Value.int .i64 (k3 : Int) ∧ InR .i64 (k3 : Int) ∧ St w wd7 [] := hI10
      replace hb9 : p_laws_heldInt64S_L1 a k3 x4 = some ct5 := hb9
      unfold p_laws_heldInt64S_L1 at hb9
      obtain ⟨hf13, hf14, hr15, hf16, hr17, hS18⟩ := hI10
      refine W.seq (W.seq (W.region ?_))
      refine WL.val (Value.int .i64 (k3 : Int)) _ (op_move hf16) rfl ?_
      refine WL.val v_a _ (op_move hf13) rfl ?_
      have hr19 := inR_len (Ty.lift _ hS18.ext r_a)
      refine WL.val (Value.int .i64 ((a).length : Int)) _ (op_lenL sl_35 (Ty.lift _ hS18.ext r_a) rfl) rfl ?_
      refine WL.val (Value.bool (decide ((k3 : Int) < ((a).length : Int)))) _ (op_lss rfl rfl) rfl ?_
      have hl20 : (k3 : Int) < ((a).length : Int) := by omega
      refine WL.nil ?_
      show W _ _ _ _ _ _
      refine W.condT (decide ((k3 : Int) < ((a).length : Int))) rfl (decide_eq_true hl20) ?_
      refine W.skip ?_
      show W _ _ _ _ _ _
      refine W.seq ?_
      refine W.block ?_
      refine W.seq (W.seq (W.region ?_))
      refine WL.val v_a _ (op_move hf13) rfl ?_
      refine WL.val (Value.int .i64 (k3 : Int)) _ (op_move hf16) rfl ?_
      obtain ⟨x22, hx25, hb9⟩ := bs hb9
      obtain ⟨ha23, hb24, hx25⟩ := idx_some hx25
      refine WL.val (Value.pointer (some (elA v_a ((k3 : Int)).toNat))) _ (op_idx sl_35 (Ty.lift _ hS18.ext r_a) rfl rfl ha23 hb24) rfl ?_
      obtain ⟨u26, hc27, hr28⟩ := repSl.el r_a hx25
      obtain ⟨rfl, hr28⟩ := hr28
      refine WL.val (Value.int .i64 x22) _ (op_load one_2 rfl (Ext.cell hS18.ext hc27)) rfl ?_
      refine WL.val (Value.int .i64 x4) _ (op_move hf14) rfl ?_
      refine WL.val (Value.bool (x22 != x4)) _ (op_neq rfl rfl) rfl ?_
      refine WL.nil ?_
      show W _ _ _ _ _ _
      refine W.cond (x22 != x4) rfl (fun hc29 => ?_) (fun hc29 => ?_)
      · replace hb9 := ip hb9 hc29
        refine W.seq (W.region ?_)
        refine WL.val (Value.int .i64 (-1 : Int)) _ (op_assign rfl) rfl ?_
        refine WL.nil ?_
        show W _ _ _ _ _ _
        refine W.ret ?_
        obtain rfl := Option.some.inj hb9
        obtain rfl := hret12 _ rfl
        replace h := onRes_ret h
        obtain rfl := Option.some.inj h
        show FinP _ _ _ _ _ _ _
        exact FinP.ret _ (res1 rfl rfl) ⟨rfl, (inR_i64.2 (show (-9223372036854775808 : Int) ≤ -1 ∧ (-1 : Int) ≤ 9223372036854775807 from by decide)), hS18.ext⟩
      · replace hb9 := inegb hb9 hc29
        refine W.skip ?_
        show W _ _ _ _ _ _
        refine W.region ?_
        refine WL.val (Value.int .i64 x4) _ (op_move hf14) rfl ?_
        refine WL.val (Value.int .i64 (w64 (x4 + (1 : Int)))) _ (op_add rfl rfl) rfl ?_
        refine WL.val (Value.int .i64 (w64 (x4 + (1 : Int)))) _ (op_assign rfl) rfl ?_
        refine WL.nil ?_
        show W _ _ _ _ _ _
        refine W.region ?_
        refine WL.val (Value.int .i64 (k3 : Int)) _ (op_move hf16) rfl ?_
        refine WL.val (Value.int .i64 (w64 ((k3 : Int) + (1 : Int)))) _ (op_add rfl rfl) rfl ?_
        refine WL.val (Value.int .i64 (w64 ((k3 : Int) + (1 : Int)))) _ (op_assign rfl) rfl ?_
        refine WL.nil ?_
        obtain rfl := Option.some.inj hb9
        show ∃ s, _ = Ctl.next s ∧ _
        exact ⟨_, rfl, hf13, rfl, (inR_wrap _ _), (ctr_next hl20 hr19), (ctr_rng hl20 hr19), hS18⟩
    · intro x37 f32 wd33 hs34 hI35
      replace hI35 : f32 0 = v_a ∧ f32 1 = Value.int .i64 x37 ∧ InR .i64 x37 ∧ f32 5 = Value.int .i64 (((a).length : Nat) : Int) ∧ InR .i64 (((a).length : Nat) : Int) ∧ St w wd33 [] := hI35
      obtain ⟨hf38, hf39, hr40, hf41, hr42, hS43⟩ := hI35
      refine W.seq (W.seq (W.region ?_))
      refine WL.val (Value.int .i64 (((a).length : Nat) : Int)) _ (op_move hf41) rfl ?_
      refine WL.val v_a _ (op_move hf38) rfl ?_
      have hr44 := inR_len (Ty.lift _ hS43.ext r_a)
      refine WL.val (Value.int .i64 ((a).length : Int)) _ (op_lenL sl_35 (Ty.lift _ hS43.ext r_a) rfl) rfl ?_
      refine WL.val (Value.bool (decide ((((a).length : Nat) : Int) < ((a).length : Int)))) _ (op_lss rfl rfl) rfl ?_
      have hl45 : ¬ (((a).length : Nat) : Int) < ((a).length : Int) := by omega
      refine WL.nil ?_
      show W _ _ _ _ _ _
      refine W.condF (decide ((((a).length : Nat) : Int) < ((a).length : Int))) rfl (decide_eq_false hl45) ?_
      refine W.exit ?_
      show _ = _ ∧ _
      exact ⟨rfl, _, hs34, hf39, hr40, hS43⟩
  · rintro f46 wd47 ⟨x50, rfl, hq48⟩
    replace h := onRes_fin h
    replace hq48 : f46 1 = Value.int .i64 x50 ∧ InR .i64 x50 ∧ St w wd47 [] := hq48
    obtain ⟨hf51, hr52, hS53⟩ := hq48
    show W _ _ _ _ _ _
    refine W.seq (W.region ?_)
    refine WL.val (Value.int .i64 x50) _ (op_move hf51) rfl ?_
    refine WL.val (Value.int .i64 x50) _ (op_assign rfl) rfl ?_
    refine WL.nil ?_
    show W _ _ _ _ _ _
    refine W.ret ?_
    obtain rfl := Option.some.inj h
    show FinP _ _ _ _ _ _ _
    exact FinP.ret _ (res1 rfl rfl) ⟨rfl, hr52, hS53.ext⟩

theorem c_spec_l04Next {w : World} {r_Table : (List (List (List Int)))} {v_r_Table : Value} {w1 : (List Int)} {v_w1 : Value} (r_r_Table : (Ty.sl (Ty.sl (Ty.sl (Ty.i .i64)))).rep w v_r_Table r_Table) (r_w1 : (Ty.sl (Ty.i .i64)).rep w v_w1 w1) {res : (List Int)} (h : p_spec_l04Next r_Table w1  = some res) :
    Ret Try.prog 76 #[(Value.agg #[v_r_Table]), v_w1] w (fun v w' => ∃ (u0 : Value), v = u0 ∧ Ext w w' ∧ Sep w.heap.size w' [(Ty.sl (Ty.i .i64)).at u0 res]) := by
  unfold p_spec_l04Next at h
  have hS0 : St w w [] := St.start w
  refine Ret.start (fn := Try.f76) Try.func76 rfl 55 rfl rfl ?_
  refine W.seq (W.region ?_)
  refine WL.box hS0 rfl (cs := [v_r_Table]) rfl rfl ?_
  intro b1 wd2 hS3 he4 hx5
  replace hS3 : St w wd2 [bx b1 [v_r_Table]] := hS3
  have hx6 := St.boxAt hS3 0 rfl
  have hE7 : Ext w wd2 := hS3.ext
  have hS8 : St wd2 wd2 [] := St.start wd2
  refine WL.val (Value.slice none 0 0) _ (op_assign rfl) rfl ?_
  refine WL.nil ?_
  show W _ _ _ _ _ _
  refine W.seq (W.region ?_)
  refine WL.val v_w1 _ (op_move rfl) rfl ?_
  have hr9 := inR_len (Ty.lift _ (Ext.trans hE7 hS8.ext) r_w1)
  refine WL.val (Value.int .i64 ((w1).length : Int)) _ (op_lenL sl_35 (Ty.lift _ (Ext.trans hE7 hS8.ext) r_w1) rfl) rfl ?_
  obtain ⟨x10, hx11, h⟩ := bs h
  refine WL.make (t := (Ty.i .i64)) hS8 sl_35 (fun _ _ => ⟨rfl, (inR_i64.2 (show (-9223372036854775808 : Int) ≤ 0 ∧ (0 : Int) ≤ 9223372036854775807 from by decide))⟩) rfl rfl hx11 rfl rfl ?_
  intro u12 wd13 hS14 he15
  replace hS14 : St wd2 wd13 [(Ty.sl (Ty.i .i64)).at u12 x10] := hS14
  refine WL.val u12 _ (op_assign rfl) rfl ?_
  refine WL.nil ?_
  show W _ _ _ _ _ _
  refine W.seq (W.seq (W.region ?_))
  refine WL.val (Value.int .i64 (0 : Int)) _ (op_assign rfl) rfl ?_
  refine WL.nil ?_
  show W _ _ _ _ _ _
  obtain ⟨res16, hres17, h⟩ := bs h
  refine W.blockLoop (fun fq wq => ∃ s, res16 = Res.fin s ∧ fq 5 = u12 ∧ St wd2 wq [(Ty.sl (Ty.i .i64)).at u12 s]) ?_ ?_
  · refine W.forN (fun k (s : (List Int)) fq wq => fq 1 = v_w1 ∧ fq 2 = (Value.pointer (some ⟨b1, 0, none⟩)) ∧ fq 5 = u12 ∧ fq 6 = Value.int .i64 (k : Int) ∧ InR .i64 (k : Int) ∧ St wd2 wq [(Ty.sl (Ty.i .i64)).at u12 s]) hres17 ⟨rfl, rfl, rfl, rfl, (inR_i64.2 (show (-9223372036854775808 : Int) ≤ 0 ∧ (0 : Int) ≤ 9223372036854775807 from by decide)), hS14⟩ ?_ ?_
    · intro k18 x19 ct20 f21 wd22 hk23 hb24 hI25 hbrk26 hret27
      replace hI25 : f21 1 = v_w1 ∧ f21 2 = (Value.pointer (some ⟨b1, 0, none⟩)) ∧ f21 5 = u12 ∧ f21 6 = Value.int .i64 (k18 : Int) ∧ InR .i64 (k18 : Int) ∧ St wd2 wd22 [(Ty.sl (Ty.i .i64)).at u12 x19] := hI25
      replace hb24 : p_spec_l04Next_L1 r_Table w1 k18 x19 = some ct20 := hb24
      unfold p_spec_l04Next_L1 at hb24
      obtain ⟨hf28, hf29, hf30, hf31, hr32, hS33⟩ := hI25
      refine W.seq (W.seq (W.region ?_))
      refine WL.val (Value.int .i64 (k18 : Int)) _ (op_move hf31) rfl ?_
      refine WL.val v_w1 _ (op_move hf28) rfl ?_
      have hr34 := inR_len (Ty.lift _ (Ext.trans hE7 hS33.ext) r_w1)
      refine WL.val (Value.int .i64 ((w1).length : Int)) _ (op_lenL sl_35 (Ty.lift _ (Ext.trans hE7 hS33.ext) r_w1) rfl) rfl ?_
      refine WL.val (Value.bool (decide ((k18 : Int) < ((w1).length : Int)))) _ (op_lss rfl rfl) rfl ?_
      have hl35 : (k18 : Int) < ((w1).length : Int) := by omega
      refine WL.nil ?_
      show W _ _ _ _ _ _
      refine W.condT (decide ((k18 : Int) < ((w1).length : Int))) rfl (decide_eq_true hl35) ?_
      refine W.skip ?_
      show W _ _ _ _ _ _
      refine W.seq ?_
      refine W.block ?_
      refine W.seq (W.region ?_)
      refine WL.val (Value.int .i64 (0 : Int)) _ (op_assign rfl) rfl ?_
      refine WL.nil ?_
      show W _ _ _ _ _ _
      obtain ⟨res37, hres38, hb24⟩ := bs hb24
      refine W.blockLoop (fun fq wq => ∃ s, res37 = Res.fin s ∧ fq 1 = v_w1 ∧ fq 2 = (Value.pointer (some ⟨b1, 0, none⟩)) ∧ fq 5 = u12 ∧ fq 6 = (Value.int .i64 (k18 : Int)) ∧ St wd2 wq [(Ty.sl (Ty.i .i64)).at u12 s]) ?_ ?_
      · refine W.forN (fun k (s : (List Int)) fq wq => fq 1 = v_w1 ∧ fq 2 = (Value.pointer (some ⟨b1, 0, none⟩)) ∧ fq 5 = u12 ∧ fq 6 = (Value.int .i64 (k18 : Int)) ∧ fq 7 = Value.int .i64 (k : Int) ∧ InR .i64 (k : Int) ∧ St wd2 wq [(Ty.sl (Ty.i .i64)).at u12 s]) hres38 ⟨hf28, hf29, hf30, hf31, rfl, (inR_i64.2 (show (-9223372036854775808 : Int) ≤ 0 ∧ (0 : Int) ≤ 9223372036854775807 from by decide)), hS33⟩ ?_ ?_
        · intro k39 x40 ct41 f42 wd43 hk44 hb45 hI46 hbrk47 hret48
          replace hI46 : f42 1 = v_w1 ∧ f42 2 = (Value.pointer (some ⟨b1, 0, none⟩)) ∧ f42 5 = u12 ∧ f42 6 = (Value.int .i64 (k18 : Int)) ∧ f42 7 = Value.int .i64 (k39 : Int) ∧ InR .i64 (k39 : Int) ∧ St wd2 wd43 [(Ty.sl (Ty.i .i64)).at u12 x40] := hI46
          replace hb45 : p_spec_l04Next_L2 r_Table k18 w1 k39 x40 = some ct41 := hb45
          unfold p_spec_l04Next_L2 at hb45
          obtain ⟨hf49, hf50, hf51, hf52, hf53, hr54, hS55⟩ := hI46
          refine W.seq (W.seq (W.region ?_))
          refine WL.val (Value.int .i64 (k39 : Int)) _ (op_move hf53) rfl ?_
          refine WL.val v_w1 _ (op_move hf49) rfl ?_
          have hr56 := inR_len (Ty.lift _ (Ext.trans hE7 hS55.ext) r_w1)
          refine WL.val (Value.int .i64 ((w1).length : Int)) _ (op_lenL sl_35 (Ty.lift _ (Ext.trans hE7 hS55.ext) r_w1) rfl) rfl ?_
          refine WL.val (Value.bool (decide ((k39 : Int) < ((w1).length : Int)))) _ (op_lss rfl rfl) rfl ?_
          have hl57 : (k39 : Int) < ((w1).length : Int) := by omega
          refine WL.nil ?_
          show W _ _ _ _ _ _
          refine W.condT (decide ((k39 : Int) < ((w1).length : Int))) rfl (decide_eq_true hl57) ?_
          refine W.skip ?_
          show W _ _ _ _ _ _
          refine W.seq ?_
          refine W.block ?_
          refine W.seq (W.region ?_)
          refine WL.val (Value.int .i64 (0 : Int)) _ (op_assign rfl) rfl ?_
          refine WL.nil ?_
          show W _ _ _ _ _ _
          obtain ⟨res59, hres60, hb45⟩ := bs hb45
          refine W.blockLoop (fun fq wq => ∃ s, res59 = Res.fin s ∧ fq 1 = v_w1 ∧ fq 2 = (Value.pointer (some ⟨b1, 0, none⟩)) ∧ fq 5 = u12 ∧ fq 6 = (Value.int .i64 (k18 : Int)) ∧ fq 7 = (Value.int .i64 (k39 : Int)) ∧ St wd2 wq [(Ty.sl (Ty.i .i64)).at u12 s]) ?_ ?_
          · refine W.forN (fun k (s : (List Int)) fq wq => fq 1 = v_w1 ∧ fq 2 = (Value.pointer (some ⟨b1, 0, none⟩)) ∧ fq 5 = u12 ∧ fq 6 = (Value.int .i64 (k18 : Int)) ∧ fq 7 = (Value.int .i64 (k39 : Int)) ∧ fq 8 = Value.int .i64 (k : Int) ∧ InR .i64 (k : Int) ∧ St wd2 wq [(Ty.sl (Ty.i .i64)).at u12 s]) hres60 ⟨hf49, hf50, hf51, hf52, hf53, rfl, (inR_i64.2 (show (-9223372036854775808 : Int) ≤ 0 ∧ (0 : Int) ≤ 9223372036854775807 from by decide)), hS55⟩ ?_ ?_
            · intro k61 x62 ct63 f64 wd65 hk66 hb67 hI68 hbrk69 hret70
              replace hI68 : f64 1 = v_w1 ∧ f64 2 = (Value.pointer (some ⟨b1, 0, none⟩)) ∧ f64 5 = u12 ∧ f64 6 = (Value.int .i64 (k18 : Int)) ∧ f64 7 = (Value.int .i64 (k39 : Int)) ∧ f64 8 = Value.int .i64 (k61 : Int) ∧ InR .i64 (k61 : Int) ∧ St wd2 wd65 [(Ty.sl (Ty.i .i64)).at u12 x62] := hI68
              replace hb67 : p_spec_l04Next_L3 k39 r_Table k18 w1 k61 x62 = some ct63 := hb67
              unfold p_spec_l04Next_L3 at hb67
              obtain ⟨hf71, hf72, hf73, hf74, hf75, hf76, hr77, hS78⟩ := hI68
              refine W.seq (W.seq (W.region ?_))
              refine WL.val (Value.int .i64 (k61 : Int)) _ (op_move hf76) rfl ?_
              refine WL.val v_w1 _ (op_move hf71) rfl ?_
              have hr79 := inR_len (Ty.lift _ (Ext.trans hE7 hS78.ext) r_w1)
              refine WL.val (Value.int .i64 ((w1).length : Int)) _ (op_lenL sl_35 (Ty.lift _ (Ext.trans hE7 hS78.ext) r_w1) rfl) rfl ?_
              refine WL.val (Value.bool (decide ((k61 : Int) < ((w1).length : Int)))) _ (op_lss rfl rfl) rfl ?_
              have hl80 : (k61 : Int) < ((w1).length : Int) := by omega
              refine WL.nil ?_
              show W _ _ _ _ _ _
              refine W.condT (decide ((k61 : Int) < ((w1).length : Int))) rfl (decide_eq_true hl80) ?_
              refine W.skip ?_
              show W _ _ _ _ _ _
              refine W.seq ?_
              refine W.block ?_
              obtain ⟨x125, hx128, hb67⟩ := bs hb67
              obtain ⟨ha126, hb127, hx128⟩ := idx_some hx128
              obtain ⟨u139, hc140, hr141⟩ := repSl.el (St.rep (t := (Ty.sl (Ty.i .i64))) hS78 0 rfl) hx128
              obtain ⟨rfl, hr141⟩ := hr141
              obtain ⟨x181, hx184, hb67⟩ := bs hb67
              obtain ⟨ha182, hb183, hx184⟩ := idx_some hx184
              obtain ⟨u195, hc196, hr197⟩ := repSl.el r_r_Table hx184
              obtain ⟨x220, hx223, hb67⟩ := bs hb67
              obtain ⟨ha221, hb222, hx223⟩ := idx_some hx223
              obtain ⟨u234, hc235, hr236⟩ := repSl.el hr197 hx223
              obtain ⟨x259, hx262, hb67⟩ := bs hb67
              obtain ⟨ha260, hb261, hx262⟩ := idx_some hx262
              obtain ⟨u273, hc274, hr275⟩ := repSl.el hr236 hx262
              obtain ⟨rfl, hr275⟩ := hr275
              obtain ⟨x305, hx308, hb67⟩ := bs hb67
              obtain ⟨ha306, hb307, hx308⟩ := idx_some hx308
              obtain ⟨u319, hc320, hr321⟩ := repSl.el r_w1 hx308
              obtain ⟨rfl, hr321⟩ := hr321
              refine W.drawR mixo 23 [] [fun _ v _ _ => v = u12, fun _ v _ _ => v = (Value.int .i64 (k39 : Int)) ∧ InR .i64 (k39 : Int), fun _ v _ _ => v = u12, fun _ v _ _ => v = (Value.int .i64 (k39 : Int)) ∧ InR .i64 (k39 : Int), fun _ v _ _ => v = (Value.pointer (some (elA u12 ((k39 : Int)).toNat))), fun _ v _ _ => v = (Value.int .i64 x125) ∧ InR .i64 x125, fun _ v _ _ => v = (Value.pointer (some ⟨b1, 0, none⟩)), fun _ v _ _ => v = v_r_Table, fun _ v _ _ => v = (Value.int .i64 (k18 : Int)) ∧ InR .i64 (k18 : Int), fun _ v _ _ => v = (Value.pointer (some (elA v_r_Table ((k18 : Int)).toNat))), fun _ v _ _ => v = u195, fun _ v _ _ => v = (Value.int .i64 (k39 : Int)) ∧ InR .i64 (k39 : Int), fun _ v _ _ => v = (Value.pointer (some (elA u195 ((k39 : Int)).toNat))), fun _ v _ _ => v = u234, fun _ v _ _ => v = (Value.int .i64 (k61 : Int)) ∧ InR .i64 (k61 : Int), fun _ v _ _ => v = (Value.pointer (some (elA u234 ((k61 : Int)).toNat))), fun _ v _ _ => v = (Value.int .i64 x259) ∧ InR .i64 x259, fun _ v _ _ => v = v_w1, fun _ v _ _ => v = (Value.int .i64 (k61 : Int)) ∧ InR .i64 (k61 : Int), fun _ v _ _ => v = (Value.pointer (some (elA v_w1 ((k61 : Int)).toNat))), fun _ v _ _ => v = (Value.int .i64 x305) ∧ InR .i64 x305, fun _ v _ _ => v = (Value.int .i64 (w64 (x259 * x305))) ∧ InR .i64 (w64 (x259 * x305)), fun _ v _ _ => v = (Value.int .i64 (w64 (x125 + (w64 (x259 * x305))))) ∧ InR .i64 (w64 (x125 + (w64 (x259 * x305))))] (by kernel_rfl) (by kernel_rfl) ⟨⟨fun _ _ _ _ _ _ h => h, fun _ _ _ _ _ _ h => h⟩, ⟨fun _ _ _ _ _ _ h => h, fun _ _ _ _ _ _ h => h⟩, ⟨fun _ _ _ _ _ _ h => h, fun _ _ _ _ _ _ h => h⟩, ⟨fun _ _ _ _ _ _ h => h, fun _ _ _ _ _ _ h => h⟩, ⟨fun _ _ _ _ _ _ h => h, fun _ _ _ _ _ _ h => h⟩, ⟨fun _ _ _ _ _ _ h => h, fun _ _ _ _ _ _ h => h⟩, ⟨fun _ _ _ _ _ _ h => h, fun _ _ _ _ _ _ h => h⟩, ⟨fun _ _ _ _ _ _ h => h, fun _ _ _ _ _ _ h => h⟩, ⟨fun _ _ _ _ _ _ h => h, fun _ _ _ _ _ _ h => h⟩, ⟨fun _ _ _ _ _ _ h => h, fun _ _ _ _ _ _ h => h⟩, ⟨fun _ _ _ _ _ _ h => h, fun _ _ _ _ _ _ h => h⟩, ⟨fun _ _ _ _ _ _ h => h, fun _ _ _ _ _ _ h => h⟩, ⟨fun _ _ _ _ _ _ h => h, fun _ _ _ _ _ _ h => h⟩, ⟨fun _ _ _ _ _ _ h => h, fun _ _ _ _ _ _ h => h⟩, ⟨fun _ _ _ _ _ _ h => h, fun _ _ _ _ _ _ h => h⟩, ⟨fun _ _ _ _ _ _ h => h, fun _ _ _ _ _ _ h => h⟩, ⟨fun _ _ _ _ _ _ h => h, fun _ _ _ _ _ _ h => h⟩, ⟨fun _ _ _ _ _ _ h => h, fun _ _ _ _ _ _ h => h⟩, ⟨fun _ _ _ _ _ _ h => h, fun _ _ _ _ _ _ h => h⟩, ⟨fun _ _ _ _ _ _ h => h, fun _ _ _ _ _ _ h => h⟩, ⟨fun _ _ _ _ _ _ h => h, fun _ _ _ _ _ _ h => h⟩, ⟨fun _ _ _ _ _ _ h => h, fun _ _ _ _ _ _ h => h⟩, ⟨fun _ _ _ _ _ _ h => h, fun _ _ _ _ _ _ h => h⟩, trivial⟩ ⟨?_, ?_, ?_, ?_, ?_, ?_, ?_, ?_, ?_, ?_, ?_, ?_, ?_, ?_, ?_, ?_, ?_, ?_, ?_, ?_, ?_, ?_, ?_, trivial⟩ ?_
              · refine ObX.op rfl ?_
                intro f82 wd83 he84 hout85 hphi86
                have hS87 : St wd2 wd83 [(Ty.sl (Ty.i .i64)).at u12 x62] := St.extend hS78 he84
                have e88 : f82 5 = u12 := (hout85 5 rfl).trans hf73
                exact OpX.val u12 wd83 rfl (op_move e88) (Ext.refl _) rfl
              · refine ObX.op rfl ?_
                intro f89 wd90 he91 hout92 hphi93
                have hS94 : St wd2 wd90 [(Ty.sl (Ty.i .i64)).at u12 x62] := St.extend hS78 he91
                have e95 : f89 7 = (Value.int .i64 (k39 : Int)) := (hout92 7 rfl).trans hf75
                exact OpX.val (Value.int .i64 (k39 : Int)) wd90 rfl (op_move e95) (Ext.refl _) ⟨rfl, hr54⟩
              · refine ObX.op rfl ?_
                intro f96 wd97 he98 hout99 hphi100
                have hS101 : St wd2 wd97 [(Ty.sl (Ty.i .i64)).at u12 x62] := St.extend hS78 he98
                have e102 : f96 5 = u12 := (hout99 5 rfl).trans hf73
                exact OpX.val u12 wd97 rfl (op_move e102) (Ext.refl _) rfl
              · refine ObX.op rfl ?_
                intro f103 wd104 he105 hout106 hphi107
                have hS108 : St wd2 wd104 [(Ty.sl (Ty.i .i64)).at u12 x62] := St.extend hS78 he105
                have e109 : f103 7 = (Value.int .i64 (k39 : Int)) := (hout106 7 rfl).trans hf75
                exact OpX.val (Value.int .i64 (k39 : Int)) wd104 rfl (op_move e109) (Ext.refl _) ⟨rfl, hr54⟩
              · refine ObX.op rfl ?_
                intro f110 wd111 he112 hout113 hphi114
                have hS115 : St wd2 wd111 [(Ty.sl (Ty.i .i64)).at u12 x62] := St.extend hS78 he112
                obtain ⟨S116, hS117, hf118⟩ := hphi114 2 32 _ rfl rfl rfl
                have e119 : f110 32 = u12 := hf118
                obtain ⟨S120, hS121, hf122⟩ := hphi114 3 33 _ rfl rfl rfl
                obtain ⟨e123, hr124⟩ : f110 33 = (Value.int .i64 (k39 : Int)) ∧ InR .i64 (k39 : Int) := hf122
                exact OpX.val (Value.pointer (some (elA u12 ((k39 : Int)).toNat))) wd111 rfl (op_idx sl_35 (St.rep (t := (Ty.sl (Ty.i .i64))) hS115 0 rfl) e119 e123 ha126 hb127) (Ext.refl _) rfl
              · refine ObX.op rfl ?_
                intro f129 wd130 he131 hout132 hphi133
                have hS134 : St wd2 wd130 [(Ty.sl (Ty.i .i64)).at u12 x62] := St.extend hS78 he131
                obtain ⟨S135, hS136, hf137⟩ := hphi133 4 34 _ rfl rfl rfl
                have e138 : f129 34 = (Value.pointer (some (elA u12 ((k39 : Int)).toNat))) := hf137
                exact OpX.val (Value.int .i64 x125) wd130 rfl (op_load one_2 e138 (Ext.cell he131 hc140)) (Ext.refl _) ⟨rfl, hr141⟩
              · refine ObX.op rfl ?_
                intro f142 wd143 he144 hout145 hphi146
                have hS147 : St wd2 wd143 [(Ty.sl (Ty.i .i64)).at u12 x62] := St.extend hS78 he144
                have e148 : f142 2 = (Value.pointer (some ⟨b1, 0, none⟩)) := (hout145 2 rfl).trans hf72
                exact OpX.val (Value.pointer (some ⟨b1, 0, none⟩)) wd143 rfl (op_fieldAddr fd_26_0 e148) (Ext.refl _) rfl
              · refine ObX.op rfl ?_
                intro f149 wd150 he151 hout152 hphi153
                have hS154 : St wd2 wd150 [(Ty.sl (Ty.i .i64)).at u12 x62] := St.extend hS78 he151
                obtain ⟨S155, hS156, hf157⟩ := hphi153 6 36 _ rfl rfl rfl
                have e158 : f149 36 = (Value.pointer (some ⟨b1, 0, none⟩)) := hf157
                exact OpX.val v_r_Table wd150 rfl (op_load one_22 e158 (BoxAt.cell (BoxAt.lift hS154.ext hx6) rfl)) (Ext.refl _) rfl
              · refine ObX.op rfl ?_
                intro f159 wd160 he161 hout162 hphi163
                have hS164 : St wd2 wd160 [(Ty.sl (Ty.i .i64)).at u12 x62] := St.extend hS78 he161
                have e165 : f159 6 = (Value.int .i64 (k18 : Int)) := (hout162 6 rfl).trans hf74
                exact OpX.val (Value.int .i64 (k18 : Int)) wd160 rfl (op_move e165) (Ext.refl _) ⟨rfl, hr32⟩
              · refine ObX.op rfl ?_
                intro f166 wd167 he168 hout169 hphi170
                have hS171 : St wd2 wd167 [(Ty.sl (Ty.i .i64)).at u12 x62] := St.extend hS78 he168
                obtain ⟨S172, hS173, hf174⟩ := hphi170 7 37 _ rfl rfl rfl
                have e175 : f166 37 = v_r_Table := hf174
                obtain ⟨S176, hS177, hf178⟩ := hphi170 8 38 _ rfl rfl rfl
                obtain ⟨e179, hr180⟩ : f166 38 = (Value.int .i64 (k18 : Int)) ∧ InR .i64 (k18 : Int) := hf178
                exact OpX.val (Value.pointer (some (elA v_r_Table ((k18 : Int)).toNat))) wd167 rfl (op_idx sl_22 (Ty.lift _ (Ext.trans hE7 hS171.ext) r_r_Table) e175 e179 ha182 hb183) (Ext.refl _) rfl
              · refine ObX.op rfl ?_
                intro f185 wd186 he187 hout188 hphi189
                have hS190 : St wd2 wd186 [(Ty.sl (Ty.i .i64)).at u12 x62] := St.extend hS78 he187
                obtain ⟨S191, hS192, hf193⟩ := hphi189 9 39 _ rfl rfl rfl
                have e194 : f185 39 = (Value.pointer (some (elA v_r_Table ((k18 : Int)).toNat))) := hf193
                exact OpX.val u195 wd186 rfl (op_load one_57 e194 (Ext.cell (Ext.trans hE7 hS190.ext) hc196)) (Ext.refl _) rfl
              · refine ObX.op rfl ?_
                intro f198 wd199 he200 hout201 hphi202
                have hS203 : St wd2 wd199 [(Ty.sl (Ty.i .i64)).at u12 x62] := St.extend hS78 he200
                have e204 : f198 7 = (Value.int .i64 (k39 : Int)) := (hout201 7 rfl).trans hf75
                exact OpX.val (Value.int .i64 (k39 : Int)) wd199 rfl (op_move e204) (Ext.refl _) ⟨rfl, hr54⟩
              · refine ObX.op rfl ?_
                intro f205 wd206 he207 hout208 hphi209
                have hS210 : St wd2 wd206 [(Ty.sl (Ty.i .i64)).at u12 x62] := St.extend hS78 he207
                obtain ⟨S211, hS212, hf213⟩ := hphi209 10 40 _ rfl rfl rfl
                have e214 : f205 40 = u195 := hf213
                obtain ⟨S215, hS216, hf217⟩ := hphi209 11 41 _ rfl rfl rfl
                obtain ⟨e218, hr219⟩ : f205 41 = (Value.int .i64 (k39 : Int)) ∧ InR .i64 (k39 : Int) := hf217
                exact OpX.val (Value.pointer (some (elA u195 ((k39 : Int)).toNat))) wd206 rfl (op_idx sl_57 (Ty.lift _ (Ext.trans hE7 hS210.ext) hr197) e214 e218 ha221 hb222) (Ext.refl _) rfl
              · refine ObX.op rfl ?_
                intro f224 wd225 he226 hout227 hphi228
                have hS229 : St wd2 wd225 [(Ty.sl (Ty.i .i64)).at u12 x62] := St.extend hS78 he226
                obtain ⟨S230, hS231, hf232⟩ := hphi228 12 42 _ rfl rfl rfl
                have e233 : f224 42 = (Value.pointer (some (elA u195 ((k39 : Int)).toNat))) := hf232
                exact OpX.val u234 wd225 rfl (op_load one_35 e233 (Ext.cell (Ext.trans hE7 hS229.ext) hc235)) (Ext.refl _) rfl
              · refine ObX.op rfl ?_
                intro f237 wd238 he239 hout240 hphi241
                have hS242 : St wd2 wd238 [(Ty.sl (Ty.i .i64)).at u12 x62] := St.extend hS78 he239
                have e243 : f237 8 = (Value.int .i64 (k61 : Int)) := (hout240 8 rfl).trans hf76
                exact OpX.val (Value.int .i64 (k61 : Int)) wd238 rfl (op_move e243) (Ext.refl _) ⟨rfl, hr77⟩
              · refine ObX.op rfl ?_
                intro f244 wd245 he246 hout247 hphi248
                have hS249 : St wd2 wd245 [(Ty.sl (Ty.i .i64)).at u12 x62] := St.extend hS78 he246
                obtain ⟨S250, hS251, hf252⟩ := hphi248 13 43 _ rfl rfl rfl
                have e253 : f244 43 = u234 := hf252
                obtain ⟨S254, hS255, hf256⟩ := hphi248 14 44 _ rfl rfl rfl
                obtain ⟨e257, hr258⟩ : f244 44 = (Value.int .i64 (k61 : Int)) ∧ InR .i64 (k61 : Int) := hf256
                exact OpX.val (Value.pointer (some (elA u234 ((k61 : Int)).toNat))) wd245 rfl (op_idx sl_35 (Ty.lift _ (Ext.trans hE7 hS249.ext) hr236) e253 e257 ha260 hb261) (Ext.refl _) rfl
              · refine ObX.op rfl ?_
                intro f263 wd264 he265 hout266 hphi267
                have hS268 : St wd2 wd264 [(Ty.sl (Ty.i .i64)).at u12 x62] := St.extend hS78 he265
                obtain ⟨S269, hS270, hf271⟩ := hphi267 15 45 _ rfl rfl rfl
                have e272 : f263 45 = (Value.pointer (some (elA u234 ((k61 : Int)).toNat))) := hf271
                exact OpX.val (Value.int .i64 x259) wd264 rfl (op_load one_2 e272 (Ext.cell (Ext.trans hE7 hS268.ext) hc274)) (Ext.refl _) ⟨rfl, hr275⟩
              · refine ObX.op rfl ?_
                intro f276 wd277 he278 hout279 hphi280
                have hS281 : St wd2 wd277 [(Ty.sl (Ty.i .i64)).at u12 x62] := St.extend hS78 he278
                have e282 : f276 1 = v_w1 := (hout279 1 rfl).trans hf71
                exact OpX.val v_w1 wd277 rfl (op_move e282) (Ext.refl _) rfl
              · refine ObX.op rfl ?_
                intro f283 wd284 he285 hout286 hphi287
                have hS288 : St wd2 wd284 [(Ty.sl (Ty.i .i64)).at u12 x62] := St.extend hS78 he285
                have e289 : f283 8 = (Value.int .i64 (k61 : Int)) := (hout286 8 rfl).trans hf76
                exact OpX.val (Value.int .i64 (k61 : Int)) wd284 rfl (op_move e289) (Ext.refl _) ⟨rfl, hr77⟩
              · refine ObX.op rfl ?_
                intro f290 wd291 he292 hout293 hphi294
                have hS295 : St wd2 wd291 [(Ty.sl (Ty.i .i64)).at u12 x62] := St.extend hS78 he292
                obtain ⟨S296, hS297, hf298⟩ := hphi294 17 47 _ rfl rfl rfl
                have e299 : f290 47 = v_w1 := hf298
                obtain ⟨S300, hS301, hf302⟩ := hphi294 18 48 _ rfl rfl rfl
                obtain ⟨e303, hr304⟩ : f290 48 = (Value.int .i64 (k61 : Int)) ∧ InR .i64 (k61 : Int) := hf302
                exact OpX.val (Value.pointer (some (elA v_w1 ((k61 : Int)).toNat))) wd291 rfl (op_idx sl_35 (Ty.lift _ (Ext.trans hE7 hS295.ext) r_w1) e299 e303 ha306 hb307) (Ext.refl _) rfl
              · refine ObX.op rfl ?_
                intro f309 wd310 he311 hout312 hphi313
                have hS314 : St wd2 wd310 [(Ty.sl (Ty.i .i64)).at u12 x62] := St.extend hS78 he311
                obtain ⟨S315, hS316, hf317⟩ := hphi313 19 49 _ rfl rfl rfl
                have e318 : f309 49 = (Value.pointer (some (elA v_w1 ((k61 : Int)).toNat))) := hf317
                exact OpX.val (Value.int .i64 x305) wd310 rfl (op_load one_2 e318 (Ext.cell (Ext.trans hE7 hS314.ext) hc320)) (Ext.refl _) ⟨rfl, hr321⟩
              · refine ObX.op rfl ?_
                intro f322 wd323 he324 hout325 hphi326
                have hS327 : St wd2 wd323 [(Ty.sl (Ty.i .i64)).at u12 x62] := St.extend hS78 he324
                obtain ⟨S328, hS329, hf330⟩ := hphi326 16 46 _ rfl rfl rfl
                obtain ⟨e331, hr332⟩ : f322 46 = (Value.int .i64 x259) ∧ InR .i64 x259 := hf330
                obtain ⟨S333, hS334, hf335⟩ := hphi326 20 50 _ rfl rfl rfl
                obtain ⟨e336, hr337⟩ : f322 50 = (Value.int .i64 x305) ∧ InR .i64 x305 := hf335
                exact OpX.val (Value.int .i64 (w64 (x259 * x305))) wd323 rfl (op_mul e331 e336) (Ext.refl _) ⟨rfl, (inR_wrap _ _)⟩
              · refine ObX.op rfl ?_
                intro f338 wd339 he340 hout341 hphi342
                have hS343 : St wd2 wd339 [(Ty.sl (Ty.i .i64)).at u12 x62] := St.extend hS78 he340
                obtain ⟨S344, hS345, hf346⟩ := hphi342 5 35 _ rfl rfl rfl
                obtain ⟨e347, hr348⟩ : f338 35 = (Value.int .i64 x125) ∧ InR .i64 x125 := hf346
                obtain ⟨S349, hS350, hf351⟩ := hphi342 21 51 _ rfl rfl rfl
                obtain ⟨e352, hr353⟩ : f338 51 = (Value.int .i64 (w64 (x259 * x305))) ∧ InR .i64 (w64 (x259 * x305)) := hf351
                exact OpX.val (Value.int .i64 (w64 (x125 + (w64 (x259 * x305))))) wd339 rfl (op_add e347 e352) (Ext.refl _) ⟨rfl, (inR_wrap _ _)⟩
              · intro f354 wd355 Ss356 he357 hout358 hSn359 hSd360 hphi361
                show WL _ _ _ _ _ _ _
                have hS362 : St wd2 wd355 [(Ty.sl (Ty.i .i64)).at u12 x62] := St.extend hS78 he357
                have e363 : f354 30 = u12 := hphi361 0 30 _ (by decide) rfl rfl
                obtain ⟨e364, hr365⟩ : f354 31 = (Value.int .i64 (k39 : Int)) ∧ InR .i64 (k39 : Int) := hphi361 1 31 _ (by decide) rfl rfl
                obtain ⟨e366, hr367⟩ : f354 52 = (Value.int .i64 (w64 (x125 + (w64 (x259 * x305))))) ∧ InR .i64 (w64 (x125 + (w64 (x259 * x305)))) := hphi361 22 52 _ (by decide) rfl rfl
                have e368 : f354 1 = v_w1 := (hout358 1 rfl).trans hf71
                have e369 : f354 2 = (Value.pointer (some ⟨b1, 0, none⟩)) := (hout358 2 rfl).trans hf72
                have e370 : f354 5 = u12 := (hout358 5 rfl).trans hf73
                have e371 : f354 6 = (Value.int .i64 (k18 : Int)) := (hout358 6 rfl).trans hf74
                have e372 : f354 7 = (Value.int .i64 (k39 : Int)) := (hout358 7 rfl).trans hf75
                have e373 : f354 8 = (Value.int .i64 (k61 : Int)) := (hout358 8 rfl).trans hf76
                refine WL.val (Value.pointer (some (elA u12 ((k39 : Int)).toNat))) _ (op_idx sl_35 (St.rep (t := (Ty.sl (Ty.i .i64))) hS362 0 rfl) e363 e364 ha126 hb127) rfl ?_
                refine WL.storeEl (flat_i .i64) hS362 (k := 0) rfl sz_2 rfl e366 (lt_of_idx ha126 hb127) ⟨rfl, hr367⟩ ?_
                intro wd374 hS375
                replace hS375 : St wd2 wd374 [(Ty.sl (Ty.i .i64)).at u12 ((x62).set ((k39 : Int)).toNat (w64 (x125 + (w64 (x259 * x305)))))] := hS375
                refine WL.nil ?_
                show W _ _ _ _ _ _
                refine W.region ?_
                refine WL.val (Value.int .i64 (k61 : Int)) _ (op_move e373) rfl ?_
                refine WL.val (Value.int .i64 (w64 ((k61 : Int) + (1 : Int)))) _ (op_add rfl rfl) rfl ?_
                refine WL.val (Value.int .i64 (w64 ((k61 : Int) + (1 : Int)))) _ (op_assign rfl) rfl ?_
                refine WL.nil ?_
                obtain rfl := Option.some.inj hb67
                show ∃ s, _ = Ctl.next s ∧ _
                exact ⟨_, rfl, e368, e369, e370, e371, e372, (ctr_next hl80 hr79), (ctr_rng hl80 hr79), hS375⟩
            · intro x382 f377 wd378 hs379 hI380
              replace hI380 : f377 1 = v_w1 ∧ f377 2 = (Value.pointer (some ⟨b1, 0, none⟩)) ∧ f377 5 = u12 ∧ f377 6 = (Value.int .i64 (k18 : Int)) ∧ f377 7 = (Value.int .i64 (k39 : Int)) ∧ f377 8 = Value.int .i64 (((w1).length : Nat) : Int) ∧ InR .i64 (((w1).length : Nat) : Int) ∧ St wd2 wd378 [(Ty.sl (Ty.i .i64)).at u12 x382] := hI380
              obtain ⟨hf383, hf384, hf385, hf386, hf387, hf388, hr389, hS390⟩ := hI380
              refine W.seq (W.seq (W.region ?_))
              refine WL.val (Value.int .i64 (((w1).length : Nat) : Int)) _ (op_move hf388) rfl ?_
              refine WL.val v_w1 _ (op_move hf383) rfl ?_
              have hr391 := inR_len (Ty.lift _ (Ext.trans hE7 hS390.ext) r_w1)
              refine WL.val (Value.int .i64 ((w1).length : Int)) _ (op_lenL sl_35 (Ty.lift _ (Ext.trans hE7 hS390.ext) r_w1) rfl) rfl ?_
              refine WL.val (Value.bool (decide ((((w1).length : Nat) : Int) < ((w1).length : Int)))) _ (op_lss rfl rfl) rfl ?_
              have hl392 : ¬ (((w1).length : Nat) : Int) < ((w1).length : Int) := by omega
              refine WL.nil ?_
              show W _ _ _ _ _ _
              refine W.condF (decide ((((w1).length : Nat) : Int) < ((w1).length : Int))) rfl (decide_eq_false hl392) ?_
              refine W.exit ?_
              show _ = _ ∧ _
              exact ⟨rfl, _, hs379, hf383, hf384, hf385, hf386, hf387, hS390⟩
          · rintro f393 wd394 ⟨x397, rfl, hq395⟩
            replace hb45 := onRes_fin hb45
            replace hq395 : f393 1 = v_w1 ∧ f393 2 = (Value.pointer (some ⟨b1, 0, none⟩)) ∧ f393 5 = u12 ∧ f393 6 = (Value.int .i64 (k18 : Int)) ∧ f393 7 = (Value.int .i64 (k39 : Int)) ∧ St wd2 wd394 [(Ty.sl (Ty.i .i64)).at u12 x397] := hq395
            obtain ⟨hf398, hf399, hf400, hf401, hf402, hS403⟩ := hq395
            show W _ _ _ _ _ _
            refine W.region ?_
            refine WL.val (Value.int .i64 (k39 : Int)) _ (op_move hf402) rfl ?_
            refine WL.val (Value.int .i64 (w64 ((k39 : Int) + (1 : Int)))) _ (op_add rfl rfl) rfl ?_
            refine WL.val (Value.int .i64 (w64 ((k39 : Int) + (1 : Int)))) _ (op_assign rfl) rfl ?_
            refine WL.nil ?_
            obtain rfl := Option.some.inj hb45
            show ∃ s, _ = Ctl.next s ∧ _
            exact ⟨_, rfl, hf398, hf399, hf400, hf401, (ctr_next hl57 hr56), (ctr_rng hl57 hr56), hS403⟩
        · intro x411 f406 wd407 hs408 hI409
          replace hI409 : f406 1 = v_w1 ∧ f406 2 = (Value.pointer (some ⟨b1, 0, none⟩)) ∧ f406 5 = u12 ∧ f406 6 = (Value.int .i64 (k18 : Int)) ∧ f406 7 = Value.int .i64 (((w1).length : Nat) : Int) ∧ InR .i64 (((w1).length : Nat) : Int) ∧ St wd2 wd407 [(Ty.sl (Ty.i .i64)).at u12 x411] := hI409
          obtain ⟨hf412, hf413, hf414, hf415, hf416, hr417, hS418⟩ := hI409
          refine W.seq (W.seq (W.region ?_))
          refine WL.val (Value.int .i64 (((w1).length : Nat) : Int)) _ (op_move hf416) rfl ?_
          refine WL.val v_w1 _ (op_move hf412) rfl ?_
          have hr419 := inR_len (Ty.lift _ (Ext.trans hE7 hS418.ext) r_w1)
          refine WL.val (Value.int .i64 ((w1).length : Int)) _ (op_lenL sl_35 (Ty.lift _ (Ext.trans hE7 hS418.ext) r_w1) rfl) rfl ?_
          refine WL.val (Value.bool (decide ((((w1).length : Nat) : Int) < ((w1).length : Int)))) _ (op_lss rfl rfl) rfl ?_
          have hl420 : ¬ (((w1).length : Nat) : Int) < ((w1).length : Int) := by omega
          refine WL.nil ?_
          show W _ _ _ _ _ _
          refine W.condF (decide ((((w1).length : Nat) : Int) < ((w1).length : Int))) rfl (decide_eq_false hl420) ?_
          refine W.exit ?_
          show _ = _ ∧ _
          exact ⟨rfl, _, hs408, hf412, hf413, hf414, hf415, hS418⟩
      · rintro f421 wd422 ⟨x425, rfl, hq423⟩
        replace hb24 := onRes_fin hb24
        replace hq423 : f421 1 = v_w1 ∧ f421 2 = (Value.pointer (some ⟨b1, 0, none⟩)) ∧ f421 5 = u12 ∧ f421 6 = (Value.int .i64 (k18 : Int)) ∧ St wd2 wd422 [(Ty.sl (Ty.i .i64)).at u12 x425] := hq423
        obtain ⟨hf426, hf427, hf428, hf429, hS430⟩ := hq423
        show W _ _ _ _ _ _
        refine W.region ?_
        refine WL.val (Value.int .i64 (k18 : Int)) _ (op_move hf429) rfl ?_
        refine WL.val (Value.int .i64 (w64 ((k18 : Int) + (1 : Int)))) _ (op_add rfl rfl) rfl ?_
        refine WL.val (Value.int .i64 (w64 ((k18 : Int) + (1 : Int)))) _ (op_assign rfl) rfl ?_
        refine WL.nil ?_
        obtain rfl := Option.some.inj hb24
        show ∃ s, _ = Ctl.next s ∧ _
        exact ⟨_, rfl, hf426, hf427, hf428, (ctr_next hl35 hr34), (ctr_rng hl35 hr34), hS430⟩
    · intro x438 f433 wd434 hs435 hI436
      replace hI436 : f433 1 = v_w1 ∧ f433 2 = (Value.pointer (some ⟨b1, 0, none⟩)) ∧ f433 5 = u12 ∧ f433 6 = Value.int .i64 (((w1).length : Nat) : Int) ∧ InR .i64 (((w1).length : Nat) : Int) ∧ St wd2 wd434 [(Ty.sl (Ty.i .i64)).at u12 x438] := hI436
      obtain ⟨hf439, hf440, hf441, hf442, hr443, hS444⟩ := hI436
      refine W.seq (W.seq (W.region ?_))
      refine WL.val (Value.int .i64 (((w1).length : Nat) : Int)) _ (op_move hf442) rfl ?_
      refine WL.val v_w1 _ (op_move hf439) rfl ?_
      have hr445 := inR_len (Ty.lift _ (Ext.trans hE7 hS444.ext) r_w1)
      refine WL.val (Value.int .i64 ((w1).length : Int)) _ (op_lenL sl_35 (Ty.lift _ (Ext.trans hE7 hS444.ext) r_w1) rfl) rfl ?_
      refine WL.val (Value.bool (decide ((((w1).length : Nat) : Int) < ((w1).length : Int)))) _ (op_lss rfl rfl) rfl ?_
      have hl446 : ¬ (((w1).length : Nat) : Int) < ((w1).length : Int) := by omega
      refine WL.nil ?_
      show W _ _ _ _ _ _
      refine W.condF (decide ((((w1).length : Nat) : Int) < ((w1).length : Int))) rfl (decide_eq_false hl446) ?_
      refine W.exit ?_
      show _ = _ ∧ _
      exact ⟨rfl, _, hs435, hf441, hS444⟩
  · rintro f447 wd448 ⟨x451, rfl, hq449⟩
    replace h := onRes_fin h
    replace hq449 : f447 5 = u12 ∧ St wd2 wd448 [(Ty.sl (Ty.i .i64)).at u12 x451] := hq449
    obtain ⟨hf452, hS453⟩ := hq449
    show W _ _ _ _ _ _
    refine W.seq (W.region ?_)
    refine WL.val u12 _ (op_move hf452) rfl ?_
    refine WL.val u12 _ (op_assign rfl) rfl ?_
    refine WL.nil ?_
    show W _ _ _ _ _ _
    refine W.ret ?_
    obtain rfl := Option.some.inj h
    show FinP _ _ _ _ _ _ _
    exact FinP.ret _ (res1 rfl rfl) ⟨u12, rfl, (Ext.trans hE7 hS453.ext), (St.out (St.pick hS453 [0] rfl) (hE7))⟩

theorem c_spec_l04Weights {w : World} {r_Table : (List (List (List Int)))} {v_r_Table : Value} {t : Int} (r_r_Table : (Ty.sl (Ty.sl (Ty.sl (Ty.i .i64)))).rep w v_r_Table r_Table) (r_t : InR .i64 t) {res : (List Int) × Bool} (h : p_spec_l04Weights r_Table t  = some res) :
    Ret Try.prog 48 #[(Value.agg #[v_r_Table]), (Value.int .i64 t)] w (fun v w' => ∃ (u0 : Value), v = (Value.tuple #[u0, Value.bool res.2]) ∧ Ext w w' ∧ Sep w.heap.size w' [(Ty.sl (Ty.i .i64)).at u0 res.1]) := by
  unfold p_spec_l04Weights at h
  have hS0 : St w w [] := St.start w
  refine Ret.start (fn := Try.f48) Try.func48 rfl 39 rfl rfl ?_
  refine W.seq (W.region ?_)
  refine WL.box hS0 rfl (cs := [v_r_Table]) rfl rfl ?_
  intro b1 wd2 hS3 he4 hx5
  replace hS3 : St w wd2 [bx b1 [v_r_Table]] := hS3
  have hx6 := St.boxAt hS3 0 rfl
  have hE7 : Ext w wd2 := hS3.ext
  have hS8 : St wd2 wd2 [] := St.start wd2
  refine WL.val (Value.slice none 0 0) _ (op_assign rfl) rfl ?_
  refine WL.val (Value.bool false) _ (op_assign rfl) rfl ?_
  refine WL.nil ?_
  show W _ _ _ _ _ _
  refine W.seq (W.region ?_)
  refine WL.lit0 (t := (Ty.i .i64)) hS8 sl_35 rfl rfl ?_
  intro u9 wd10 hS11 he12
  replace hS11 : St wd2 wd10 [(Ty.sl (Ty.i .i64)).at u9 ([] : (List Int))] := hS11
  refine WL.val u9 _ (op_assign rfl) rfl ?_
  refine WL.nil ?_
  show W _ _ _ _ _ _
  refine W.seq (W.seq (W.region ?_))
  refine WL.val (Value.int .i64 (0 : Int)) _ (op_assign rfl) rfl ?_
  refine WL.nil ?_
  show W _ _ _ _ _ _
  obtain ⟨res13, hres14, h⟩ := bs h
  refine W.blockLoop (fun fq wq => ∃ s, res13 = Res.fin s ∧ ∃ (uu0 : Value), fq 1 = (Value.int .i64 t) ∧ fq 2 = (Value.pointer (some ⟨b1, 0, none⟩)) ∧ fq 6 = uu0 ∧ St wd2 wq [(Ty.sl (Ty.i .i64)).at uu0 s]) ?_ ?_
  · refine W.forN (fun k (s : (List Int)) fq wq => ∃ (uu0 : Value), fq 1 = (Value.int .i64 t) ∧ fq 2 = (Value.pointer (some ⟨b1, 0, none⟩)) ∧ fq 6 = uu0 ∧ fq 7 = Value.int .i64 (k : Int) ∧ InR .i64 (k : Int) ∧ St wd2 wq [(Ty.sl (Ty.i .i64)).at uu0 s]) hres14 ⟨u9, rfl, rfl, rfl, rfl, (inR_i64.2 (show (-9223372036854775808 : Int) ≤ 0 ∧ (0 : Int) ≤ 9223372036854775807 from by decide)), hS11⟩ ?_ ?_
    · intro k15 x16 ct17 f18 wd19 hk20 hb21 hI22 hbrk23 hret24
      replace hI22 : ∃ (uu0 : Value), f18 1 = (Value.int .i64 t) ∧ f18 2 = (Value.pointer (some ⟨b1, 0, none⟩)) ∧ f18 6 = uu0 ∧ f18 7 = Value.int .i64 (k15 : Int) ∧ InR .i64 (k15 : Int) ∧ St wd2 wd19 [(Ty.sl (Ty.i .i64)).at uu0 x16] := hI22
      replace hb21 : p_spec_l04Weights_L1  k15 x16 = some ct17 := hb21
      unfold p_spec_l04Weights_L1 at hb21
      obtain ⟨u25, hf26, hf27, hf28, hf29, hr30, hS31⟩ := hI22
      refine W.seq (W.seq (W.region ?_))
      refine WL.val (Value.int .i64 (k15 : Int)) _ (op_move hf29) rfl ?_
      refine WL.val (Value.pointer (some ⟨b1, 0, none⟩)) _ (op_fieldAddr fd_26_0 hf27) rfl ?_
      refine WL.val v_r_Table _ (op_load one_22 rfl (BoxAt.cell (BoxAt.lift hS31.ext hx6) rfl)) rfl ?_
      have hr32 := inR_len (Ty.lift _ (Ext.trans hE7 hS31.ext) r_r_Table)
      refine WL.val (Value.int .i64 ((r_Table).length : Int)) _ (op_lenL sl_22 (Ty.lift _ (Ext.trans hE7 hS31.ext) r_r_Table) rfl) rfl ?_
      refine WL.val (Value.bool (decide ((k15 : Int) < ((r_Table).length : Int)))) _ (op_lss rfl rfl) rfl ?_
      have hl33 : (k15 : Int) < ((r_Table).length : Int) := by omega
      refine WL.nil ?_
      show W _ _ _ _ _ _
      refine W.condT (decide ((k15 : Int) < ((r_Table).length : Int))) rfl (decide_eq_true hl33) ?_
      refine W.skip ?_
      show W _ _ _ _ _ _
      refine W.seq ?_
      refine W.block ?_
      refine W.region ?_
      refine WL.val u25 _ (op_move hf28) rfl ?_
      refine WL.litFlat (t := (Ty.i .i64)) (flat_i .i64) [(Value.int .i64 (1 : Int))] [(1 : Int)] hS31 sl_35 rfl rfl (fillL rfl ⟨rfl, rfl, rfl, trivial⟩) rfl rfl (litL ⟨⟨rfl, (inR_i64.2 (show (-9223372036854775808 : Int) ≤ 1 ∧ (1 : Int) ≤ 9223372036854775807 from by decide))⟩, trivial⟩) rfl ?_
      intro u35 wd36 hS37 he38
      replace hS37 : St wd2 wd36 [(Ty.sl (Ty.i .i64)).at u25 x16, (Ty.sl (Ty.i .i64)).at u35 ([(1 : Int)] : (List Int))] := hS37
      obtain ⟨x39, hx40, hb21⟩ := bs hb21
      refine WL.append (flat_i .i64) hS37 (k := 0) rfl sl_35 rfl rfl rfl rfl (St.rep (t := (Ty.sl (Ty.i .i64))) hS37 1 rfl) hx40 rfl ?_
      intro u41 wd42 hS43 hz44
      replace hS43 : St wd2 wd42 [(Ty.sl (Ty.i .i64)).at u41 x39, (Ty.sl (Ty.i .i64)).at u35 ([(1 : Int)] : (List Int))] := hS43
      refine WL.val u41 _ (op_assign rfl) rfl ?_
      refine WL.nil ?_
      show W _ _ _ _ _ _
      refine W.region ?_
      refine WL.val (Value.int .i64 (k15 : Int)) _ (op_move hf29) rfl ?_
      refine WL.val (Value.int .i64 (w64 ((k15 : Int) + (1 : Int)))) _ (op_add rfl rfl) rfl ?_
      refine WL.val (Value.int .i64 (w64 ((k15 : Int) + (1 : Int)))) _ (op_assign rfl) rfl ?_
      refine WL.nil ?_
      obtain rfl := Option.some.inj hb21
      show ∃ s, _ = Ctl.next s ∧ _
      exact ⟨_, rfl, u41, hf26, hf27, rfl, (ctr_next hl33 hr32), (ctr_rng hl33 hr32), (St.pick hS43 [0] rfl)⟩
    · intro x51 f46 wd47 hs48 hI49
      replace hI49 : ∃ (uu0 : Value), f46 1 = (Value.int .i64 t) ∧ f46 2 = (Value.pointer (some ⟨b1, 0, none⟩)) ∧ f46 6 = uu0 ∧ f46 7 = Value.int .i64 (((r_Table).length : Nat) : Int) ∧ InR .i64 (((r_Table).length : Nat) : Int) ∧ St wd2 wd47 [(Ty.sl (Ty.i .i64)).at uu0 x51] := hI49
      obtain ⟨u52, hf53, hf54, hf55, hf56, hr57, hS58⟩ := hI49
      refine W.seq (W.seq (W.region ?_))
      refine WL.val (Value.int .i64 (((r_Table).length : Nat) : Int)) _ (op_move hf56) rfl ?_
      refine WL.val (Value.pointer (some ⟨b1, 0, none⟩)) _ (op_fieldAddr fd_26_0 hf54) rfl ?_
      refine WL.val v_r_Table _ (op_load one_22 rfl (BoxAt.cell (BoxAt.lift hS58.ext hx6) rfl)) rfl ?_
      have hr59 := inR_len (Ty.lift _ (Ext.trans hE7 hS58.ext) r_r_Table)
      refine WL.val (Value.int .i64 ((r_Table).length : Int)) _ (op_lenL sl_22 (Ty.lift _ (Ext.trans hE7 hS58.ext) r_r_Table) rfl) rfl ?_
      refine WL.val (Value.bool (decide ((((r_Table).length : Nat) : Int) < ((r_Table).length : Int)))) _ (op_lss rfl rfl) rfl ?_
      have hl60 : ¬ (((r_Table).length : Nat) : Int) < ((r_Table).length : Int) := by omega
      refine WL.nil ?_
      show W _ _ _ _ _ _
      refine W.condF (decide ((((r_Table).length : Nat) : Int) < ((r_Table).length : Int))) rfl (decide_eq_false hl60) ?_
      refine W.exit ?_
      show _ = _ ∧ _
      exact ⟨rfl, _, hs48, u52, hf53, hf54, hf55, hS58⟩
  · rintro f61 wd62 ⟨x65, rfl, hq63⟩
    replace h := onRes_fin h
    replace hq63 : ∃ (uu0 : Value), f61 1 = (Value.int .i64 t) ∧ f61 2 = (Value.pointer (some ⟨b1, 0, none⟩)) ∧ f61 6 = uu0 ∧ St wd2 wd62 [(Ty.sl (Ty.i .i64)).at uu0 x65] := hq63
    obtain ⟨u66, hf67, hf68, hf69, hS70⟩ := hq63
    show W _ _ _ _ _ _
    refine W.seq ?_
    obtain ⟨res71, hres72, h⟩ := bs h
    refine W.blockLoop (fun fq wq => ∃ s, res71 = Res.fin s ∧ ∃ (uu0 : Value), fq 6 = uu0 ∧ St wd2 wq [(Ty.sl (Ty.i .i64)).at uu0 s.1]) ?_ ?_
    · refine W.whileC (fun (s : (List Int) × Int) fq wq => ∃ (uu0 : Value), fq 1 = Value.int .i64 s.2 ∧ InR .i64 s.2 ∧ fq 2 = (Value.pointer (some ⟨b1, 0, none⟩)) ∧ fq 6 = uu0 ∧ St wd2 wq [(Ty.sl (Ty.i .i64)).at uu0 s.1]) hres72 ⟨u66, hf67, r_t, hf68, hf69, hS70⟩ ?_
      intro s151 ct76 f77 wd78 hb80 hI81 hbrk82 hret83
      obtain ⟨x74, x75⟩ := s151
      replace hI81 : ∃ (uu0 : Value), f77 1 = Value.int .i64 x75 ∧ InR .i64 x75 ∧ f77 2 = (Value.pointer (some ⟨b1, 0, none⟩)) ∧ f77 6 = uu0 ∧ St wd2 wd78 [(Ty.sl (Ty.i .i64)).at uu0 x74] := hI81
      replace hb80 : p_spec_l04Weights_L2 r_Table  x74 x75 = some ct76 := hb80
      unfold p_spec_l04Weights_L2 at hb80
      obtain ⟨u84, hf85, hr86, hf87, hf88, hS89⟩ := hI81
      refine W.seq (W.seq (W.region ?_))
      refine WL.val (Value.int .i64 x75) _ (op_move hf85) rfl ?_
      refine WL.val (Value.bool (decide (x75 > (0 : Int)))) _ (op_gtr rfl rfl) rfl ?_
      refine WL.nil ?_
      show W _ _ _ _ _ _
      refine W.cond (decide (x75 > (0 : Int))) rfl (fun hc90 => ?_) (fun hc90 => ?_)
      · replace hb80 := ip hb80 hc90
        refine W.skip ?_
        show W _ _ _ _ _ _
        refine W.seq ?_
        refine W.block ?_
        refine W.seq (W.region ?_)
        refine WL.val (Value.agg #[v_r_Table]) _ (op_loadBox st_26 hf87 (BoxAt.lift hS89.ext hx6) rfl rfl) rfl ?_
        refine WL.val u84 _ (op_move hf88) rfl ?_
        obtain ⟨x92, hx93, hb80⟩ := bs hb80
        refine WL.call _ (op_call fn_76 (args2 rfl rfl)) (c_spec_l04Next (Ty.lift _ (Ext.trans hE7 hS89.ext) r_r_Table) (St.rep (t := (Ty.sl (Ty.i .i64))) hS89 0 rfl) hx93) rfl ?_
        rintro u94 wd95 ⟨_, rfl, he96, hs97⟩
        have hS98 := St.join hS89 he96 hs97
        replace hS98 : St wd2 wd95 [(Ty.sl (Ty.i .i64)).at u84 x74, (Ty.sl (Ty.i .i64)).at u94 x92] := hS98
        refine WL.val u94 _ (op_assign rfl) rfl ?_
        refine WL.nil ?_
        show W _ _ _ _ _ _
        refine W.seq (W.region ?_)
        refine WL.val (Value.int .i64 (0 : Int)) _ (op_assign rfl) rfl ?_
        refine WL.nil ?_
        show W _ _ _ _ _ _
        obtain ⟨res99, hres100, hb80⟩ := bs hb80
        refine W.blockLoop (fun fq wq => ∃ s, res99 = Res.fin s ∧ fq 1 = (Value.int .i64 x75) ∧ fq 2 = (Value.pointer (some ⟨b1, 0, none⟩)) ∧ fq 6 = u94 ∧ St wd2 wq [(Ty.sl (Ty.i .i64)).at u94 x92]) ?_ ?_
        · refine W.forN (fun k (s : Unit) fq wq => fq 1 = (Value.int .i64 x75) ∧ fq 2 = (Value.pointer (some ⟨b1, 0, none⟩)) ∧ fq 6 = u94 ∧ fq 8 = Value.int .i64 (k : Int) ∧ InR .i64 (k : Int) ∧ St wd2 wq [(Ty.sl (Ty.i .i64)).at u94 x92]) hres100 ⟨hf85, hf87, rfl, rfl, (inR_i64.2 (show (-9223372036854775808 : Int) ≤ 0 ∧ (0 : Int) ≤ 9223372036854775807 from by decide)), (St.pick hS98 [1] rfl)⟩ ?_ ?_
          · intro k101 s128 ct102 f103 wd104 hk105 hb106 hI107 hbrk108 hret109
            obtain ⟨⟩ := s128
            replace hI107 : f103 1 = (Value.int .i64 x75) ∧ f103 2 = (Value.pointer (some ⟨b1, 0, none⟩)) ∧ f103 6 = u94 ∧ f103 8 = Value.int .i64 (k101 : Int) ∧ InR .i64 (k101 : Int) ∧ St wd2 wd104 [(Ty.sl (Ty.i .i64)).at u94 x92] := hI107
            replace hb106 : p_spec_l04Weights_L3 x92 k101  = some ct102 := hb106
            unfold p_spec_l04Weights_L3 at hb106
            obtain ⟨hf110, hf111, hf112, hf113, hr114, hS115⟩ := hI107
            refine W.seq (W.seq (W.region ?_))
            refine WL.val (Value.int .i64 (k101 : Int)) _ (op_move hf113) rfl ?_
            refine WL.val u94 _ (op_move hf112) rfl ?_
            have hr116 := inR_len (St.rep (t := (Ty.sl (Ty.i .i64))) hS115 0 rfl)
            refine WL.val (Value.int .i64 ((x92).length : Int)) _ (op_lenL sl_35 (St.rep (t := (Ty.sl (Ty.i .i64))) hS115 0 rfl) rfl) rfl ?_
            refine WL.val (Value.bool (decide ((k101 : Int) < ((x92).length : Int)))) _ (op_lss rfl rfl) rfl ?_
            have hl117 : (k101 : Int) < ((x92).length : Int) := by omega
            refine WL.nil ?_
            show W _ _ _ _ _ _
            refine W.condT (decide ((k101 : Int) < ((x92).length : Int))) rfl (decide_eq_true hl117) ?_
            refine W.skip ?_
            show W _ _ _ _ _ _
            refine W.seq ?_
            refine W.block ?_
            refine W.seq (W.region ?_)
            refine WL.val u94 _ (op_move hf112) rfl ?_
            refine WL.val (Value.int .i64 (k101 : Int)) _ (op_move hf113) rfl ?_
            obtain ⟨x119, hx122, hb106⟩ := bs hb106
            obtain ⟨ha120, hb121, hx122⟩ := idx_some hx122
            refine WL.val (Value.pointer (some (elA u94 ((k101 : Int)).toNat))) _ (op_idx sl_35 (St.rep (t := (Ty.sl (Ty.i .i64))) hS115 0 rfl) rfl rfl ha120 hb121) rfl ?_
            obtain ⟨u123, hc124, hr125⟩ := repSl.el (St.rep (t := (Ty.sl (Ty.i .i64))) hS115 0 rfl) hx122
            obtain ⟨rfl, hr125⟩ := hr125
            refine WL.val (Value.int .i64 x119) _ (op_load one_2 rfl hc124) rfl ?_
            refine WL.val (Value.bool (decide (x119 > (1000000 : Int)))) _ (op_gtr rfl rfl) rfl ?_
            refine WL.nil ?_
            show W _ _ _ _ _ _
            refine W.cond (decide (x119 > (1000000 : Int))) rfl (fun hc126 => ?_) (fun hc126 => ?_)
            · replace hb106 := ip hb106 hc126
              refine W.seq (W.region ?_)
              refine WL.val (Value.slice none 0 0) _ (op_assign rfl) rfl ?_
              refine WL.val (Value.bool false) _ (op_assign rfl) rfl ?_
              refine WL.nil ?_
              show W _ _ _ _ _ _
              refine W.ret ?_
              obtain rfl := Option.some.inj hb106
              obtain rfl := hret109 _ rfl
              replace hb80 := onRes_ret hb80
              obtain rfl := Option.some.inj hb80
              obtain rfl := hret83 _ rfl
              replace h := onRes_ret h
              obtain rfl := Option.some.inj h
              show FinP _ _ _ _ _ _ _
              exact FinP.ret _ (res2 rfl rfl rfl) ⟨(Value.slice none 0 0), rfl, (Ext.trans hE7 hS115.ext), (St.out (St.pick (St.addNil (Ty.i .i64) hS115) [1] rfl) (hE7))⟩
            · replace hb106 := inegb hb106 hc126
              refine W.skip ?_
              show W _ _ _ _ _ _
              refine W.region ?_
              refine WL.val (Value.int .i64 (k101 : Int)) _ (op_move hf113) rfl ?_
              refine WL.val (Value.int .i64 (w64 ((k101 : Int) + (1 : Int)))) _ (op_add rfl rfl) rfl ?_
              refine WL.val (Value.int .i64 (w64 ((k101 : Int) + (1 : Int)))) _ (op_assign rfl) rfl ?_
              refine WL.nil ?_
              obtain rfl := Option.some.inj hb106
              show ∃ s, _ = Ctl.next s ∧ _
              exact ⟨_, rfl, hf110, hf111, hf112, (ctr_next hl117 hr116), (ctr_rng hl117 hr116), hS115⟩
          · intro s133 f129 wd130 hs131 hI132
            obtain ⟨⟩ := s133
            replace hI132 : f129 1 = (Value.int .i64 x75) ∧ f129 2 = (Value.pointer (some ⟨b1, 0, none⟩)) ∧ f129 6 = u94 ∧ f129 8 = Value.int .i64 (((x92).length : Nat) : Int) ∧ InR .i64 (((x92).length : Nat) : Int) ∧ St wd2 wd130 [(Ty.sl (Ty.i .i64)).at u94 x92] := hI132
            obtain ⟨hf134, hf135, hf136, hf137, hr138, hS139⟩ := hI132
            refine W.seq (W.seq (W.region ?_))
            refine WL.val (Value.int .i64 (((x92).length : Nat) : Int)) _ (op_move hf137) rfl ?_
            refine WL.val u94 _ (op_move hf136) rfl ?_
            have hr140 := inR_len (St.rep (t := (Ty.sl (Ty.i .i64))) hS139 0 rfl)
            refine WL.val (Value.int .i64 ((x92).length : Int)) _ (op_lenL sl_35 (St.rep (t := (Ty.sl (Ty.i .i64))) hS139 0 rfl) rfl) rfl ?_
            refine WL.val (Value.bool (decide ((((x92).length : Nat) : Int) < ((x92).length : Int)))) _ (op_lss rfl rfl) rfl ?_
            have hl141 : ¬ (((x92).length : Nat) : Int) < ((x92).length : Int) := by omega
            refine WL.nil ?_
            show W _ _ _ _ _ _
            refine W.condF (decide ((((x92).length : Nat) : Int) < ((x92).length : Int))) rfl (decide_eq_false hl141) ?_
            refine W.exit ?_
            show _ = _ ∧ _
            exact ⟨rfl, _, hs131, hf134, hf135, hf136, hS139⟩
        · rintro f142 wd143 ⟨s145, rfl, hq144⟩
          replace hb80 := onRes_fin hb80
          obtain ⟨⟩ := s145
          replace hq144 : f142 1 = (Value.int .i64 x75) ∧ f142 2 = (Value.pointer (some ⟨b1, 0, none⟩)) ∧ f142 6 = u94 ∧ St wd2 wd143 [(Ty.sl (Ty.i .i64)).at u94 x92] := hq144
          obtain ⟨hf146, hf147, hf148, hS149⟩ := hq144
          show W _ _ _ _ _ _
          refine W.region ?_
          refine WL.val (Value.int .i64 x75) _ (op_move hf146) rfl ?_
          refine WL.val (Value.int .i64 (w64 (x75 - (1 : Int)))) _ (op_sub rfl rfl) rfl ?_
          refine WL.val (Value.int .i64 (w64 (x75 - (1 : Int)))) _ (op_assign rfl) rfl ?_
          refine WL.nil ?_
          obtain rfl := Option.some.inj hb80
          show ∃ s, _ = Ctl.next s ∧ _
          exact ⟨_, rfl, u94, rfl, (inR_wrap _ _), hf147, hf148, hS149⟩
      · replace hb80 := inegb hb80 hc90
        refine W.exit ?_
        obtain rfl := Option.some.inj hb80
        show _ = _ ∧ _
        exact ⟨rfl, _, hbrk82 _ rfl, u84, hf88, hS89⟩
    · rintro f152 wd153 ⟨s155, rfl, hq154⟩
      replace h := onRes_fin h
      obtain ⟨x156, x157⟩ := s155
      replace hq154 : ∃ (uu0 : Value), f152 6 = uu0 ∧ St wd2 wd153 [(Ty.sl (Ty.i .i64)).at uu0 x156] := hq154
      replace h : (_ : Option _) = _ := h
      dsimp only at h
      obtain ⟨u158, hf159, hS160⟩ := hq154
      show W _ _ _ _ _ _
      refine W.seq (W.region ?_)
      refine WL.val u158 _ (op_move hf159) rfl ?_
      refine WL.val u158 _ (op_assign rfl) rfl ?_
      refine WL.val (Value.bool true) _ (op_assign rfl) rfl ?_
      refine WL.nil ?_
      show W _ _ _ _ _ _
      refine W.ret ?_
      obtain rfl := Option.some.inj h
      show FinP _ _ _ _ _ _ _
      exact FinP.ret _ (res2 rfl rfl rfl) ⟨u158, rfl, (Ext.trans hE7 hS160.ext), (St.out (St.pick hS160 [0] rfl) (hE7))⟩

theorem c_spec_WeightsOf {w : World} {r_Table : (List (List (List Int)))} {v_r_Table : Value} {t : Int} (r_r_Table : (Ty.sl (Ty.sl (Ty.sl (Ty.i .i64)))).rep w v_r_Table r_Table) (r_t : InR .i64 t) {res : (List Int) × Int} (h : p_spec_WeightsOf r_Table t  = some res) :
    Ret Try.prog 19 #[(Value.agg #[v_r_Table]), (Value.int .i64 t)] w (fun v w' => ∃ (u0 : Value), v = (Value.tuple #[u0, Value.int .i64 res.2]) ∧ InR .i64 res.2 ∧ Ext w w' ∧ Sep w.heap.size w' [(Ty.sl (Ty.i .i64)).at u0 res.1]) := by
  unfold p_spec_WeightsOf at h
  have hS0 : St w w [] := St.start w
  refine Ret.start (fn := Try.f19) Try.func19 rfl 25 rfl rfl ?_
  refine W.seq (W.region ?_)
  refine WL.box hS0 rfl (cs := [v_r_Table]) rfl rfl ?_
  intro b1 wd2 hS3 he4 hx5
  replace hS3 : St w wd2 [bx b1 [v_r_Table]] := hS3
  have hx6 := St.boxAt hS3 0 rfl
  have hE7 : Ext w wd2 := hS3.ext
  have hS8 : St wd2 wd2 [] := St.start wd2
  refine WL.val (Value.slice none 0 0) _ (op_assign rfl) rfl ?_
  refine WL.val (Value.int .i64 (0 : Int)) _ (op_assign rfl) rfl ?_
  refine WL.nil ?_
  show W _ _ _ _ _ _
  refine W.seq ?_
  refine W.block ?_
  refine W.seq (W.region ?_)
  refine WL.val (Value.agg #[v_r_Table]) _ (op_loadBox st_26 rfl (BoxAt.lift hS8.ext hx6) rfl rfl) rfl ?_
  obtain ⟨x9, hx10, h⟩ := bs h
  refine WL.call _ (op_call fn_35 (args1 rfl)) (c_spec_l03Is (Ty.lift _ (Ext.trans hE7 hS8.ext) r_r_Table) hx10) rfl ?_
  rintro _ wd11 ⟨rfl, he12⟩
  have hS14 := St.extend hS8 he12
  replace hS14 : St wd2 wd11 [] := hS14
  refine WL.val (Value.bool (!x9)) _ (op_not rfl) rfl ?_
  refine WL.val (Value.bool (!x9)) _ (op_assign rfl) rfl ?_
  refine WL.nil ?_
  show W _ _ _ _ _ _
  refine W.cond (!x9) rfl (fun hc15 => ?_) (fun hc15 => ?_)
  · replace h := ip h hc15
    refine W.seq (W.region ?_)
    refine WL.val (Value.slice none 0 0) _ (op_assign rfl) rfl ?_
    refine WL.val (Value.int .i64 (1 : Int)) _ (op_assign rfl) rfl ?_
    refine WL.nil ?_
    show W _ _ _ _ _ _
    refine W.ret ?_
    obtain rfl := Option.some.inj h
    show FinP _ _ _ _ _ _ _
    exact FinP.ret _ (res2 rfl rfl rfl) ⟨(Value.slice none 0 0), rfl, (inR_i64.2 (show (-9223372036854775808 : Int) ≤ 1 ∧ (1 : Int) ≤ 9223372036854775807 from by decide)), (Ext.trans hE7 hS14.ext), (St.out (St.pick (St.addNil (Ty.i .i64) hS14) [0] rfl) (hE7))⟩
  · replace h := inegb h hc15
    refine W.seq (W.region ?_)
    refine WL.val (Value.int .i64 t) _ (op_move rfl) rfl ?_
    obtain ⟨x17, hx18, h⟩ := bs h
    refine WL.call _ (op_call fn_47 (args3 rfl rfl rfl)) (c_spec_l01In r_t (inR_i64.2 (show (-9223372036854775808 : Int) ≤ 0 ∧ (0 : Int) ≤ 9223372036854775807 from by decide)) (inR_i64.2 (show (-9223372036854775808 : Int) ≤ 20 ∧ (20 : Int) ≤ 9223372036854775807 from by decide)) hx18) rfl ?_
    rintro _ wd19 ⟨rfl, he20⟩
    have hS22 := St.extend hS14 he20
    replace hS22 : St wd2 wd19 [] := hS22
    refine WL.val (Value.bool (!x17)) _ (op_not rfl) rfl ?_
    refine WL.val (Value.bool (!x17)) _ (op_assign rfl) rfl ?_
    refine WL.nil ?_
    show W _ _ _ _ _ _
    refine W.cond (!x17) rfl (fun hc23 => ?_) (fun hc23 => ?_)
    · replace h := ip h hc23
      refine W.seq (W.region ?_)
      refine WL.val (Value.slice none 0 0) _ (op_assign rfl) rfl ?_
      refine WL.val (Value.int .i64 (2 : Int)) _ (op_assign rfl) rfl ?_
      refine WL.nil ?_
      show W _ _ _ _ _ _
      refine W.ret ?_
      obtain rfl := Option.some.inj h
      show FinP _ _ _ _ _ _ _
      exact FinP.ret _ (res2 rfl rfl rfl) ⟨(Value.slice none 0 0), rfl, (inR_i64.2 (show (-9223372036854775808 : Int) ≤ 2 ∧ (2 : Int) ≤ 9223372036854775807 from by decide)), (Ext.trans hE7 hS22.ext), (St.out (St.pick (St.addNil (Ty.i .i64) hS22) [0] rfl) (hE7))⟩
    · replace h := inegb h hc23
      refine W.skip ?_
      show W _ _ _ _ _ _
      refine W.seq (W.region ?_)
      refine WL.val (Value.agg #[v_r_Table]) _ (op_loadBox st_26 rfl (BoxAt.lift hS22.ext hx6) rfl rfl) rfl ?_
      refine WL.val (Value.int .i64 t) _ (op_move rfl) rfl ?_
      obtain ⟨x25, hx26, h⟩ := bs h
      refine WL.call _ (op_call fn_48 (args2 rfl rfl)) (c_spec_l04Weights (Ty.lift _ (Ext.trans hE7 hS22.ext) r_r_Table) r_t hx26) rfl ?_
      rintro _ wd28 ⟨u27, rfl, he29, hs30⟩
      have hS31 := St.join hS22 he29 hs30
      replace hS31 : St wd2 wd28 [(Ty.sl (Ty.i .i64)).at u27 x25.1] := hS31
      refine WL.val (Value.tuple #[u27, (Value.bool x25.2)]) _ (op_move rfl) rfl ?_
      refine WL.val u27 _ (op_extract rfl rfl) rfl ?_
      refine WL.val (Value.bool x25.2) _ (op_extract rfl rfl) rfl ?_
      refine WL.val u27 _ (op_assign rfl) rfl ?_
      refine WL.val (Value.bool x25.2) _ (op_assign rfl) rfl ?_
      refine WL.nil ?_
      show W _ _ _ _ _ _
      refine W.seq (W.seq (W.region ?_))
      refine WL.val (Value.bool x25.2) _ (op_move rfl) rfl ?_
      refine WL.val (Value.bool (!x25.2)) _ (op_not rfl) rfl ?_
      refine WL.nil ?_
      show W _ _ _ _ _ _
      refine W.cond (!x25.2) rfl (fun hc32 => ?_) (fun hc32 => ?_)
      · replace h := ip h hc32
        refine W.seq (W.region ?_)
        refine WL.val (Value.slice none 0 0) _ (op_assign rfl) rfl ?_
        refine WL.val (Value.int .i64 (3 : Int)) _ (op_assign rfl) rfl ?_
        refine WL.nil ?_
        show W _ _ _ _ _ _
        refine W.ret ?_
        obtain rfl := Option.some.inj h
        show FinP _ _ _ _ _ _ _
        exact FinP.ret _ (res2 rfl rfl rfl) ⟨(Value.slice none 0 0), rfl, (inR_i64.2 (show (-9223372036854775808 : Int) ≤ 3 ∧ (3 : Int) ≤ 9223372036854775807 from by decide)), (Ext.trans hE7 hS31.ext), (St.out (St.pick (St.addNil (Ty.i .i64) hS31) [1] rfl) (hE7))⟩
      · replace h := inegb h hc32
        refine W.skip ?_
        show W _ _ _ _ _ _
        refine W.seq (W.region ?_)
        refine WL.val u27 _ (op_move rfl) rfl ?_
        refine WL.val u27 _ (op_assign rfl) rfl ?_
        refine WL.val (Value.int .i64 (0 : Int)) _ (op_assign rfl) rfl ?_
        refine WL.nil ?_
        show W _ _ _ _ _ _
        refine W.ret ?_
        obtain rfl := Option.some.inj h
        show FinP _ _ _ _ _ _ _
        exact FinP.ret _ (res2 rfl rfl rfl) ⟨u27, rfl, (inR_i64.2 (show (-9223372036854775808 : Int) ≤ 0 ∧ (0 : Int) ≤ 9223372036854775807 from by decide)), (Ext.trans hE7 hS31.ext), (St.out (St.pick hS31 [0] rfl) (hE7))⟩

theorem c_math_bits_Mul32 {w : World} {x : Int} {y : Int} (r_x : InR .u32 x) (r_y : InR .u32 y) {res : Int × Int} (h : p_math_bits_Mul32 x y  = some res) :
    Ret Try.prog 102 #[(Value.int .u32 x), (Value.int .u32 y)] w (fun v w' => v = (Value.tuple #[Value.int .u32 res.1, Value.int .u32 res.2]) ∧ InR .u32 res.1 ∧ InR .u32 res.2 ∧ Ext w w') := by
  unfold p_math_bits_Mul32 at h
  have hS0 : St w w [] := St.start w
  refine Ret.start (fn := Try.f102) Try.func102 rfl 17 rfl rfl ?_
  refine W.seq (W.region ?_)
  refine WL.val (Value.int .u32 (0 : Int)) _ (op_assign rfl) rfl ?_
  refine WL.val (Value.int .u32 (0 : Int)) _ (op_assign rfl) rfl ?_
  refine WL.nil ?_
  show W _ _ _ _ _ _
  refine W.seq (W.region ?_)
  refine WL.val (Value.int .u32 x) _ (op_move rfl) rfl ?_
  refine WL.val (Value.int .u64 (IntKind.u64.wrap x)) _ (op_convert rfl it_105 it_108) rfl ?_
  refine WL.val (Value.int .u32 y) _ (op_move rfl) rfl ?_
  refine WL.val (Value.int .u64 (IntKind.u64.wrap y)) _ (op_convert rfl it_105 it_108) rfl ?_
  refine WL.val (Value.int .u64 (IntKind.u64.wrap ((IntKind.u64.wrap x) * (IntKind.u64.wrap y)))) _ (op_mul rfl rfl) rfl ?_
  refine WL.val (Value.int .u64 (IntKind.u64.wrap ((IntKind.u64.wrap x) * (IntKind.u64.wrap y)))) _ (op_assign rfl) rfl ?_
  refine WL.nil ?_
  show W _ _ _ _ _ _
  refine W.seq (W.region ?_)
  refine WL.val (Value.int .u64 (IntKind.u64.wrap ((IntKind.u64.wrap x) * (IntKind.u64.wrap y)))) _ (op_move rfl) rfl ?_
  refine WL.val (Value.int .u64 (((IntKind.u64.wrap ((IntKind.u64.wrap x) * (IntKind.u64.wrap y)))).fdiv (2 ^ 32))) _ (op_shr (b := 32) rfl rfl (by decide)) rfl ?_
  refine WL.val (Value.int .u32 (IntKind.u32.wrap (((IntKind.u64.wrap ((IntKind.u64.wrap x) * (IntKind.u64.wrap y)))).fdiv (2 ^ 32)))) _ (op_convert rfl it_108 it_105) rfl ?_
  refine WL.val (Value.int .u64 (IntKind.u64.wrap ((IntKind.u64.wrap x) * (IntKind.u64.wrap y)))) _ (op_move rfl) rfl ?_
  refine WL.val (Value.int .u32 (IntKind.u32.wrap (IntKind.u64.wrap ((IntKind.u64.wrap x) * (IntKind.u64.wrap y))))) _ (op_convert rfl it_108 it_105) rfl ?_
  refine WL.val (Value.int .u32 (IntKind.u32.wrap (((IntKind.u64.wrap ((IntKind.u64.wrap x) * (IntKind.u64.wrap y)))).fdiv (2 ^ 32)))) _ (op_assign rfl) rfl ?_
  refine WL.val (Value.int .u32 (IntKind.u32.wrap (IntKind.u64.wrap ((IntKind.u64.wrap x) * (IntKind.u64.wrap y))))) _ (op_assign rfl) rfl ?_
  refine WL.nil ?_
  show W _ _ _ _ _ _
  refine W.ret ?_
  obtain rfl := Option.some.inj h
  show FinP _ _ _ _ _ _ _
  exact FinP.ret _ (res2 rfl rfl rfl) ⟨rfl, (inR_wrap _ _), (inR_wrap _ _), hS0.ext⟩

theorem c_math_bits_Mul64 {w : World} {x : Int} {y : Int} (r_x : InR .u64 x) (r_y : InR .u64 y) {res : Int × Int} (h : p_math_bits_Mul64 x y  = some res) :
    Ret Try.prog 103 #[(Value.int .u64 x), (Value.int .u64 y)] w (fun v w' => v = (Value.tuple #[Value.int .u64 res.1, Value.int .u64 res.2]) ∧ InR .u64 res.1 ∧ InR .u64 res.2 ∧ Ext w w') := by
  unfold p_math_bits_Mul64 at h
  have hS0 : St w w [] := St.start w
  refine Ret.start (fn := Try.f103) Try.func103 rfl 51 rfl rfl ?_
  refine W.seq (W.region ?_)
  refine WL.val (Value.int .u64 (0 : Int)) _ (op_assign rfl) rfl ?_
  refine WL.val (Value.int .u64 (0 : Int)) _ (op_assign rfl) rfl ?_
  refine WL.nil ?_
  show W _ _ _ _ _ _
  refine W.seq (W.region ?_)
  refine WL.val (Value.int .u64 x) _ (op_move rfl) rfl ?_
  refine WL.val (Value.int .u64 (andI .u64 x (4294967295 : Int))) _ (op_and rfl rfl) rfl ?_
  refine WL.val (Value.int .u64 (andI .u64 x (4294967295 : Int))) _ (op_assign rfl) rfl ?_
  refine WL.nil ?_
  show W _ _ _ _ _ _
  refine W.seq (W.region ?_)
  refine WL.val (Value.int .u64 x) _ (op_move rfl) rfl ?_
  refine WL.val (Value.int .u64 ((x).fdiv (2 ^ 32))) _ (op_shr (b := 32) rfl rfl (by decide)) rfl ?_
  refine WL.val (Value.int .u64 ((x).fdiv (2 ^ 32))) _ (op_assign rfl) rfl ?_
  refine WL.nil ?_
  show W _ _ _ _ _ _
  refine W.seq (W.region ?_)
  refine WL.val (Value.int .u64 y) _ (op_move rfl) rfl ?_
  refine WL.val (Value.int .u64 (andI .u64 y (4294967295 : Int))) _ (op_and rfl rfl) rfl ?_
  refine WL.val (Value.int .u64 (andI .u64 y (4294967295 : Int))) _ (op_assign rfl) rfl ?_
  refine WL.nil ?_
  show W _ _ _ _ _ _
  refine W.seq (W.region ?_)
  refine WL.val (Value.int .u64 y) _ (op_move rfl) rfl ?_
  refine WL.val (Value.int .u64 ((y).fdiv (2 ^ 32))) _ (op_shr (b := 32) rfl rfl (by decide)) rfl ?_
  refine WL.val (Value.int .u64 ((y).fdiv (2 ^ 32))) _ (op_assign rfl) rfl ?_
  refine WL.nil ?_
  show W _ _ _ _ _ _
  refine W.seq (W.region ?_)
  refine WL.val (Value.int .u64 (andI .u64 x (4294967295 : Int))) _ (op_move rfl) rfl ?_
  refine WL.val (Value.int .u64 (andI .u64 y (4294967295 : Int))) _ (op_move rfl) rfl ?_
  refine WL.val (Value.int .u64 (IntKind.u64.wrap ((andI .u64 x (4294967295 : Int)) * (andI .u64 y (4294967295 : Int))))) _ (op_mul rfl rfl) rfl ?_
  refine WL.val (Value.int .u64 (IntKind.u64.wrap ((andI .u64 x (4294967295 : Int)) * (andI .u64 y (4294967295 : Int))))) _ (op_assign rfl) rfl ?_
  refine WL.nil ?_
  show W _ _ _ _ _ _
  refine W.seq (W.region ?_)
  refine WL.val (Value.int .u64 ((x).fdiv (2 ^ 32))) _ (op_move rfl) rfl ?_
  refine WL.val (Value.int .u64 (andI .u64 y (4294967295 : Int))) _ (op_move rfl) rfl ?_
  refine WL.val (Value.int .u64 (IntKind.u64.wrap (((x).fdiv (2 ^ 32)) * (andI .u64 y (4294967295 : Int))))) _ (op_mul rfl rfl) rfl ?_
  refine WL.val (Value.int .u64 (IntKind.u64.wrap ((andI .u64 x (4294967295 : Int)) * (andI .u64 y (4294967295 : Int))))) _ (op_move rfl) rfl ?_
  refine WL.val (Value.int .u64 (((IntKind.u64.wrap ((andI .u64 x (4294967295 : Int)) * (andI .u64 y (4294967295 : Int))))).fdiv (2 ^ 32))) _ (op_shr (b := 32) rfl rfl (by decide)) rfl ?_
  refine WL.val (Value.int .u64 (IntKind.u64.wrap ((IntKind.u64.wrap (((x).fdiv (2 ^ 32)) * (andI .u64 y (4294967295 : Int)))) + (((IntKind.u64.wrap ((andI .u64 x (4294967295 : Int)) * (andI .u64 y (4294967295 : Int))))).fdiv (2 ^ 32))))) _ (op_add rfl rfl) rfl ?_
  refine WL.val (Value.int .u64 (IntKind.u64.wrap ((IntKind.u64.wrap (((x).fdiv (2 ^ 32)) * (andI .u64 y (4294967295 : Int)))) + (((IntKind.u64.wrap ((andI .u64 x (4294967295 : Int)) * (andI .u64 y (4294967295 : Int))))).fdiv (2 ^ 32))))) _ (op_assign rfl) rfl ?_
  refine WL.nil ?_
  show W _ _ _ _ _ _
  refine W.seq (W.region ?_)
  refine WL.val (Value.int .u64 (IntKind.u64.wrap ((IntKind.u64.wrap (((x).fdiv (2 ^ 32)) * (andI .u64 y (4294967295 : Int)))) + (((IntKind.u64.wrap ((andI .u64 x (4294967295 : Int)) * (andI .u64 y (4294967295 : Int))))).fdiv (2 ^ 32))))) _ (op_move rfl) rfl ?_
  refine WL.val (Value.int .u64 (andI .u64 (IntKind.u64.wrap ((IntKind.u64.wrap (((x).fdiv (2 ^ 32)) * (andI .u64 y (4294967295 : Int)))) + (((IntKind.u64.wrap ((andI .u64 x (4294967295 : Int)) * (andI .u64 y (4294967295 : Int))))).fdiv (2 ^ 32)))) (4294967295 : Int))) _ (op_and rfl rfl) rfl ?_
  refine WL.val (Value.int .u64 (andI .u64 (IntKind.u64.wrap ((IntKind.u64.wrap (((x).fdiv (2 ^ 32)) * (andI .u64 y (4294967295 : Int)))) + (((IntKind.u64.wrap ((andI .u64 x (4294967295 : Int)) * (andI .u64 y (4294967295 : Int))))).fdiv (2 ^ 32)))) (4294967295 : Int))) _ (op_assign rfl) rfl ?_
  refine WL.nil ?_
  show W _ _ _ _ _ _
  refine W.seq (W.region ?_)
  refine WL.val (Value.int .u64 (IntKind.u64.wrap ((IntKind.u64.wrap (((x).fdiv (2 ^ 32)) * (andI .u64 y (4294967295 : Int)))) + (((IntKind.u64.wrap ((andI .u64 x (4294967295 : Int)) * (andI .u64 y (4294967295 : Int))))).fdiv (2 ^ 32))))) _ (op_move rfl) rfl ?_
  refine WL.val (Value.int .u64 (((IntKind.u64.wrap ((IntKind.u64.wrap (((x).fdiv (2 ^ 32)) * (andI .u64 y (4294967295 : Int)))) + (((IntKind.u64.wrap ((andI .u64 x (4294967295 : Int)) * (andI .u64 y (4294967295 : Int))))).fdiv (2 ^ 32))))).fdiv (2 ^ 32))) _ (op_shr (b := 32) rfl rfl (by decide)) rfl ?_
  refine WL.val (Value.int .u64 (((IntKind.u64.wrap ((IntKind.u64.wrap (((x).fdiv (2 ^ 32)) * (andI .u64 y (4294967295 : Int)))) + (((IntKind.u64.wrap ((andI .u64 x (4294967295 : Int)) * (andI .u64 y (4294967295 : Int))))).fdiv (2 ^ 32))))).fdiv (2 ^ 32))) _ (op_assign rfl) rfl ?_
  refine WL.nil ?_
  show W _ _ _ _ _ _
  refine W.seq (W.region ?_)
  refine WL.val (Value.int .u64 (andI .u64 (IntKind.u64.wrap ((IntKind.u64.wrap (((x).fdiv (2 ^ 32)) * (andI .u64 y (4294967295 : Int)))) + (((IntKind.u64.wrap ((andI .u64 x (4294967295 : Int)) * (andI .u64 y (4294967295 : Int))))).fdiv (2 ^ 32)))) (4294967295 : Int))) _ (op_move rfl) rfl ?_
  refine WL.val (Value.int .u64 (andI .u64 x (4294967295 : Int))) _ (op_move rfl) rfl ?_
  refine WL.val (Value.int .u64 ((y).fdiv (2 ^ 32))) _ (op_move rfl) rfl ?_
  refine WL.val (Value.int .u64 (IntKind.u64.wrap ((andI .u64 x (4294967295 : Int)) * ((y).fdiv (2 ^ 32))))) _ (op_mul rfl rfl) rfl ?_
  refine WL.val (Value.int .u64 (IntKind.u64.wrap ((andI .u64 (IntKind.u64.wrap ((IntKind.u64.wrap (((x).fdiv (2 ^ 32)) * (andI .u64 y (4294967295 : Int)))) + (((IntKind.u64.wrap ((andI .u64 x (4294967295 : Int)) * (andI .u64 y (4294967295 : Int))))).fdiv (2 ^ 32)))) (4294967295 : Int)) + (IntKind.u64.wrap ((andI .u64 x (4294967295 : Int)) * ((y).fdiv (2 ^ 32))))))) _ (op_add rfl rfl) rfl ?_
  refine WL.val (Value.int .u64 (IntKind.u64.wrap ((andI .u64 (IntKind.u64.wrap ((IntKind.u64.wrap (((x).fdiv (2 ^ 32)) * (andI .u64 y (4294967295 : Int)))) + (((IntKind.u64.wrap ((andI .u64 x (4294967295 : Int)) * (andI .u64 y (4294967295 : Int))))).fdiv (2 ^ 32)))) (4294967295 : Int)) + (IntKind.u64.wrap ((andI .u64 x (4294967295 : Int)) * ((y).fdiv (2 ^ 32))))))) _ (op_assign rfl) rfl ?_
  refine WL.nil ?_
  show W _ _ _ _ _ _
  refine W.seq (W.region ?_)
  refine WL.val (Value.int .u64 ((x).fdiv (2 ^ 32))) _ (op_move rfl) rfl ?_
  refine WL.val (Value.int .u64 ((y).fdiv (2 ^ 32))) _ (op_move rfl) rfl ?_
  refine WL.val (Value.int .u64 (IntKind.u64.wrap (((x).fdiv (2 ^ 32)) * ((y).fdiv (2 ^ 32))))) _ (op_mul rfl rfl) rfl ?_
  refine WL.val (Value.int .u64 (((IntKind.u64.wrap ((IntKind.u64.wrap (((x).fdiv (2 ^ 32)) * (andI .u64 y (4294967295 : Int)))) + (((IntKind.u64.wrap ((andI .u64 x (4294967295 : Int)) * (andI .u64 y (4294967295 : Int))))).fdiv (2 ^ 32))))).fdiv (2 ^ 32))) _ (op_move rfl) rfl ?_
  refine WL.val (Value.int .u64 (IntKind.u64.wrap ((IntKind.u64.wrap (((x).fdiv (2 ^ 32)) * ((y).fdiv (2 ^ 32)))) + (((IntKind.u64.wrap ((IntKind.u64.wrap (((x).fdiv (2 ^ 32)) * (andI .u64 y (4294967295 : Int)))) + (((IntKind.u64.wrap ((andI .u64 x (4294967295 : Int)) * (andI .u64 y (4294967295 : Int))))).fdiv (2 ^ 32))))).fdiv (2 ^ 32))))) _ (op_add rfl rfl) rfl ?_
  refine WL.val (Value.int .u64 (IntKind.u64.wrap ((andI .u64 (IntKind.u64.wrap ((IntKind.u64.wrap (((x).fdiv (2 ^ 32)) * (andI .u64 y (4294967295 : Int)))) + (((IntKind.u64.wrap ((andI .u64 x (4294967295 : Int)) * (andI .u64 y (4294967295 : Int))))).fdiv (2 ^ 32)))) (4294967295 : Int)) + (IntKind.u64.wrap ((andI .u64 x (4294967295 : Int)) * ((y).fdiv (2 ^ 32))))))) _ (op_move rfl) rfl ?_
  refine WL.val (Value.int .u64 (((IntKind.u64.wrap ((andI .u64 (IntKind.u64.wrap ((IntKind.u64.wrap (((x).fdiv (2 ^ 32)) * (andI .u64 y (4294967295 : Int)))) + (((IntKind.u64.wrap ((andI .u64 x (4294967295 : Int)) * (andI .u64 y (4294967295 : Int))))).fdiv (2 ^ 32)))) (4294967295 : Int)) + (IntKind.u64.wrap ((andI .u64 x (4294967295 : Int)) * ((y).fdiv (2 ^ 32))))))).fdiv (2 ^ 32))) _ (op_shr (b := 32) rfl rfl (by decide)) rfl ?_
  refine WL.val (Value.int .u64 (IntKind.u64.wrap ((IntKind.u64.wrap ((IntKind.u64.wrap (((x).fdiv (2 ^ 32)) * ((y).fdiv (2 ^ 32)))) + (((IntKind.u64.wrap ((IntKind.u64.wrap (((x).fdiv (2 ^ 32)) * (andI .u64 y (4294967295 : Int)))) + (((IntKind.u64.wrap ((andI .u64 x (4294967295 : Int)) * (andI .u64 y (4294967295 : Int))))).fdiv (2 ^ 32))))).fdiv (2 ^ 32)))) + (((IntKind.u64.wrap ((andI .u64 (IntKind.u64.wrap ((IntKind.u64.wrap (((x).fdiv (2 ^ 32)) * (andI .u64 y (4294967295 : Int)))) + (((IntKind.u64.wrap ((andI .u64 x (4294967295 : Int)) * (andI .u64 y (4294967295 : Int))))).fdiv (2 ^ 32)))) (4294967295 : Int)) + (IntKind.u64.wrap ((andI .u64 x (4294967295 : Int)) * ((y).fdiv (2 ^ 32))))))).fdiv (2 ^ 32))))) _ (op_add rfl rfl) rfl ?_
  refine WL.val (Value.int .u64 (IntKind.u64.wrap ((IntKind.u64.wrap ((IntKind.u64.wrap (((x).fdiv (2 ^ 32)) * ((y).fdiv (2 ^ 32)))) + (((IntKind.u64.wrap ((IntKind.u64.wrap (((x).fdiv (2 ^ 32)) * (andI .u64 y (4294967295 : Int)))) + (((IntKind.u64.wrap ((andI .u64 x (4294967295 : Int)) * (andI .u64 y (4294967295 : Int))))).fdiv (2 ^ 32))))).fdiv (2 ^ 32)))) + (((IntKind.u64.wrap ((andI .u64 (IntKind.u64.wrap ((IntKind.u64.wrap (((x).fdiv (2 ^ 32)) * (andI .u64 y (4294967295 : Int)))) + (((IntKind.u64.wrap ((andI .u64 x (4294967295 : Int)) * (andI .u64 y (4294967295 : Int))))).fdiv (2 ^ 32)))) (4294967295 : Int)) + (IntKind.u64.wrap ((andI .u64 x (4294967295 : Int)) * ((y).fdiv (2 ^ 32))))))).fdiv (2 ^ 32))))) _ (op_assign rfl) rfl ?_
  refine WL.nil ?_
  show W _ _ _ _ _ _
  refine W.seq (W.region ?_)
  refine WL.val (Value.int .u64 x) _ (op_move rfl) rfl ?_
  refine WL.val (Value.int .u64 y) _ (op_move rfl) rfl ?_
  refine WL.val (Value.int .u64 (IntKind.u64.wrap (x * y))) _ (op_mul rfl rfl) rfl ?_
  refine WL.val (Value.int .u64 (IntKind.u64.wrap (x * y))) _ (op_assign rfl) rfl ?_
  refine WL.nil ?_
  show W _ _ _ _ _ _
  refine W.ret ?_
  obtain rfl := Option.some.inj h
  show FinP _ _ _ _ _ _ _
  exact FinP.ret _ (res2 rfl rfl rfl) ⟨rfl, (inR_wrap _ _), (inR_wrap _ _), hS0.ext⟩

theorem c_math_bits_Mul {w : World} {x : Int} {y : Int} (r_x : InR .u64 x) (r_y : InR .u64 y) {res : Int × Int} (h : p_math_bits_Mul x y  = some res) :
    Ret Try.prog 94 #[(Value.int .u64 x), (Value.int .u64 y)] w (fun v w' => v = (Value.tuple #[Value.int .u64 res.1, Value.int .u64 res.2]) ∧ InR .u64 res.1 ∧ InR .u64 res.2 ∧ Ext w w') := by
  unfold p_math_bits_Mul at h
  have hS0 : St w w [] := St.start w
  refine Ret.start (fn := Try.f94) Try.func94 rfl 30 rfl rfl ?_
  refine W.seq (W.region ?_)
  refine WL.val (Value.int .u64 (0 : Int)) _ (op_assign rfl) rfl ?_
  refine WL.val (Value.int .u64 (0 : Int)) _ (op_assign rfl) rfl ?_
  refine WL.nil ?_
  show W _ _ _ _ _ _
  refine W.seq ?_
  refine W.cond false rfl (fun hc1 => ?_) (fun hc1 => ?_)
  · replace h := ip h hc1
    refine W.seq (W.region ?_)
    refine WL.val (Value.int .u64 x) _ (op_move rfl) rfl ?_
    refine WL.val (Value.int .u32 (IntKind.u32.wrap x)) _ (op_convert rfl it_93 it_105) rfl ?_
    refine WL.val (Value.int .u64 y) _ (op_move rfl) rfl ?_
    refine WL.val (Value.int .u32 (IntKind.u32.wrap y)) _ (op_convert rfl it_93 it_105) rfl ?_
    obtain ⟨x3, hx4, h⟩ := bs h
    refine WL.call _ (op_call fn_102 (args2 rfl rfl)) (c_math_bits_Mul32 (inR_wrap _ _) (inR_wrap _ _) hx4) rfl ?_
    rintro _ wd7 ⟨rfl, hr5, hr6, he8⟩
    have hS10 := St.extend hS0 he8
    replace hS10 : St w wd7 [] := hS10
    refine WL.val (Value.tuple #[(Value.int .u32 x3.1), (Value.int .u32 x3.2)]) _ (op_move rfl) rfl ?_
    refine WL.val (Value.int .u32 x3.1) _ (op_extract rfl rfl) rfl ?_
    refine WL.val (Value.int .u32 x3.2) _ (op_extract rfl rfl) rfl ?_
    refine WL.val (Value.int .u32 x3.1) _ (op_assign rfl) rfl ?_
    refine WL.val (Value.int .u32 x3.2) _ (op_assign rfl) rfl ?_
    refine WL.nil ?_
    show W _ _ _ _ _ _
    refine W.seq (W.region ?_)
    refine WL.val (Value.int .u32 x3.1) _ (op_move rfl) rfl ?_
    refine WL.val (Value.int .u64 (IntKind.u64.wrap x3.1)) _ (op_convert rfl it_105 it_93) rfl ?_
    refine WL.val (Value.int .u32 x3.2) _ (op_move rfl) rfl ?_
    refine WL.val (Value.int .u64 (IntKind.u64.wrap x3.2)) _ (op_convert rfl it_105 it_93) rfl ?_
    refine WL.val (Value.int .u64 (IntKind.u64.wrap x3.1)) _ (op_assign rfl) rfl ?_
    refine WL.val (Value.int .u64 (IntKind.u64.wrap x3.2)) _ (op_assign rfl) rfl ?_
    refine WL.nil ?_
    show W _ _ _ _ _ _
    refine W.ret ?_
    obtain rfl := Option.some.inj h
    show FinP _ _ _ _ _ _ _
    exact FinP.ret _ (res2 rfl rfl rfl) ⟨rfl, (inR_wrap _ _), (inR_wrap _ _), hS10.ext⟩
  · replace h := inegb h hc1
    refine W.skip ?_
    show W _ _ _ _ _ _
    refine W.seq (W.region ?_)
    refine WL.val (Value.int .u64 x) _ (op_move rfl) rfl ?_
    refine WL.val (Value.int .u64 y) _ (op_move rfl) rfl ?_
    obtain ⟨x11, hx12, h⟩ := bs h
    refine WL.call _ (op_call fn_103 (args2 rfl rfl)) (c_math_bits_Mul64 r_x r_y hx12) rfl ?_
    rintro _ wd15 ⟨rfl, hr13, hr14, he16⟩
    have hS18 := St.extend hS0 he16
    replace hS18 : St w wd15 [] := hS18
    refine WL.val (Value.tuple #[(Value.int .u64 x11.1), (Value.int .u64 x11.2)]) _ (op_move rfl) rfl ?_
    refine WL.val (Value.int .u64 x11.1) _ (op_extract rfl rfl) rfl ?_
    refine WL.val (Value.int .u64 x11.2) _ (op_extract rfl rfl) rfl ?_
    refine WL.val (Value.int .u64 x11.1) _ (op_assign rfl) rfl ?_
    refine WL.val (Value.int .u64 x11.2) _ (op_assign rfl) rfl ?_
    refine WL.nil ?_
    show W _ _ _ _ _ _
    refine W.seq (W.region ?_)
    refine WL.val (Value.int .u64 x11.1) _ (op_move rfl) rfl ?_
    refine WL.val (Value.int .u64 x11.2) _ (op_move rfl) rfl ?_
    refine WL.val (Value.int .u64 x11.1) _ (op_assign rfl) rfl ?_
    refine WL.val (Value.int .u64 x11.2) _ (op_assign rfl) rfl ?_
    refine WL.nil ?_
    show W _ _ _ _ _ _
    refine W.ret ?_
    obtain rfl := Option.some.inj h
    show FinP _ _ _ _ _ _ _
    exact FinP.ret _ (res2 rfl rfl rfl) ⟨rfl, hr13, hr14, hS18.ext⟩

theorem c_slices_Repeat_Lint64_int64 {w : World} {x : (List Int)} {v_x : Value} {count : Int} (r_x : (Ty.sl (Ty.i .i64)).rep w v_x x) (r_count : InR .i64 count) {res : (List Int)} (h : p_slices_Repeat_Lint64_int64 x count  = some res) :
    Ret Try.prog 77 #[v_x, (Value.int .i64 count)] w (fun v w' => ∃ (u0 : Value), v = u0 ∧ Ext w w' ∧ Sep w.heap.size w' [(Ty.sl (Ty.i .i64)).at u0 res]) := by
  unfold p_slices_Repeat_Lint64_int64 at h
  have hS0 : St w w [] := St.start w
  refine Ret.start (fn := Try.f77) Try.func77 rfl 48 rfl rfl ?_
  refine W.seq (W.region ?_)
  refine WL.val (Value.slice none 0 0) _ (op_assign rfl) rfl ?_
  refine WL.nil ?_
  show W _ _ _ _ _ _
  refine W.seq (W.seq (W.region ?_))
  refine WL.val (Value.int .i64 count) _ (op_move rfl) rfl ?_
  refine WL.val (Value.bool (decide (count < (0 : Int)))) _ (op_lss rfl rfl) rfl ?_
  refine WL.nil ?_
  show W _ _ _ _ _ _
  obtain ⟨⟨⟩, hj1, h⟩ := bs h
  refine W.cutCode (fun fq wq => fq 0 = v_x ∧ fq 1 = (Value.int .i64 count) ∧ St w wq []) ?_ ?_
  · refine W.cond (decide (count < (0 : Int))) rfl (fun hc2 => ?_) (fun hc2 => ?_)
    · replace hj1 := ip hj1 hc2
      refine W.region ?_
      exact (none_some hj1).elim
    · replace hj1 := inegb hj1 hc2
      refine W.skip ?_
      exact ⟨rfl, rfl, hS0⟩
  · intro f3 wd4 hq5
    obtain ⟨hf6, hf7, hS8⟩ := hq5
    show W _ _ _ _ _ _
    refine W.seq (W.region ?_)
    refine WL.val v_x _ (op_move hf6) rfl ?_
    have hr9 := inR_len (Ty.lift _ hS8.ext r_x)
    refine WL.val (Value.int .i64 ((x).length : Int)) _ (op_lenL sl_35 (Ty.lift _ hS8.ext r_x) rfl) rfl ?_
    refine WL.val (Value.int .u64 (IntKind.u64.wrap ((x).length : Int))) _ (op_convert rfl it_3 it_93) rfl ?_
    refine WL.val (Value.int .i64 count) _ (op_move hf7) rfl ?_
    refine WL.val (Value.int .u64 (IntKind.u64.wrap count)) _ (op_convert rfl it_3 it_93) rfl ?_
    obtain ⟨x10, hx11, h⟩ := bs h
    refine WL.call _ (op_call fn_94 (args2 rfl rfl)) (c_math_bits_Mul (inR_wrap _ _) (inR_wrap _ _) hx11) rfl ?_
    rintro _ wd14 ⟨rfl, hr12, hr13, he15⟩
    have hS17 := St.extend hS8 he15
    replace hS17 : St w wd14 [] := hS17
    refine WL.val (Value.tuple #[(Value.int .u64 x10.1), (Value.int .u64 x10.2)]) _ (op_move rfl) rfl ?_
    refine WL.val (Value.int .u64 x10.1) _ (op_extract rfl rfl) rfl ?_
    refine WL.val (Value.int .u64 x10.2) _ (op_extract rfl rfl) rfl ?_
    refine WL.val (Value.int .u64 x10.1) _ (op_assign rfl) rfl ?_
    refine WL.val (Value.int .u64 x10.2) _ (op_assign rfl) rfl ?_
    refine WL.nil ?_
    show W _ _ _ _ _ _
    refine W.seq (W.seq (W.region ?_))
    refine WL.val (Value.int .u64 x10.1) _ (op_move rfl) rfl ?_
    refine WL.val (Value.bool (decide (x10.1 > (0 : Int)))) _ (op_gtr rfl rfl) rfl ?_
    refine WL.val (Value.bool (decide (x10.1 > (0 : Int)))) _ (op_move rfl) rfl ?_
    refine WL.cut 3 (fun fq wq => fq 0 = v_x ∧ fq 6 = (Value.int .u64 x10.2) ∧ fq 26 = (Value.bool ((decide (x10.1 > (0 : Int))) || (decide (x10.2 > (9223372036854775807 : Int))))) ∧ St w wq []) ?_ ?_
    · rcases Bool.eq_false_or_eq_true (decide (x10.1 > (0 : Int))) with hc18 | hc18
      · refine WL.gskip rfl (bool_of rfl hc18) rfl ?_
        refine WL.gskip rfl (bool_of rfl hc18) rfl ?_
        refine WL.val (Value.bool true) _ (op_pick_t (evb_of rfl hc18) rfl) rfl ?_
        refine WL.nil ?_
        exact ⟨rfl, hf6, rfl, (orT hc18), hS17⟩
      · refine WL.grun rfl (bool_of rfl hc18) ?_
        refine WL.val (Value.int .u64 x10.2) _ (op_move rfl) rfl ?_
        refine WL.grun rfl (bool_of rfl hc18) ?_
        refine WL.val (Value.bool (decide (x10.2 > (9223372036854775807 : Int)))) _ (op_gtr rfl rfl) rfl ?_
        refine WL.val (Value.bool (decide (x10.2 > (9223372036854775807 : Int)))) _ (op_pick_f (evb_of rfl hc18) rfl) rfl ?_
        refine WL.nil ?_
        exact ⟨rfl, hf6, rfl, (orF hc18), hS17⟩
    · intro f19 wd20 hq21
      obtain ⟨hf22, hf23, hf24, hS25⟩ := hq21
      refine WL.nil ?_
      show W _ _ _ _ _ _
      obtain ⟨⟨⟩, hj26, h⟩ := bs h
      refine W.cutCode (fun fq wq => fq 0 = v_x ∧ fq 6 = (Value.int .u64 x10.2) ∧ St w wq []) ?_ ?_
      · refine W.cond ((decide (x10.1 > (0 : Int))) || (decide (x10.2 > (9223372036854775807 : Int)))) hf24 (fun hc27 => ?_) (fun hc27 => ?_)
        · replace hj26 := ip hj26 hc27
          refine W.region ?_
          exact (none_some hj26).elim
        · replace hj26 := inegb hj26 hc27
          refine W.skip ?_
          exact ⟨hf22, hf23, hS25⟩
      · intro f28 wd29 hq30
        obtain ⟨hf31, hf32, hS33⟩ := hq30
        show W _ _ _ _ _ _
        refine W.seq (W.region ?_)
        refine WL.val (Value.int .u64 x10.2) _ (op_move hf32) rfl ?_
        refine WL.val (Value.int .i64 (w64 x10.2)) _ (op_convert rfl it_93 it_3) rfl ?_
        obtain ⟨x34, hx35, h⟩ := bs h
        refine WL.make (t := (Ty.i .i64)) hS33 sl_35 (fun _ _ => ⟨rfl, (inR_i64.2 (show (-9223372036854775808 : Int) ≤ 0 ∧ (0 : Int) ≤ 9223372036854775807 from by decide))⟩) rfl rfl hx35 rfl rfl ?_
        intro u36 wd37 hS38 he39
        replace hS38 : St w wd37 [(Ty.sl (Ty.i .i64)).at u36 x34] := hS38
        refine WL.val u36 _ (op_assign rfl) rfl ?_
        refine WL.nil ?_
        show W _ _ _ _ _ _
        refine W.seq (W.region ?_)
        refine WL.val u36 _ (op_move rfl) rfl ?_
        refine WL.val v_x _ (op_move hf31) rfl ?_
        have hr42 := inR_cpyN (t := (Ty.i .i64)) (w := wd37) (0 : Int) (xs := x) (St.rep (t := (Ty.sl (Ty.i .i64))) hS38 0 rfl)
        refine WL.copy (a := (0 : Int)) (flat_i .i64) hS38 (k := 0) rfl sl_35 (Nat.zero_le _) (St.winWhole (t := (Ty.i .i64)) hS38 0 rfl) rfl rfl (Ty.lift _ hS38.ext r_x) rfl ?_
        intro wd40 hS41
        replace hS41 : St w wd40 [(Ty.sl (Ty.i .i64)).at u36 (cpyL x34 (0 : Int) x)] := hS41
        refine WL.val (Value.int .i64 (cpyN x34 (0 : Int) x)) _ (op_assign rfl) rfl ?_
        refine WL.nil ?_
        show W _ _ _ _ _ _
        refine W.seq ?_
        obtain ⟨res43, hres44, h⟩ := bs h
        refine W.blockLoop (fun fq wq => ∃ s, res43 = Res.fin s ∧ fq 7 = u36 ∧ St w wq [(Ty.sl (Ty.i .i64)).at u36 s.1]) ?_ ?_
        · refine W.whileC (fun (s : (List Int) × Int) fq wq => fq 7 = u36 ∧ fq 8 = Value.int .i64 s.2 ∧ InR .i64 s.2 ∧ St w wq [(Ty.sl (Ty.i .i64)).at u36 s.1]) hres44 ⟨rfl, rfl, hr42, hS41⟩ ?_
          intro s163 ct48 f49 wd50 hb52 hI53 hbrk54 hret55
          obtain ⟨x46, x47⟩ := s163
          replace hI53 : f49 7 = u36 ∧ f49 8 = Value.int .i64 x47 ∧ InR .i64 x47 ∧ St w wd50 [(Ty.sl (Ty.i .i64)).at u36 x46] := hI53
          replace hb52 : p_slices_Repeat_Lint64_int64_L1   x46 x47 = some ct48 := hb52
          unfold p_slices_Repeat_Lint64_int64_L1 at hb52
          obtain ⟨hf56, hf57, hr58, hS59⟩ := hI53
          refine W.seq (W.seq (W.region ?_))
          refine WL.val (Value.int .i64 x47) _ (op_move hf57) rfl ?_
          refine WL.val u36 _ (op_move hf56) rfl ?_
          have hr60 := inR_len (St.rep (t := (Ty.sl (Ty.i .i64))) hS59 0 rfl)
          refine WL.val (Value.int .i64 ((x46).length : Int)) _ (op_lenL sl_35 (St.rep (t := (Ty.sl (Ty.i .i64))) hS59 0 rfl) rfl) rfl ?_
          refine WL.val (Value.bool (decide (x47 < ((x46).length : Int)))) _ (op_lss rfl rfl) rfl ?_
          refine WL.nil ?_
          show W _ _ _ _ _ _
          refine W.cond (decide (x47 < ((x46).length : Int))) rfl (fun hc61 => ?_) (fun hc61 => ?_)
          · replace hb52 := ip hb52 hc61
            refine W.skip ?_
            show W _ _ _ _ _ _
            refine W.block ?_
            obtain ⟨x99, hx100, hb52⟩ := bs hb52
            obtain ⟨h104, h105, h106, h107⟩ := cutL_some hx100
            obtain ⟨x137, hx138, hb52⟩ := bs hb52
            obtain ⟨h142, h143, h144, h145⟩ := cutL_some hx138
            refine W.drawR mixo 7 [0] [fun _ v _ _ => v = (Value.int .i64 x47) ∧ InR .i64 x47, fun _ v _ _ => v = u36, fun _ v _ _ => v = (Value.int .i64 x47) ∧ InR .i64 x47, fun _ v _ _ => Win u36 (x46).length (x47).toNat v, fun _ v _ _ => v = u36, fun _ v _ _ => v = (Value.int .i64 x47) ∧ InR .i64 x47, fun _ v _ w' => (Ty.sl (Ty.i .i64)).rep w' v x137] (by kernel_rfl) (by kernel_rfl) ⟨⟨fun _ _ _ _ _ _ h => h, fun _ _ _ _ _ _ h => h⟩, ⟨fun _ _ _ _ _ _ h => h, fun _ _ _ _ _ _ h => h⟩, ⟨fun _ _ _ _ _ _ h => h, fun _ _ _ _ _ _ h => h⟩, ⟨fun _ _ _ _ _ _ h => h, fun _ _ _ _ _ _ h => h⟩, ⟨fun _ _ _ _ _ _ h => h, fun _ _ _ _ _ _ h => h⟩, ⟨fun _ _ _ _ _ _ h => h, fun _ _ _ _ _ _ h => h⟩, ⟨fun _ _ _ _ _ he h => Ty.lift _ he h, fun _ _ _ _ _ _ h => h⟩, trivial⟩ ⟨?_, ?_, ?_, ?_, ?_, ?_, ?_, trivial⟩ ?_
            · refine ObX.fl rfl ?_
              intro f63 wd64 he65 hout66 hphi67
              have hS68 : St w wd64 [(Ty.sl (Ty.i .i64)).at u36 x46] := St.extend hS59 he65
              have e69 : f63 8 = (Value.int .i64 x47) := (hout66 8 rfl).trans hf57
              exact ⟨rfl, (Value.int .i64 x47), fun _ => (op_move e69), ⟨rfl, hr58⟩⟩
            · refine ObX.op rfl ?_
              intro f70 wd71 he72 hout73 hphi74
              have hS75 : St w wd71 [(Ty.sl (Ty.i .i64)).at u36 x46] := St.extend hS59 he72
              have e76 : f70 7 = u36 := (hout73 7 rfl).trans hf56
              exact OpX.val u36 wd71 rfl (op_move e76) (Ext.refl _) rfl
            · refine ObX.op rfl ?_
              intro f77 wd78 he79 hout80 hphi81
              have hS82 : St w wd78 [(Ty.sl (Ty.i .i64)).at u36 x46] := St.extend hS59 he79
              have e83 : f77 8 = (Value.int .i64 x47) := (hout80 8 rfl).trans hf57
              exact OpX.val (Value.int .i64 x47) wd78 rfl (op_move e83) (Ext.refl _) ⟨rfl, hr58⟩
            · refine ObX.op rfl ?_
              intro f84 wd85 he86 hout87 hphi88
              have hS89 : St w wd85 [(Ty.sl (Ty.i .i64)).at u36 x46] := St.extend hS59 he86
              obtain ⟨S90, hS91, hf92⟩ := hphi88 1 39 _ rfl rfl rfl
              have e93 : f84 39 = u36 := hf92
              obtain ⟨S94, hS95, hf96⟩ := hphi88 2 40 _ rfl rfl rfl
              obtain ⟨e97, hr98⟩ : f84 40 = (Value.int .i64 x47) ∧ InR .i64 x47 := hf96
              obtain ⟨u101, ho102, hr103⟩ := op_sliceWin (P := Try.prog) (f := f84) (w := wd85) (T := 35) (kd := .i64) sl_35 (show ev f84 (Operand.tmp 39) = _ from e93) (St.rep (t := (Ty.sl (Ty.i .i64))) hS89 0 rfl) (show ev f84 (Operand.tmp 40) = _ from e97) h104 h105
              exact OpX.val u101 wd85 rfl (ho102 _) (Ext.refl _) hr103
            · refine ObX.op rfl ?_
              intro f108 wd109 he110 hout111 hphi112
              have hS113 : St w wd109 [(Ty.sl (Ty.i .i64)).at u36 x46] := St.extend hS59 he110
              have e114 : f108 7 = u36 := (hout111 7 rfl).trans hf56
              exact OpX.val u36 wd109 rfl (op_move e114) (Ext.refl _) rfl
            · refine ObX.op rfl ?_
              intro f115 wd116 he117 hout118 hphi119
              have hS120 : St w wd116 [(Ty.sl (Ty.i .i64)).at u36 x46] := St.extend hS59 he117
              have e121 : f115 8 = (Value.int .i64 x47) := (hout118 8 rfl).trans hf57
              exact OpX.val (Value.int .i64 x47) wd116 rfl (op_move e121) (Ext.refl _) ⟨rfl, hr58⟩
            · refine ObX.op rfl ?_
              intro f122 wd123 he124 hout125 hphi126
              have hS127 : St w wd123 [(Ty.sl (Ty.i .i64)).at u36 x46] := St.extend hS59 he124
              obtain ⟨S128, hS129, hf130⟩ := hphi126 4 42 _ rfl rfl rfl
              have e131 : f122 42 = u36 := hf130
              obtain ⟨S132, hS133, hf134⟩ := hphi126 5 43 _ rfl rfl rfl
              obtain ⟨e135, hr136⟩ : f122 43 = (Value.int .i64 x47) ∧ InR .i64 x47 := hf134
              obtain ⟨u139, ho140, hr141⟩ := op_slice (P := Try.prog) (f := f122) (w := wd123) (T := 35) (kd := .i64) (lo := none) (hi := (some (Operand.tmp 43))) sl_35 (show ev f122 (Operand.tmp 42) = _ from e131) (St.rep (t := (Ty.sl (Ty.i .i64))) hS127 0 rfl) rfl e135 h142 h143 h144
              rw [← h145] at hr141
              exact OpX.val u139 wd123 rfl ho140 (Ext.refl _) hr141
            · intro f146 wd147 Ss148 he149 hout150 hSn151 hSd152 hphi153
              show WL _ _ _ _ _ _ _
              have hS154 : St w wd147 [(Ty.sl (Ty.i .i64)).at u36 x46] := St.extend hS59 he149
              obtain ⟨e155, hr156⟩ : f146 38 = (Value.int .i64 x47) ∧ InR .i64 x47 := hphi153 0 38 _ (by decide) rfl rfl
              have e157 : Win u36 (x46).length (x47).toNat (f146 41) := hphi153 3 41 _ (by decide) rfl rfl
              have e158 : (Ty.sl (Ty.i .i64)).rep wd147 (f146 44) x137 := hphi153 6 44 _ (by decide) rfl rfl
              have e159 : f146 7 = u36 := (hout150 7 rfl).trans hf56
              have hr162 := inR_cpyN (t := (Ty.i .i64)) (w := wd147) x47 (xs := x137) (St.rep (t := (Ty.sl (Ty.i .i64))) hS154 0 rfl)
              refine WL.copy (a := x47) (flat_i .i64) hS154 (k := 0) rfl sl_35 (cutL_le hx100) e157 rfl rfl e158 rfl ?_
              intro wd160 hS161
              replace hS161 : St w wd160 [(Ty.sl (Ty.i .i64)).at u36 (cpyL x46 x47 x137)] := hS161
              refine WL.val (Value.int .i64 (w64 (x47 + (cpyN x46 x47 x137)))) _ (op_add e155 rfl) rfl ?_
              refine WL.val (Value.int .i64 (w64 (x47 + (cpyN x46 x47 x137)))) _ (op_assign rfl) rfl ?_
              refine WL.nil ?_
              obtain rfl := Option.some.inj hb52
              show ∃ s, _ = Ctl.next s ∧ _
              exact ⟨_, rfl, e159, rfl, (inR_wrap _ _), hS161⟩
          · replace hb52 := inegb hb52 hc61
            refine W.exit ?_
            obtain rfl := Option.some.inj hb52
            show _ = _ ∧ _
            exact ⟨rfl, _, hbrk54 _ rfl, hf56, hS59⟩
        · rintro f164 wd165 ⟨s167, rfl, hq166⟩
          replace h := onRes_fin h
          obtain ⟨x168, x169⟩ := s167
          replace hq166 : f164 7 = u36 ∧ St w wd165 [(Ty.sl (Ty.i .i64)).at u36 x168] := hq166
          replace h : (_ : Option _) = _ := h
          dsimp only at h
          obtain ⟨hf170, hS171⟩ := hq166
          show W _ _ _ _ _ _
          refine W.seq (W.region ?_)
          refine WL.val u36 _ (op_move hf170) rfl ?_
          refine WL.val u36 _ (op_assign rfl) rfl ?_
          refine WL.nil ?_
          show W _ _ _ _ _ _
          refine W.ret ?_
          obtain rfl := Option.some.inj h
          show FinP _ _ _ _ _ _ _
          exact FinP.ret _ (res1 rfl rfl) ⟨u36, rfl, hS171.ext, (St.out (St.pick hS171 [0] rfl) (Ext.refl _))⟩

theorem c_impl_Ring_nextWeights {w : World} {r_Table : (List (List (List Int)))} {v_r_Table : Value} {w1 : (List Int)} {v_w1 : Value} (r_r_Table : (Ty.sl (Ty.sl (Ty.sl (Ty.i .i64)))).rep w v_r_Table r_Table) (r_w1 : (Ty.sl (Ty.i .i64)).rep w v_w1 w1) {res : (List Int)} (h : p_impl_Ring_nextWeights r_Table w1  = some res) :
    Ret Try.prog 78 #[(Value.agg #[v_r_Table]), v_w1] w (fun v w' => ∃ (u0 : Value), v = u0 ∧ Ext w w' ∧ Sep w.heap.size w' [(Ty.sl (Ty.i .i64)).at u0 res]) := by
  unfold p_impl_Ring_nextWeights at h
  have hS0 : St w w [] := St.start w
  refine Ret.start (fn := Try.f78) Try.func78 rfl 52 rfl rfl ?_
  refine W.seq (W.region ?_)
  refine WL.box hS0 rfl (cs := [v_r_Table]) rfl rfl ?_
  intro b1 wd2 hS3 he4 hx5
  replace hS3 : St w wd2 [bx b1 [v_r_Table]] := hS3
  have hx6 := St.boxAt hS3 0 rfl
  have hE7 : Ext w wd2 := hS3.ext
  have hS8 : St wd2 wd2 [] := St.start wd2
  refine WL.val (Value.slice none 0 0) _ (op_assign rfl) rfl ?_
  refine WL.nil ?_
  show W _ _ _ _ _ _
  refine W.seq (W.region ?_)
  refine WL.val v_w1 _ (op_move rfl) rfl ?_
  have hr9 := inR_len (Ty.lift _ (Ext.trans hE7 hS8.ext) r_w1)
  refine WL.val (Value.int .i64 ((w1).length : Int)) _ (op_lenL sl_35 (Ty.lift _ (Ext.trans hE7 hS8.ext) r_w1) rfl) rfl ?_
  obtain ⟨x10, hx11, h⟩ := bs h
  refine WL.make (t := (Ty.i .i64)) hS8 sl_35 (fun _ _ => ⟨rfl, (inR_i64.2 (show (-9223372036854775808 : Int) ≤ 0 ∧ (0 : Int) ≤ 9223372036854775807 from by decide))⟩) rfl rfl hx11 rfl rfl ?_
  intro u12 wd13 hS14 he15
  replace hS14 : St wd2 wd13 [(Ty.sl (Ty.i .i64)).at u12 x10] := hS14
  refine WL.val u12 _ (op_assign rfl) rfl ?_
  refine WL.nil ?_
  show W _ _ _ _ _ _
  refine W.seq (W.seq (W.region ?_))
  refine WL.val (Value.pointer (some ⟨b1, 0, none⟩)) _ (op_fieldAddr fd_26_0 rfl) rfl ?_
  refine WL.val v_r_Table _ (op_load one_22 rfl (BoxAt.cell (BoxAt.lift hS14.ext hx6) rfl)) rfl ?_
  have hr16 := inR_len (Ty.lift _ (Ext.trans hE7 hS14.ext) r_r_Table)
  refine WL.val (Value.int .i64 ((r_Table).length : Int)) _ (op_lenL sl_22 (Ty.lift _ (Ext.trans hE7 hS14.ext) r_r_Table) rfl) rfl ?_
  refine WL.val (Value.int .i64 (0 : Int)) _ (op_move rfl) rfl ?_
  refine WL.nil ?_
  show W _ _ _ _ _ _
  obtain ⟨res17, hres18, h⟩ := bs h
  refine W.blockLoop (fun fq wq => ∃ s, res17 = Res.fin s ∧ fq 5 = u12 ∧ St wd2 wq [(Ty.sl (Ty.i .i64)).at u12 s]) ?_ ?_
  · refine W.forN (fun k (s : (List Int)) fq wq => fq 1 = v_w1 ∧ fq 5 = u12 ∧ fq 16 = v_r_Table ∧ fq 17 = (Value.int .i64 ((r_Table).length : Int)) ∧ fq 18 = Value.int .i64 (k : Int) ∧ InR .i64 (k : Int) ∧ St wd2 wq [(Ty.sl (Ty.i .i64)).at u12 s]) hres18 ⟨rfl, rfl, rfl, rfl, rfl, (inR_i64.2 (show (-9223372036854775808 : Int) ≤ 0 ∧ (0 : Int) ≤ 9223372036854775807 from by decide)), hS14⟩ ?_ ?_
    · intro k19 x20 ct21 f22 wd23 hk24 hb25 hI26 hbrk27 hret28
      replace hI26 : f22 1 = v_w1 ∧ f22 5 = u12 ∧ f22 16 = v_r_Table ∧ f22 17 = (Value.int .i64 ((r_Table).length : Int)) ∧ f22 18 = Value.int .i64 (k19 : Int) ∧ InR .i64 (k19 : Int) ∧ St wd2 wd23 [(Ty.sl (Ty.i .i64)).at u12 x20] := hI26
      replace hb25 : p_impl_Ring_nextWeights_L1 r_Table w1 k19 x20 = some ct21 := hb25
      unfold p_impl_Ring_nextWeights_L1 at hb25
      obtain ⟨hf29, hf30, hf31, hf32, hf33, hr34, hS35⟩ := hI26
      refine W.seq (W.region ?_)
      refine WL.val (Value.bool (decide ((k19 : Int) < ((r_Table).length : Int)))) _ (op_lss hf33 hf32) rfl ?_
      have hl36 : (k19 : Int) < ((r_Table).length : Int) := by omega
      refine WL.nil ?_
      show W _ _ _ _ _ _
      refine W.seq ?_
      refine W.condT (decide ((k19 : Int) < ((r_Table).length : Int))) rfl (decide_eq_true hl36) ?_
      refine W.skip ?_
      show W _ _ _ _ _ _
      refine W.seq ?_
      refine W.block ?_
      refine W.seq (W.region ?_)
      obtain ⟨x38, hx41, hb25⟩ := bs hb25
      obtain ⟨ha39, hb40, hx41⟩ := idx_some hx41
      refine WL.val (Value.pointer (some (elA v_r_Table ((k19 : Int)).toNat))) _ (op_idx sl_22 (Ty.lift _ (Ext.trans hE7 hS35.ext) r_r_Table) hf31 hf33 ha39 hb40) rfl ?_
      obtain ⟨u42, hc43, hr44⟩ := repSl.el r_r_Table hx41
      refine WL.val u42 _ (op_load one_57 rfl (Ext.cell (Ext.trans hE7 hS35.ext) hc43)) rfl ?_
      refine WL.val u42 _ (op_assign rfl) rfl ?_
      refine WL.nil ?_
      show W _ _ _ _ _ _
      refine W.seq (W.region ?_)
      refine WL.val u42 _ (op_move rfl) rfl ?_
      have hr45 := inR_len (Ty.lift _ (Ext.trans hE7 hS35.ext) hr44)
      refine WL.val (Value.int .i64 ((x38).length : Int)) _ (op_lenL sl_57 (Ty.lift _ (Ext.trans hE7 hS35.ext) hr44) rfl) rfl ?_
      refine WL.val (Value.int .i64 (0 : Int)) _ (op_move rfl) rfl ?_
      refine WL.nil ?_
      show W _ _ _ _ _ _
      obtain ⟨res46, hres47, hb25⟩ := bs hb25
      refine W.blockLoop (fun fq wq => ∃ s, res46 = Res.fin s ∧ fq 1 = v_w1 ∧ fq 5 = u12 ∧ fq 16 = v_r_Table ∧ fq 17 = (Value.int .i64 ((r_Table).length : Int)) ∧ fq 18 = (Value.int .i64 (k19 : Int)) ∧ St wd2 wq [(Ty.sl (Ty.i .i64)).at u12 s]) ?_ ?_
      · refine W.forN (fun k (s : (List Int)) fq wq => fq 1 = v_w1 ∧ fq 5 = u12 ∧ fq 16 = v_r_Table ∧ fq 17 = (Value.int .i64 ((r_Table).length : Int)) ∧ fq 18 = (Value.int .i64 (k19 : Int)) ∧ fq 22 = u42 ∧ fq 23 = (Value.int .i64 ((x38).length : Int)) ∧ fq 24 = Value.int .i64 (k : Int) ∧ InR .i64 (k : Int) ∧ St wd2 wq [(Ty.sl (Ty.i .i64)).at u12 s]) hres47 ⟨hf29, hf30, hf31, hf32, hf33, rfl, rfl, rfl, (inR_i64.2 (show (-9223372036854775808 : Int) ≤ 0 ∧ (0 : Int) ≤ 9223372036854775807 from by decide)), hS35⟩ ?_ ?_
        · intro k48 x49 ct50 f51 wd52 hk53 hb54 hI55 hbrk56 hret57
          replace hI55 : f51 1 = v_w1 ∧ f51 5 = u12 ∧ f51 16 = v_r_Table ∧ f51 17 = (Value.int .i64 ((r_Table).length : Int)) ∧ f51 18 = (Value.int .i64 (k19 : Int)) ∧ f51 22 = u42 ∧ f51 23 = (Value.int .i64 ((x38).length : Int)) ∧ f51 24 = Value.int .i64 (k48 : Int) ∧ InR .i64 (k48 : Int) ∧ St wd2 wd52 [(Ty.sl (Ty.i .i64)).at u12 x49] := hI55
          replace hb54 : p_impl_Ring_nextWeights_L2 x38 w1 k48 x49 = some ct50 := hb54
          unfold p_impl_Ring_nextWeights_L2 at hb54
          obtain ⟨hf58, hf59, hf60, hf61, hf62, hf63, hf64, hf65, hr66, hS67⟩ := hI55
          refine W.seq (W.region ?_)
          refine WL.val (Value.bool (decide ((k48 : Int) < ((x38).length : Int)))) _ (op_lss hf65 hf64) rfl ?_
          have hl68 : (k48 : Int) < ((x38).length : Int) := by omega
          refine WL.nil ?_
          show W _ _ _ _ _ _
          refine W.seq ?_
          refine W.condT (decide ((k48 : Int) < ((x38).length : Int))) rfl (decide_eq_true hl68) ?_
          refine W.skip ?_
          show W _ _ _ _ _ _
          refine W.seq ?_
          refine W.block ?_
          refine W.seq (W.region ?_)
          refine WL.val (Value.int .i64 (k48 : Int)) _ (op_move hf65) rfl ?_
          obtain ⟨x70, hx73, hb54⟩ := bs hb54
          obtain ⟨ha71, hb72, hx73⟩ := idx_some hx73
          refine WL.val (Value.pointer (some (elA u42 ((k48 : Int)).toNat))) _ (op_idx sl_57 (Ty.lift _ (Ext.trans hE7 hS67.ext) hr44) hf63 hf65 ha71 hb72) rfl ?_
          obtain ⟨u74, hc75, hr76⟩ := repSl.el hr44 hx73
          refine WL.val u74 _ (op_load one_35 rfl (Ext.cell (Ext.trans hE7 hS67.ext) hc75)) rfl ?_
          refine WL.val (Value.int .i64 (k48 : Int)) _ (op_assign rfl) rfl ?_
          refine WL.val u74 _ (op_assign rfl) rfl ?_
          refine WL.nil ?_
          show W _ _ _ _ _ _
          refine W.seq (W.region ?_)
          refine WL.val u74 _ (op_move rfl) rfl ?_
          have hr77 := inR_len (Ty.lift _ (Ext.trans hE7 hS67.ext) hr76)
          refine WL.val (Value.int .i64 ((x70).length : Int)) _ (op_lenL sl_35 (Ty.lift _ (Ext.trans hE7 hS67.ext) hr76) rfl) rfl ?_
          refine WL.val (Value.int .i64 (0 : Int)) _ (op_move rfl) rfl ?_
          refine WL.nil ?_
          show W _ _ _ _ _ _
          obtain ⟨res78, hres79, hb54⟩ := bs hb54
          refine W.blockLoop (fun fq wq => ∃ s, res78 = Res.fin s ∧ fq 1 = v_w1 ∧ fq 5 = u12 ∧ fq 16 = v_r_Table ∧ fq 17 = (Value.int .i64 ((r_Table).length : Int)) ∧ fq 18 = (Value.int .i64 (k19 : Int)) ∧ fq 22 = u42 ∧ fq 23 = (Value.int .i64 ((x38).length : Int)) ∧ fq 24 = (Value.int .i64 (k48 : Int)) ∧ St wd2 wq [(Ty.sl (Ty.i .i64)).at u12 s]) ?_ ?_
          · refine W.forN (fun k (s : (List Int)) fq wq => fq 1 = v_w1 ∧ fq 5 = u12 ∧ fq 8 = (Value.int .i64 (k48 : Int)) ∧ fq 16 = v_r_Table ∧ fq 17 = (Value.int .i64 ((r_Table).length : Int)) ∧ fq 18 = (Value.int .i64 (k19 : Int)) ∧ fq 22 = u42 ∧ fq 23 = (Value.int .i64 ((x38).length : Int)) ∧ fq 24 = (Value.int .i64 (k48 : Int)) ∧ fq 29 = u74 ∧ fq 30 = (Value.int .i64 ((x70).length : Int)) ∧ fq 31 = Value.int .i64 (k : Int) ∧ InR .i64 (k : Int) ∧ St wd2 wq [(Ty.sl (Ty.i .i64)).at u12 s]) hres79 ⟨hf58, hf59, rfl, hf60, hf61, hf62, hf63, hf64, hf65, rfl, rfl, rfl, (inR_i64.2 (show (-9223372036854775808 : Int) ≤ 0 ∧ (0 : Int) ≤ 9223372036854775807 from by decide)), hS67⟩ ?_ ?_
            · intro k80 x81 ct82 f83 wd84 hk85 hb86 hI87 hbrk88 hret89
              replace hI87 : f83 1 = v_w1 ∧ f83 5 = u12 ∧ f83 8 = (Value.int .i64 (k48 : Int)) ∧ f83 16 = v_r_Table ∧ f83 17 = (Value.int .i64 ((r_Table).length : Int)) ∧ f83 18 = (Value.int .i64 (k19 : Int)) ∧ f83 22 = u42 ∧ f83 23 = (Value.int .i64 ((x38).length : Int)) ∧ f83 24 = (Value.int .i64 (k48 : Int)) ∧ f83 29 = u74 ∧ f83 30 = (Value.int .i64 ((x70).length : Int)) ∧ f83 31 = Value.int .i64 (k80 : Int) ∧ InR .i64 (k80 : Int) ∧ St wd2 wd84 [(Ty.sl (Ty.i .i64)).at u12 x81] := hI87
              replace hb86 : p_impl_Ring_nextWeights_L3 x70 k48 w1 k80 x81 = some ct82 := hb86
              unfold p_impl_Ring_nextWeights_L3 at hb86
              obtain ⟨hf90, hf91, hf92, hf93, hf94, hf95, hf96, hf97, hf98, hf99, hf100, hf101, hr102, hS103⟩ := hI87
              refine W.seq (W.region ?_)
              refine WL.val (Value.bool (decide ((k80 : Int) < ((x70).length : Int)))) _ (op_lss hf101 hf100) rfl ?_
              have hl104 : (k80 : Int) < ((x70).length : Int) := by omega
              refine WL.nil ?_
              show W _ _ _ _ _ _
              refine W.seq ?_
              refine W.condT (decide ((k80 : Int) < ((x70).length : Int))) rfl (decide_eq_true hl104) ?_
              refine W.skip ?_
              show W _ _ _ _ _ _
              refine W.seq ?_
              refine W.block ?_
              refine W.seq (W.region ?_)
              refine WL.val (Value.int .i64 (k80 : Int)) _ (op_move hf101) rfl ?_
              obtain ⟨x106, hx109, hb86⟩ := bs hb86
              obtain ⟨ha107, hb108, hx109⟩ := idx_some hx109
              refine WL.val (Value.pointer (some (elA u74 ((k80 : Int)).toNat))) _ (op_idx sl_35 (Ty.lift _ (Ext.trans hE7 hS103.ext) hr76) hf99 hf101 ha107 hb108) rfl ?_
              obtain ⟨u110, hc111, hr112⟩ := repSl.el hr76 hx109
              obtain ⟨rfl, hr112⟩ := hr112
              refine WL.val (Value.int .i64 x106) _ (op_load one_2 rfl (Ext.cell (Ext.trans hE7 hS103.ext) hc111)) rfl ?_
              refine WL.val (Value.int .i64 (k80 : Int)) _ (op_assign rfl) rfl ?_
              refine WL.val (Value.int .i64 x106) _ (op_assign rfl) rfl ?_
              refine WL.nil ?_
              show W _ _ _ _ _ _
              obtain ⟨x142, hx145, hb86⟩ := bs hb86
              obtain ⟨ha143, hb144, hx145⟩ := idx_some hx145
              obtain ⟨u156, hc157, hr158⟩ := repSl.el (St.rep (t := (Ty.sl (Ty.i .i64))) hS103 0 rfl) hx145
              obtain ⟨rfl, hr158⟩ := hr158
              obtain ⟨x195, hx198, hb86⟩ := bs hb86
              obtain ⟨ha196, hb197, hx198⟩ := idx_some hx198
              obtain ⟨u209, hc210, hr211⟩ := repSl.el r_w1 hx198
              obtain ⟨rfl, hr211⟩ := hr211
              refine W.drawR mixo 10 [] [fun _ v _ _ => v = u12, fun _ v _ _ => v = (Value.int .i64 (k48 : Int)) ∧ InR .i64 (k48 : Int), fun _ v _ _ => v = (Value.pointer (some (elA u12 ((k48 : Int)).toNat))), fun _ v _ _ => v = (Value.int .i64 x142) ∧ InR .i64 x142, fun _ v _ _ => v = (Value.int .i64 x106) ∧ InR .i64 x106, fun _ v _ _ => v = v_w1, fun _ v _ _ => v = (Value.int .i64 (k80 : Int)) ∧ InR .i64 (k80 : Int), fun _ v _ _ => v = (Value.pointer (some (elA v_w1 ((k80 : Int)).toNat))), fun _ v _ _ => v = (Value.int .i64 x195) ∧ InR .i64 x195, fun _ v _ _ => v = (Value.int .i64 (w64 (x106 * x195))) ∧ InR .i64 (w64 (x106 * x195))] (by kernel_rfl) (by kernel_rfl) ⟨⟨fun _ _ _ _ _ _ h => h, fun _ _ _ _ _ _ h => h⟩, ⟨fun _ _ _ _ _ _ h => h, fun _ _ _ _ _ _ h => h⟩, ⟨fun _ _ _ _ _ _ h => h, fun _ _ _ _ _ _ h => h⟩, ⟨fun _ _ _ _ _ _ h => h, fun _ _ _ _ _ _ h => h⟩, ⟨fun _ _ _ _ _ _ h => h, fun _ _ _ _ _ _ h => h⟩, ⟨fun _ _ _ _ _ _ h => h, fun _ _ _ _ _ _ h => h⟩, ⟨fun _ _ _ _ _ _ h => h, fun _ _ _ _ _ _ h => h⟩, ⟨fun _ _ _ _ _ _ h => h, fun _ _ _ _ _ _ h => h⟩, ⟨fun _ _ _ _ _ _ h => h, fun _ _ _ _ _ _ h => h⟩, ⟨fun _ _ _ _ _ _ h => h, fun _ _ _ _ _ _ h => h⟩, trivial⟩ ⟨?_, ?_, ?_, ?_, ?_, ?_, ?_, ?_, ?_, ?_, trivial⟩ ?_
              · refine ObX.op rfl ?_
                intro f113 wd114 he115 hout116 hphi117
                have hS118 : St wd2 wd114 [(Ty.sl (Ty.i .i64)).at u12 x81] := St.extend hS103 he115
                have e119 : f113 5 = u12 := (hout116 5 rfl).trans hf91
                exact OpX.val u12 wd114 rfl (op_move e119) (Ext.refl _) rfl
              · refine ObX.op rfl ?_
                intro f120 wd121 he122 hout123 hphi124
                have hS125 : St wd2 wd121 [(Ty.sl (Ty.i .i64)).at u12 x81] := St.extend hS103 he122
                have e126 : f120 8 = (Value.int .i64 (k48 : Int)) := (hout123 8 rfl).trans hf92
                exact OpX.val (Value.int .i64 (k48 : Int)) wd121 rfl (op_move e126) (Ext.refl _) ⟨rfl, hr66⟩
              · refine ObX.op rfl ?_
                intro f127 wd128 he129 hout130 hphi131
                have hS132 : St wd2 wd128 [(Ty.sl (Ty.i .i64)).at u12 x81] := St.extend hS103 he129
                obtain ⟨S133, hS134, hf135⟩ := hphi131 0 36 _ rfl rfl rfl
                have e136 : f127 36 = u12 := hf135
                obtain ⟨S137, hS138, hf139⟩ := hphi131 1 37 _ rfl rfl rfl
                obtain ⟨e140, hr141⟩ : f127 37 = (Value.int .i64 (k48 : Int)) ∧ InR .i64 (k48 : Int) := hf139
                exact OpX.val (Value.pointer (some (elA u12 ((k48 : Int)).toNat))) wd128 rfl (op_idx sl_35 (St.rep (t := (Ty.sl (Ty.i .i64))) hS132 0 rfl) e136 e140 ha143 hb144) (Ext.refl _) rfl
              · refine ObX.op rfl ?_
                intro f146 wd147 he148 hout149 hphi150
                have hS151 : St wd2 wd147 [(Ty.sl (Ty.i .i64)).at u12 x81] := St.extend hS103 he148
                obtain ⟨S152, hS153, hf154⟩ := hphi150 2 38 _ rfl rfl rfl
                have e155 : f146 38 = (Value.pointer (some (elA u12 ((k48 : Int)).toNat))) := hf154
                exact OpX.val (Value.int .i64 x142) wd147 rfl (op_load one_2 e155 (Ext.cell he148 hc157)) (Ext.refl _) ⟨rfl, hr158⟩
              · refine ObX.op rfl ?_
                intro f159 wd160 he161 hout162 hphi163
                have hS164 : St wd2 wd160 [(Ty.sl (Ty.i .i64)).at u12 x81] := St.extend hS103 he161
                have e165 : f159 11 = (Value.int .i64 x106) := (hout162 11 rfl).trans rfl
                exact OpX.val (Value.int .i64 x106) wd160 rfl (op_move e165) (Ext.refl _) ⟨rfl, hr112⟩
              · refine ObX.op rfl ?_
                intro f166 wd167 he168 hout169 hphi170
                have hS171 : St wd2 wd167 [(Ty.sl (Ty.i .i64)).at u12 x81] := St.extend hS103 he168
                have e172 : f166 1 = v_w1 := (hout169 1 rfl).trans hf90
                exact OpX.val v_w1 wd167 rfl (op_move e172) (Ext.refl _) rfl
              · refine ObX.op rfl ?_
                intro f173 wd174 he175 hout176 hphi177
                have hS178 : St wd2 wd174 [(Ty.sl (Ty.i .i64)).at u12 x81] := St.extend hS103 he175
                have e179 : f173 10 = (Value.int .i64 (k80 : Int)) := (hout176 10 rfl).trans rfl
                exact OpX.val (Value.int .i64 (k80 : Int)) wd174 rfl (op_move e179) (Ext.refl _) ⟨rfl, hr102⟩
              · refine ObX.op rfl ?_
                intro f180 wd181 he182 hout183 hphi184
                have hS185 : St wd2 wd181 [(Ty.sl (Ty.i .i64)).at u12 x81] := St.extend hS103 he182
                obtain ⟨S186, hS187, hf188⟩ := hphi184 5 41 _ rfl rfl rfl
                have e189 : f180 41 = v_w1 := hf188
                obtain ⟨S190, hS191, hf192⟩ := hphi184 6 42 _ rfl rfl rfl
                obtain ⟨e193, hr194⟩ : f180 42 = (Value.int .i64 (k80 : Int)) ∧ InR .i64 (k80 : Int) := hf192
                exact OpX.val (Value.pointer (some (elA v_w1 ((k80 : Int)).toNat))) wd181 rfl (op_idx sl_35 (Ty.lift _ (Ext.trans hE7 hS185.ext) r_w1) e189 e193 ha196 hb197) (Ext.refl _) rfl
              · refine ObX.op rfl ?_
                intro f199 wd200 he201 hout202 hphi203
                have hS204 : St wd2 wd200 [(Ty.sl (Ty.i .i64)).at u12 x81] := St.extend hS103 he201
                obtain ⟨S205, hS206, hf207⟩ := hphi203 7 43 _ rfl rfl rfl
                have e208 : f199 43 = (Value.pointer (some (elA v_w1 ((k80 : Int)).toNat))) := hf207
                exact OpX.val (Value.int .i64 x195) wd200 rfl (op_load one_2 e208 (Ext.cell (Ext.trans hE7 hS204.ext) hc210)) (Ext.refl _) ⟨rfl, hr211⟩
              · refine ObX.op rfl ?_
                intro f212 wd213 he214 hout215 hphi216
                have hS217 : St wd2 wd213 [(Ty.sl (Ty.i .i64)).at u12 x81] := St.extend hS103 he214
                obtain ⟨S218, hS219, hf220⟩ := hphi216 4 40 _ rfl rfl rfl
                obtain ⟨e221, hr222⟩ : f212 40 = (Value.int .i64 x106) ∧ InR .i64 x106 := hf220
                obtain ⟨S223, hS224, hf225⟩ := hphi216 8 44 _ rfl rfl rfl
                obtain ⟨e226, hr227⟩ : f212 44 = (Value.int .i64 x195) ∧ InR .i64 x195 := hf225
                exact OpX.val (Value.int .i64 (w64 (x106 * x195))) wd213 rfl (op_mul e221 e226) (Ext.refl _) ⟨rfl, (inR_wrap _ _)⟩
              · intro f228 wd229 Ss230 he231 hout232 hSn233 hSd234 hphi235
                show WL _ _ _ _ _ _ _
                have hS236 : St wd2 wd229 [(Ty.sl (Ty.i .i64)).at u12 x81] := St.extend hS103 he231
                have e237 : f228 36 = u12 := hphi235 0 36 _ (by decide) rfl rfl
                obtain ⟨e238, hr239⟩ : f228 37 = (Value.int .i64 (k48 : Int)) ∧ InR .i64 (k48 : Int) := hphi235 1 37 _ (by decide) rfl rfl
                obtain ⟨e240, hr241⟩ : f228 39 = (Value.int .i64 x142) ∧ InR .i64 x142 := hphi235 3 39 _ (by decide) rfl rfl
                obtain ⟨e242, hr243⟩ : f228 45 = (Value.int .i64 (w64 (x106 * x195))) ∧ InR .i64 (w64 (x106 * x195)) := hphi235 9 45 _ (by decide) rfl rfl
                have e244 : f228 1 = v_w1 := (hout232 1 rfl).trans hf90
                have e245 : f228 5 = u12 := (hout232 5 rfl).trans hf91
                have e246 : f228 8 = (Value.int .i64 (k48 : Int)) := (hout232 8 rfl).trans hf92
                have e247 : f228 16 = v_r_Table := (hout232 16 rfl).trans hf93
                have e248 : f228 17 = (Value.int .i64 ((r_Table).length : Int)) := (hout232 17 rfl).trans hf94
                have e249 : f228 18 = (Value.int .i64 (k19 : Int)) := (hout232 18 rfl).trans hf95
                have e250 : f228 22 = u42 := (hout232 22 rfl).trans hf96
                have e251 : f228 23 = (Value.int .i64 ((x38).length : Int)) := (hout232 23 rfl).trans hf97
                have e252 : f228 24 = (Value.int .i64 (k48 : Int)) := (hout232 24 rfl).trans hf98
                have e253 : f228 29 = u74 := (hout232 29 rfl).trans hf99
                have e254 : f228 30 = (Value.int .i64 ((x70).length : Int)) := (hout232 30 rfl).trans hf100
                have e255 : f228 31 = (Value.int .i64 (k80 : Int)) := (hout232 31 rfl).trans hf101
                refine WL.val (Value.int .i64 (w64 (x142 + (w64 (x106 * x195))))) _ (op_add e240 e242) rfl ?_
                refine WL.val (Value.pointer (some (elA u12 ((k48 : Int)).toNat))) _ (op_idx sl_35 (St.rep (t := (Ty.sl (Ty.i .i64))) hS236 0 rfl) e237 e238 ha143 hb144) rfl ?_
                refine WL.storeEl (flat_i .i64) hS236 (k := 0) rfl sz_2 rfl rfl (lt_of_idx ha143 hb144) ⟨rfl, (inR_wrap _ _)⟩ ?_
                intro wd256 hS257
                replace hS257 : St wd2 wd256 [(Ty.sl (Ty.i .i64)).at u12 ((x81).set ((k48 : Int)).toNat (w64 (x142 + (w64 (x106 * x195)))))] := hS257
                refine WL.nil ?_
                show W _ _ _ _ _ _
                refine W.region ?_
                refine WL.val (Value.int .i64 (w64 ((k80 : Int) + (1 : Int)))) _ (op_add e255 rfl) rfl ?_
                refine WL.val (Value.int .i64 (w64 ((k80 : Int) + (1 : Int)))) _ (op_move rfl) rfl ?_
                refine WL.nil ?_
                obtain rfl := Option.some.inj hb86
                show ∃ s, _ = Ctl.next s ∧ _
                exact ⟨_, rfl, e244, e245, e246, e247, e248, e249, e250, e251, e252, e253, e254, (ctr_next hl104 hr77), (ctr_rng hl104 hr77), hS257⟩
            · intro x264 f259 wd260 hs261 hI262
              replace hI262 : f259 1 = v_w1 ∧ f259 5 = u12 ∧ f259 8 = (Value.int .i64 (k48 : Int)) ∧ f259 16 = v_r_Table ∧ f259 17 = (Value.int .i64 ((r_Table).length : Int)) ∧ f259 18 = (Value.int .i64 (k19 : Int)) ∧ f259 22 = u42 ∧ f259 23 = (Value.int .i64 ((x38).length : Int)) ∧ f259 24 = (Value.int .i64 (k48 : Int)) ∧ f259 29 = u74 ∧ f259 30 = (Value.int .i64 ((x70).length : Int)) ∧ f259 31 = Value.int .i64 (((x70).length : Nat) : Int) ∧ InR .i64 (((x70).length : Nat) : Int) ∧ St wd2 wd260 [(Ty.sl (Ty.i .i64)).at u12 x264] := hI262
              obtain ⟨hf265, hf266, hf267, hf268, hf269, hf270, hf271, hf272, hf273, hf274, hf275, hf276, hr277, hS278⟩ := hI262
              refine W.seq (W.region ?_)
              refine WL.val (Value.bool (decide ((((x70).length : Nat) : Int) < ((x70).length : Int)))) _ (op_lss hf276 hf275) rfl ?_
              have hl279 : ¬ (((x70).length : Nat) : Int) < ((x70).length : Int) := by omega
              refine WL.nil ?_
              show W _ _ _ _ _ _
              refine W.seq ?_
              refine W.condF (decide ((((x70).length : Nat) : Int) < ((x70).length : Int))) rfl (decide_eq_false hl279) ?_
              refine W.exit ?_
              show _ = _ ∧ _
              exact ⟨rfl, _, hs261, hf265, hf266, hf268, hf269, hf270, hf271, hf272, hf273, hS278⟩
          · rintro f280 wd281 ⟨x284, rfl, hq282⟩
            replace hb54 := onRes_fin hb54
            replace hq282 : f280 1 = v_w1 ∧ f280 5 = u12 ∧ f280 16 = v_r_Table ∧ f280 17 = (Value.int .i64 ((r_Table).length : Int)) ∧ f280 18 = (Value.int .i64 (k19 : Int)) ∧ f280 22 = u42 ∧ f280 23 = (Value.int .i64 ((x38).length : Int)) ∧ f280 24 = (Value.int .i64 (k48 : Int)) ∧ St wd2 wd281 [(Ty.sl (Ty.i .i64)).at u12 x284] := hq282
            obtain ⟨hf285, hf286, hf287, hf288, hf289, hf290, hf291, hf292, hS293⟩ := hq282
            show W _ _ _ _ _ _
            refine W.region ?_
            refine WL.val (Value.int .i64 (w64 ((k48 : Int) + (1 : Int)))) _ (op_add hf292 rfl) rfl ?_
            refine WL.val (Value.int .i64 (w64 ((k48 : Int) + (1 : Int)))) _ (op_move rfl) rfl ?_
            refine WL.nil ?_
            obtain rfl := Option.some.inj hb54
            show ∃ s, _ = Ctl.next s ∧ _
            exact ⟨_, rfl, hf285, hf286, hf287, hf288, hf289, hf290, hf291, (ctr_next hl68 hr45), (ctr_rng hl68 hr45), hS293⟩
        · intro x301 f296 wd297 hs298 hI299
          replace hI299 : f296 1 = v_w1 ∧ f296 5 = u12 ∧ f296 16 = v_r_Table ∧ f296 17 = (Value.int .i64 ((r_Table).length : Int)) ∧ f296 18 = (Value.int .i64 (k19 : Int)) ∧ f296 22 = u42 ∧ f296 23 = (Value.int .i64 ((x38).length : Int)) ∧ f296 24 = Value.int .i64 (((x38).length : Nat) : Int) ∧ InR .i64 (((x38).length : Nat) : Int) ∧ St wd2 wd297 [(Ty.sl (Ty.i .i64)).at u12 x301] := hI299
          obtain ⟨hf302, hf303, hf304, hf305, hf306, hf307, hf308, hf309, hr310, hS311⟩ := hI299
          refine W.seq (W.region ?_)
          refine WL.val (Value.bool (decide ((((x38).length : Nat) : Int) < ((x38).length : Int)))) _ (op_lss hf309 hf308) rfl ?_
          have hl312 : ¬ (((x38).length : Nat) : Int) < ((x38).length : Int) := by omega
          refine WL.nil ?_
          show W _ _ _ _ _ _
          refine W.seq ?_
          refine W.condF (decide ((((x38).length : Nat) : Int) < ((x38).length : Int))) rfl (decide_eq_false hl312) ?_
          refine W.exit ?_
          show _ = _ ∧ _
          exact ⟨rfl, _, hs298, hf302, hf303, hf304, hf305, hf306, hS311⟩
      · rintro f313 wd314 ⟨x317, rfl, hq315⟩
        replace hb25 := onRes_fin hb25
        replace hq315 : f313 1 = v_w1 ∧ f313 5 = u12 ∧ f313 16 = v_r_Table ∧ f313 17 = (Value.int .i64 ((r_Table).length : Int)) ∧ f313 18 = (Value.int .i64 (k19 : Int)) ∧ St wd2 wd314 [(Ty.sl (Ty.i .i64)).at u12 x317] := hq315
        obtain ⟨hf318, hf319, hf320, hf321, hf322, hS323⟩ := hq315
        show W _ _ _ _ _ _
        refine W.region ?_
        refine WL.val (Value.int .i64 (w64 ((k19 : Int) + (1 : Int)))) _ (op_add hf322 rfl) rfl ?_
        refine WL.val (Value.int .i64 (w64 ((k19 : Int) + (1 : Int)))) _ (op_move rfl) rfl ?_
        refine WL.nil ?_
        obtain rfl := Option.some.inj hb25
        show ∃ s, _ = Ctl.next s ∧ _
        exact ⟨_, rfl, hf318, hf319, hf320, hf321, (ctr_next hl36 hr16), (ctr_rng hl36 hr16), hS323⟩
    · intro x331 f326 wd327 hs328 hI329
      replace hI329 : f326 1 = v_w1 ∧ f326 5 = u12 ∧ f326 16 = v_r_Table ∧ f326 17 = (Value.int .i64 ((r_Table).length : Int)) ∧ f326 18 = Value.int .i64 (((r_Table).length : Nat) : Int) ∧ InR .i64 (((r_Table).length : Nat) : Int) ∧ St wd2 wd327 [(Ty.sl (Ty.i .i64)).at u12 x331] := hI329
      obtain ⟨hf332, hf333, hf334, hf335, hf336, hr337, hS338⟩ := hI329
      refine W.seq (W.region ?_)
      refine WL.val (Value.bool (decide ((((r_Table).length : Nat) : Int) < ((r_Table).length : Int)))) _ (op_lss hf336 hf335) rfl ?_
      have hl339 : ¬ (((r_Table).length : Nat) : Int) < ((r_Table).length : Int) := by omega
      refine WL.nil ?_
      show W _ _ _ _ _ _
      refine W.seq ?_
      refine W.condF (decide ((((r_Table).length : Nat) : Int) < ((r_Table).length : Int))) rfl (decide_eq_false hl339) ?_
      refine W.exit ?_
      show _ = _ ∧ _
      exact ⟨rfl, _, hs328, hf333, hS338⟩
  · rintro f340 wd341 ⟨x344, rfl, hq342⟩
    replace h := onRes_fin h
    replace hq342 : f340 5 = u12 ∧ St wd2 wd341 [(Ty.sl (Ty.i .i64)).at u12 x344] := hq342
    obtain ⟨hf345, hS346⟩ := hq342
    show W _ _ _ _ _ _
    refine W.seq (W.region ?_)
    refine WL.val u12 _ (op_move hf345) rfl ?_
    refine WL.val u12 _ (op_assign rfl) rfl ?_
    refine WL.nil ?_
    show W _ _ _ _ _ _
    refine W.ret ?_
    obtain rfl := Option.some.inj h
    show FinP _ _ _ _ _ _ _
    exact FinP.ret _ (res1 rfl rfl) ⟨u12, rfl, (Ext.trans hE7 hS346.ext), (St.out (St.pick hS346 [0] rfl) (hE7))⟩

theorem c_slices_Max_Lint64_int64 {w : World} {x : (List Int)} {v_x : Value} (r_x : (Ty.sl (Ty.i .i64)).rep w v_x x) {res : Int} (h : p_slices_Max_Lint64_int64 x  = some res) :
    Ret Try.prog 79 #[v_x] w (fun v w' => v = Value.int .i64 res ∧ InR .i64 res ∧ Ext w w') := by
  unfold p_slices_Max_Lint64_int64 at h
  have hS0 : St w w [] := St.start w
  refine Ret.start (fn := Try.f79) Try.func79 rfl 25 rfl rfl ?_
  refine W.seq (W.region ?_)
  refine WL.val (Value.int .i64 (0 : Int)) _ (op_assign rfl) rfl ?_
  refine WL.nil ?_
  show W _ _ _ _ _ _
  refine W.seq (W.seq (W.region ?_))
  refine WL.val v_x _ (op_move rfl) rfl ?_
  have hr1 := inR_len (Ty.lift _ hS0.ext r_x)
  refine WL.val (Value.int .i64 ((x).length : Int)) _ (op_lenL sl_35 (Ty.lift _ hS0.ext r_x) rfl) rfl ?_
  refine WL.val (Value.bool (decide (((x).length : Int) < (1 : Int)))) _ (op_lss rfl rfl) rfl ?_
  refine WL.nil ?_
  show W _ _ _ _ _ _
  obtain ⟨⟨⟩, hj2, h⟩ := bs h
  refine W.cutCode (fun fq wq => fq 0 = v_x ∧ St w wq []) ?_ ?_
  · refine W.cond (decide (((x).length : Int) < (1 : Int))) rfl (fun hc3 => ?_) (fun hc3 => ?_)
    · replace hj2 := ip hj2 hc3
      refine W.region ?_
      exact (none_some hj2).elim
    · replace hj2 := inegb hj2 hc3
      refine W.skip ?_
      exact ⟨rfl, hS0⟩
  · intro f4 wd5 hq6
    obtain ⟨hf7, hS8⟩ := hq6
    show W _ _ _ _ _ _
    refine W.seq (W.region ?_)
    refine WL.val v_x _ (op_move hf7) rfl ?_
    obtain ⟨x9, hx12, h⟩ := bs h
    obtain ⟨ha10, hb11, hx12⟩ := idx_some hx12
    refine WL.val (Value.pointer (some (elA v_x ((0 : Int)).toNat))) _ (op_idx sl_35 (Ty.lift _ hS8.ext r_x) rfl rfl ha10 hb11) rfl ?_
    obtain ⟨u13, hc14, hr15⟩ := repSl.el r_x hx12
    obtain ⟨rfl, hr15⟩ := hr15
    refine WL.val (Value.int .i64 x9) _ (op_load one_2 rfl (Ext.cell hS8.ext hc14)) rfl ?_
    refine WL.val (Value.int .i64 x9) _ (op_assign rfl) rfl ?_
    refine WL.nil ?_
    show W _ _ _ _ _ _
    refine W.seq (W.seq (W.region ?_))
    refine WL.val (Value.int .i64 (1 : Int)) _ (op_assign rfl) rfl ?_
    refine WL.nil ?_
    show W _ _ _ _ _ _
    obtain ⟨res16, hres17, h⟩ := bs h
    refine W.blockLoop (fun fq wq => ∃ s, res16 = Res.fin s ∧ fq 3 = Value.int .i64 s ∧ InR .i64 s ∧ St w wq []) ?_ ?_
    · refine W.forN (fun k (s : Int) fq wq => fq 0 = v_x ∧ fq 3 = Value.int .i64 s ∧ InR .i64 s ∧ fq 4 = Value.int .i64 ((1 : Int) + (k : Int)) ∧ InR .i64 ((1 : Int) + (k : Int)) ∧ St w wq []) hres17 ⟨hf7, rfl, hr15, rfl, (inR_i64.2 (show (-9223372036854775808 : Int) ≤ 1 ∧ (1 : Int) ≤ 9223372036854775807 from by decide)), hS8⟩ ?_ ?_
      · intro k18 x19 ct20 f21 wd22 hk23 hb24 hI25 hbrk26 hret27
        replace hI25 : f21 0 = v_x ∧ f21 3 = Value.int .i64 x19 ∧ InR .i64 x19 ∧ f21 4 = Value.int .i64 ((1 : Int) + (k18 : Int)) ∧ InR .i64 ((1 : Int) + (k18 : Int)) ∧ St w wd22 [] := hI25
        replace hb24 : p_slices_Max_Lint64_int64_L1 x k18 x19 = some ct20 := hb24
        unfold p_slices_Max_Lint64_int64_L1 at hb24
        obtain ⟨hf28, hf29, hr30, hf31, hr32, hS33⟩ := hI25
        refine W.seq (W.seq (W.region ?_))
        refine WL.val (Value.int .i64 ((1 : Int) + (k18 : Int))) _ (op_move hf31) rfl ?_
        refine WL.val v_x _ (op_move hf28) rfl ?_
        have hr34 := inR_len (Ty.lift _ hS33.ext r_x)
        refine WL.val (Value.int .i64 ((x).length : Int)) _ (op_lenL sl_35 (Ty.lift _ hS33.ext r_x) rfl) rfl ?_
        refine WL.val (Value.bool (decide (((1 : Int) + (k18 : Int)) < ((x).length : Int)))) _ (op_lss rfl rfl) rfl ?_
        have hl35 : ((1 : Int) + (k18 : Int)) < ((x).length : Int) := by omega
        refine WL.nil ?_
        show W _ _ _ _ _ _
        refine W.condT (decide (((1 : Int) + (k18 : Int)) < ((x).length : Int))) rfl (decide_eq_true hl35) ?_
        refine W.skip ?_
        show W _ _ _ _ _ _
        refine W.seq ?_
        refine W.block ?_
        refine W.region ?_
        refine WL.val (Value.int .i64 x19) _ (op_move hf29) rfl ?_
        refine WL.val v_x _ (op_move hf28) rfl ?_
        refine WL.val (Value.int .i64 ((1 : Int) + (k18 : Int))) _ (op_move hf31) rfl ?_
        obtain ⟨x37, hx40, hb24⟩ := bs hb24
        obtain ⟨ha38, hb39, hx40⟩ := idx_some hx40
        refine WL.val (Value.pointer (some (elA v_x (((1 : Int) + (k18 : Int))).toNat))) _ (op_idx sl_35 (Ty.lift _ hS33.ext r_x) rfl rfl ha38 hb39) rfl ?_
        obtain ⟨u41, hc42, hr43⟩ := repSl.el r_x hx40
        obtain ⟨rfl, hr43⟩ := hr43
        refine WL.val (Value.int .i64 x37) _ (op_load one_2 rfl (Ext.cell hS33.ext hc42)) rfl ?_
        refine WL.val (Value.int .i64 (if x37 > x19 then x37 else x19)) _ (op_max2 rfl rfl) rfl ?_
        refine WL.val (Value.int .i64 (if x37 > x19 then x37 else x19)) _ (op_assign rfl) rfl ?_
        refine WL.nil ?_
        show W _ _ _ _ _ _
        refine W.region ?_
        refine WL.val (Value.int .i64 ((1 : Int) + (k18 : Int))) _ (op_move hf31) rfl ?_
        refine WL.val (Value.int .i64 (w64 (((1 : Int) + (k18 : Int)) + (1 : Int)))) _ (op_add rfl rfl) rfl ?_
        refine WL.val (Value.int .i64 (w64 (((1 : Int) + (k18 : Int)) + (1 : Int)))) _ (op_assign rfl) rfl ?_
        refine WL.nil ?_
        obtain rfl := Option.some.inj hb24
        show ∃ s, _ = Ctl.next s ∧ _
        exact ⟨_, rfl, hf28, rfl, (inR_ite hr43 hr30), (ctrS_next hl35 hr34 (inR_i64.2 (show (-9223372036854775808 : Int) ≤ 1 ∧ (1 : Int) ≤ 9223372036854775807 from by decide))), (ctrS_rng hl35 hr34 (inR_i64.2 (show (-9223372036854775808 : Int) ≤ 1 ∧ (1 : Int) ≤ 9223372036854775807 from by decide))), hS33⟩
      · intro x50 f45 wd46 hs47 hI48
        replace hI48 : f45 0 = v_x ∧ f45 3 = Value.int .i64 x50 ∧ InR .i64 x50 ∧ f45 4 = Value.int .i64 ((1 : Int) + (((((x).length : Int) - (1 : Int)).toNat : Nat) : Int)) ∧ InR .i64 ((1 : Int) + (((((x).length : Int) - (1 : Int)).toNat : Nat) : Int)) ∧ St w wd46 [] := hI48
        obtain ⟨hf51, hf52, hr53, hf54, hr55, hS56⟩ := hI48
        refine W.seq (W.seq (W.region ?_))
        refine WL.val (Value.int .i64 ((1 : Int) + (((((x).length : Int) - (1 : Int)).toNat : Nat) : Int))) _ (op_move hf54) rfl ?_
        refine WL.val v_x _ (op_move hf51) rfl ?_
        have hr57 := inR_len (Ty.lift _ hS56.ext r_x)
        refine WL.val (Value.int .i64 ((x).length : Int)) _ (op_lenL sl_35 (Ty.lift _ hS56.ext r_x) rfl) rfl ?_
        refine WL.val (Value.bool (decide (((1 : Int) + (((((x).length : Int) - (1 : Int)).toNat : Nat) : Int)) < ((x).length : Int)))) _ (op_lss rfl rfl) rfl ?_
        have hl58 : ¬ ((1 : Int) + (((((x).length : Int) - (1 : Int)).toNat : Nat) : Int)) < ((x).length : Int) := by omega
        refine WL.nil ?_
        show W _ _ _ _ _ _
        refine W.condF (decide (((1 : Int) + (((((x).length : Int) - (1 : Int)).toNat : Nat) : Int)) < ((x).length : Int))) rfl (decide_eq_false hl58) ?_
        refine W.exit ?_
        show _ = _ ∧ _
        exact ⟨rfl, _, hs47, hf52, hr53, hS56⟩
    · rintro f59 wd60 ⟨x63, rfl, hq61⟩
      replace h := onRes_fin h
      replace hq61 : f59 3 = Value.int .i64 x63 ∧ InR .i64 x63 ∧ St w wd60 [] := hq61
      obtain ⟨hf64, hr65, hS66⟩ := hq61
      show W _ _ _ _ _ _
      refine W.seq (W.region ?_)
      refine WL.val (Value.int .i64 x63) _ (op_move hf64) rfl ?_
      refine WL.val (Value.int .i64 x63) _ (op_assign rfl) rfl ?_
      refine WL.nil ?_
      show W _ _ _ _ _ _
      refine W.ret ?_
      obtain rfl := Option.some.inj h
      show FinP _ _ _ _ _ _ _
      exact FinP.ret _ (res1 rfl rfl) ⟨rfl, hr65, hS66.ext⟩

theorem c_impl_Ring_weightsOf {w : World} {r_Table : (List (List (List Int)))} {v_r_Table : Value} {t : Int} (r_r_Table : (Ty.sl (Ty.sl (Ty.sl (Ty.i .i64)))).rep w v_r_Table r_Table) (r_t : InR .i64 t) {res : (List Int) × Int} (h : p_impl_Ring_weightsOf r_Table t  = some res) :
    Ret Try.prog 50 #[(Value.agg #[v_r_Table]), (Value.int .i64 t)] w (fun v w' => ∃ (u0 : Value), v = (Value.tuple #[u0, Value.int .i64 res.2]) ∧ InR .i64 res.2 ∧ Ext w w' ∧ Sep w.heap.size w' [(Ty.sl (Ty.i .i64)).at u0 res.1]) := by
  unfold p_impl_Ring_weightsOf at h
  have hS0 : St w w [] := St.start w
  refine Ret.start (fn := Try.f50) Try.func50 rfl 23 rfl rfl ?_
  refine W.seq (W.region ?_)
  refine WL.box hS0 rfl (cs := [v_r_Table]) rfl rfl ?_
  intro b1 wd2 hS3 he4 hx5
  replace hS3 : St w wd2 [bx b1 [v_r_Table]] := hS3
  have hx6 := St.boxAt hS3 0 rfl
  have hE7 : Ext w wd2 := hS3.ext
  have hS8 : St wd2 wd2 [] := St.start wd2
  refine WL.val (Value.slice none 0 0) _ (op_assign rfl) rfl ?_
  refine WL.val (Value.int .i64 (0 : Int)) _ (op_assign rfl) rfl ?_
  refine WL.nil ?_
  show W _ _ _ _ _ _
  refine W.seq (W.region ?_)
  refine WL.litFlat (t := (Ty.i .i64)) (flat_i .i64) [(Value.int .i64 (1 : Int))] [(1 : Int)] hS8 sl_35 rfl rfl (fillL rfl ⟨rfl, rfl, rfl, trivial⟩) rfl rfl (litL ⟨⟨rfl, (inR_i64.2 (show (-9223372036854775808 : Int) ≤ 1 ∧ (1 : Int) ≤ 9223372036854775807 from by decide))⟩, trivial⟩) rfl ?_
  intro u9 wd10 hS11 he12
  replace hS11 : St wd2 wd10 [(Ty.sl (Ty.i .i64)).at u9 ([(1 : Int)] : (List Int))] := hS11
  have hb13 := St.rep (t := (Ty.sl (Ty.i .i64))) hS11 0 rfl
  have hE14 : Ext w wd10 := (Ext.trans hE7 hS11.ext)
  have hE15 : Ext wd2 wd10 := hS11.ext
  have hS16 : St wd10 wd10 [] := St.start wd10
  refine WL.val (Value.pointer (some ⟨b1, 0, none⟩)) _ (op_fieldAddr fd_26_0 rfl) rfl ?_
  refine WL.val v_r_Table _ (op_load one_22 rfl (BoxAt.cell (BoxAt.lift (Ext.trans hE15 hS16.ext) hx6) rfl)) rfl ?_
  have hr17 := inR_len (Ty.lift _ (Ext.trans hE14 hS16.ext) r_r_Table)
  refine WL.val (Value.int .i64 ((r_Table).length : Int)) _ (op_lenL sl_22 (Ty.lift _ (Ext.trans hE14 hS16.ext) r_r_Table) rfl) rfl ?_
  obtain ⟨x18, hx19, h⟩ := bs h
  refine WL.call _ (op_call fn_77 (args2 rfl rfl)) (c_slices_Repeat_Lint64_int64 (Ty.lift _ hS16.ext hb13) hr17 hx19) rfl ?_
  rintro u20 wd21 ⟨_, rfl, he22, hs23⟩
  have hS24 := St.join hS16 he22 hs23
  replace hS24 : St wd10 wd21 [(Ty.sl (Ty.i .i64)).at u20 x18] := hS24
  refine WL.val u20 _ (op_assign rfl) rfl ?_
  refine WL.nil ?_
  show W _ _ _ _ _ _
  refine W.seq (W.seq (W.region ?_))
  refine WL.val (Value.int .i64 t) _ (op_move rfl) rfl ?_
  refine WL.val (Value.int .i64 (0 : Int)) _ (op_move rfl) rfl ?_
  refine WL.nil ?_
  show W _ _ _ _ _ _
  obtain ⟨res25, hres26, h⟩ := bs h
  refine W.blockLoop (fun fq wq => ∃ s, res25 = Res.fin s ∧ ∃ (uu0 : Value), fq 6 = uu0 ∧ St wd10 wq [(Ty.sl (Ty.i .i64)).at uu0 s]) ?_ ?_
  · refine W.forN (fun k (s : (List Int)) fq wq => ∃ (uu0 : Value), fq 2 = (Value.pointer (some ⟨b1, 0, none⟩)) ∧ fq 6 = uu0 ∧ fq 12 = (Value.int .i64 t) ∧ fq 13 = Value.int .i64 (k : Int) ∧ InR .i64 (k : Int) ∧ St wd10 wq [(Ty.sl (Ty.i .i64)).at uu0 s]) hres26 ⟨u20, rfl, rfl, rfl, rfl, (inR_i64.2 (show (-9223372036854775808 : Int) ≤ 0 ∧ (0 : Int) ≤ 9223372036854775807 from by decide)), hS24⟩ ?_ ?_
    · intro k27 x28 ct29 f30 wd31 hk32 hb33 hI34 hbrk35 hret36
      replace hI34 : ∃ (uu0 : Value), f30 2 = (Value.pointer (some ⟨b1, 0, none⟩)) ∧ f30 6 = uu0 ∧ f30 12 = (Value.int .i64 t) ∧ f30 13 = Value.int .i64 (k27 : Int) ∧ InR .i64 (k27 : Int) ∧ St wd10 wd31 [(Ty.sl (Ty.i .i64)).at uu0 x28] := hI34
      replace hb33 : p_impl_Ring_weightsOf_L1 r_Table k27 x28 = some ct29 := hb33
      unfold p_impl_Ring_weightsOf_L1 at hb33
      obtain ⟨u37, hf38, hf39, hf40, hf41, hr42, hS43⟩ := hI34
      refine W.seq (W.region ?_)
      refine WL.val (Value.bool (decide ((k27 : Int) < t))) _ (op_lss hf41 hf40) rfl ?_
      have hl44 : (k27 : Int) < t := by omega
      refine WL.nil ?_
      show W _ _ _ _ _ _
      refine W.seq ?_
      refine W.condT (decide ((k27 : Int) < t)) rfl (decide_eq_true hl44) ?_
      refine W.skip ?_
      show W _ _ _ _ _ _
      refine W.seq ?_
      refine W.block ?_
      refine W.seq (W.region ?_)
      refine WL.val (Value.agg #[v_r_Table]) _ (op_loadBox st_26 hf38 (BoxAt.lift (Ext.trans hE15 hS43.ext) hx6) rfl rfl) rfl ?_
      refine WL.val u37 _ (op_move hf39) rfl ?_
      obtain ⟨x46, hx47, hb33⟩ := bs hb33
      refine WL.call _ (op_call fn_78 (args2 rfl rfl)) (c_impl_Ring_nextWeights (Ty.lift _ (Ext.trans hE14 hS43.ext) r_r_Table) (St.rep (t := (Ty.sl (Ty.i .i64))) hS43 0 rfl) hx47) rfl ?_
      rintro u48 wd49 ⟨_, rfl, he50, hs51⟩
      have hS52 := St.join hS43 he50 hs51
      replace hS52 : St wd10 wd49 [(Ty.sl (Ty.i .i64)).at u37 x28, (Ty.sl (Ty.i .i64)).at u48 x46] := hS52
      refine WL.val u48 _ (op_assign rfl) rfl ?_
      refine WL.nil ?_
      show W _ _ _ _ _ _
      refine W.seq (W.region ?_)
      refine WL.val u48 _ (op_move rfl) rfl ?_
      obtain ⟨x53, hx54, hb33⟩ := bs hb33
      refine WL.call _ (op_call fn_79 (args1 rfl)) (c_slices_Max_Lint64_int64 (St.rep (t := (Ty.sl (Ty.i .i64))) hS52 1 rfl) hx54) rfl ?_
      rintro _ wd56 ⟨rfl, hr55, he57⟩
      have hS59 := St.extend hS52 he57
      replace hS59 : St wd10 wd56 [(Ty.sl (Ty.i .i64)).at u37 x28, (Ty.sl (Ty.i .i64)).at u48 x46] := hS59
      refine WL.val (Value.bool (decide (x53 > (1000000 : Int)))) _ (op_gtr rfl rfl) rfl ?_
      refine WL.nil ?_
      show W _ _ _ _ _ _
      refine W.cond (decide (x53 > (1000000 : Int))) rfl (fun hc60 => ?_) (fun hc60 => ?_)
      · replace hb33 := ip hb33 hc60
        refine W.seq (W.region ?_)
        refine WL.val (Value.slice none 0 0) _ (op_assign rfl) rfl ?_
        refine WL.val (Value.int .i64 (3 : Int)) _ (op_assign rfl) rfl ?_
        refine WL.nil ?_
        show W _ _ _ _ _ _
        refine W.ret ?_
        obtain rfl := Option.some.inj hb33
        obtain rfl := hret36 _ rfl
        replace h := onRes_ret h
        obtain rfl := Option.some.inj h
        show FinP _ _ _ _ _ _ _
        exact FinP.ret _ (res2 rfl rfl rfl) ⟨(Value.slice none 0 0), rfl, (inR_i64.2 (show (-9223372036854775808 : Int) ≤ 3 ∧ (3 : Int) ≤ 9223372036854775807 from by decide)), (Ext.trans hE14 hS59.ext), (St.out (St.pick (St.addNil (Ty.i .i64) hS59) [2] rfl) (hE14))⟩
      · replace hb33 := inegb hb33 hc60
        refine W.skip ?_
        show W _ _ _ _ _ _
        refine W.region ?_
        refine WL.val (Value.int .i64 (w64 ((k27 : Int) + (1 : Int)))) _ (op_add hf41 rfl) rfl ?_
        refine WL.val (Value.int .i64 (w64 ((k27 : Int) + (1 : Int)))) _ (op_move rfl) rfl ?_
        refine WL.nil ?_
        obtain rfl := Option.some.inj hb33
        show ∃ s, _ = Ctl.next s ∧ _
        exact ⟨_, rfl, u48, hf38, rfl, hf40, (ctr_next hl44 r_t), (ctr_rng hl44 r_t), (St.pick hS59 [1] rfl)⟩
    · intro x68 f63 wd64 hs65 hI66
      replace hI66 : ∃ (uu0 : Value), f63 2 = (Value.pointer (some ⟨b1, 0, none⟩)) ∧ f63 6 = uu0 ∧ f63 12 = (Value.int .i64 t) ∧ f63 13 = Value.int .i64 (((t).toNat : Nat) : Int) ∧ InR .i64 (((t).toNat : Nat) : Int) ∧ St wd10 wd64 [(Ty.sl (Ty.i .i64)).at uu0 x68] := hI66
      obtain ⟨u69, hf70, hf71, hf72, hf73, hr74, hS75⟩ := hI66
      refine W.seq (W.region ?_)
      refine WL.val (Value.bool (decide ((((t).toNat : Nat) : Int) < t))) _ (op_lss hf73 hf72) rfl ?_
      have hl76 : ¬ (((t).toNat : Nat) : Int) < t := by omega
      refine WL.nil ?_
      show W _ _ _ _ _ _
      refine W.seq ?_
      refine W.condF (decide ((((t).toNat : Nat) : Int) < t)) rfl (decide_eq_false hl76) ?_
      refine W.exit ?_
      show _ = _ ∧ _
      exact ⟨rfl, _, hs65, u69, hf71, hS75⟩
  · rintro f77 wd78 ⟨x81, rfl, hq79⟩
    replace h := onRes_fin h
    replace hq79 : ∃ (uu0 : Value), f77 6 = uu0 ∧ St wd10 wd78 [(Ty.sl (Ty.i .i64)).at uu0 x81] := hq79
    obtain ⟨u82, hf83, hS84⟩ := hq79
    show W _ _ _ _ _ _
    refine W.seq (W.region ?_)
    refine WL.val u82 _ (op_move hf83) rfl ?_
    refine WL.val u82 _ (op_assign rfl) rfl ?_
    refine WL.val (Value.int .i64 (0 : Int)) _ (op_assign rfl) rfl ?_
    refine WL.nil ?_
    show W _ _ _ _ _ _
    refine W.ret ?_
    obtain rfl := Option.some.inj h
    show FinP _ _ _ _ _ _ _
    exact FinP.ret _ (res2 rfl rfl rfl) ⟨u82, rfl, (inR_i64.2 (show (-9223372036854775808 : Int) ≤ 0 ∧ (0 : Int) ≤ 9223372036854775807 from by decide)), (Ext.trans hE14 hS84.ext), (St.out (St.pick hS84 [0] rfl) (hE14))⟩

theorem c_impl_WeightsOf {w : World} {r_Table : (List (List (List Int)))} {v_r_Table : Value} {t : Int} (r_r_Table : (Ty.sl (Ty.sl (Ty.sl (Ty.i .i64)))).rep w v_r_Table r_Table) (r_t : InR .i64 t) {res : (List Int) × Int} (h : p_impl_WeightsOf r_Table t  = some res) :
    Ret Try.prog 20 #[(Value.agg #[v_r_Table]), (Value.int .i64 t)] w (fun v w' => ∃ (u0 : Value), v = (Value.tuple #[u0, Value.int .i64 res.2]) ∧ InR .i64 res.2 ∧ Ext w w' ∧ Sep w.heap.size w' [(Ty.sl (Ty.i .i64)).at u0 res.1]) := by
  unfold p_impl_WeightsOf at h
  have hS0 : St w w [] := St.start w
  refine Ret.start (fn := Try.f20) Try.func20 rfl 17 rfl rfl ?_
  refine W.seq (W.region ?_)
  refine WL.box hS0 rfl (cs := [v_r_Table]) rfl rfl ?_
  intro b1 wd2 hS3 he4 hx5
  replace hS3 : St w wd2 [bx b1 [v_r_Table]] := hS3
  have hx6 := St.boxAt hS3 0 rfl
  have hE7 : Ext w wd2 := hS3.ext
  have hS8 : St wd2 wd2 [] := St.start wd2
  refine WL.val (Value.slice none 0 0) _ (op_assign rfl) rfl ?_
  refine WL.val (Value.int .i64 (0 : Int)) _ (op_assign rfl) rfl ?_
  refine WL.nil ?_
  show W _ _ _ _ _ _
  refine W.seq (W.seq (W.region ?_))
  refine WL.val (Value.agg #[v_r_Table]) _ (op_loadBox st_26 rfl (BoxAt.lift hS8.ext hx6) rfl rfl) rfl ?_
  obtain ⟨x9, hx10, h⟩ := bs h
  refine WL.call _ (op_call fn_38 (args1 rfl)) (c_impl_IsRing (Ty.lift _ (Ext.trans hE7 hS8.ext) r_r_Table) hx10) rfl ?_
  rintro _ wd11 ⟨rfl, he12⟩
  have hS14 := St.extend hS8 he12
  replace hS14 : St wd2 wd11 [] := hS14
  refine WL.val (Value.bool (!x9)) _ (op_not rfl) rfl ?_
  refine WL.nil ?_
  show W _ _ _ _ _ _
  refine W.cond (!x9) rfl (fun hc15 => ?_) (fun hc15 => ?_)
  · replace h := ip h hc15
    refine W.seq (W.region ?_)
    refine WL.val (Value.slice none 0 0) _ (op_assign rfl) rfl ?_
    refine WL.val (Value.int .i64 (1 : Int)) _ (op_assign rfl) rfl ?_
    refine WL.nil ?_
    show W _ _ _ _ _ _
    refine W.ret ?_
    obtain rfl := Option.some.inj h
    show FinP _ _ _ _ _ _ _
    exact FinP.ret _ (res2 rfl rfl rfl) ⟨(Value.slice none 0 0), rfl, (inR_i64.2 (show (-9223372036854775808 : Int) ≤ 1 ∧ (1 : Int) ≤ 9223372036854775807 from by decide)), (Ext.trans hE7 hS14.ext), (St.out (St.pick (St.addNil (Ty.i .i64) hS14) [0] rfl) (hE7))⟩
  · replace h := inegb h hc15
    refine W.skip ?_
    show W _ _ _ _ _ _
    refine W.seq (W.seq (W.region ?_))
    refine WL.val (Value.int .i64 t) _ (op_move rfl) rfl ?_
    obtain ⟨x17, hx18, h⟩ := bs h
    refine WL.call _ (op_call fn_49 (args3 rfl rfl rfl)) (c_impl_within r_t (inR_i64.2 (show (-9223372036854775808 : Int) ≤ 0 ∧ (0 : Int) ≤ 9223372036854775807 from by decide)) (inR_i64.2 (show (-9223372036854775808 : Int) ≤ 20 ∧ (20 : Int) ≤ 9223372036854775807 from by decide)) hx18) rfl ?_
    rintro _ wd19 ⟨rfl, he20⟩
    have hS22 := St.extend hS14 he20
    replace hS22 : St wd2 wd19 [] := hS22
    refine WL.val (Value.bool (!x17)) _ (op_not rfl) rfl ?_
    refine WL.nil ?_
    show W _ _ _ _ _ _
    refine W.cond (!x17) rfl (fun hc23 => ?_) (fun hc23 => ?_)
    · replace h := ip h hc23
      refine W.seq (W.region ?_)
      refine WL.val (Value.slice none 0 0) _ (op_assign rfl) rfl ?_
      refine WL.val (Value.int .i64 (2 : Int)) _ (op_assign rfl) rfl ?_
      refine WL.nil ?_
      show W _ _ _ _ _ _
      refine W.ret ?_
      obtain rfl := Option.some.inj h
      show FinP _ _ _ _ _ _ _
      exact FinP.ret _ (res2 rfl rfl rfl) ⟨(Value.slice none 0 0), rfl, (inR_i64.2 (show (-9223372036854775808 : Int) ≤ 2 ∧ (2 : Int) ≤ 9223372036854775807 from by decide)), (Ext.trans hE7 hS22.ext), (St.out (St.pick (St.addNil (Ty.i .i64) hS22) [0] rfl) (hE7))⟩
    · replace h := inegb h hc23
      refine W.skip ?_
      show W _ _ _ _ _ _
      refine W.seq (W.region ?_)
      refine WL.val (Value.agg #[v_r_Table]) _ (op_loadBox st_26 rfl (BoxAt.lift hS22.ext hx6) rfl rfl) rfl ?_
      refine WL.val (Value.int .i64 t) _ (op_move rfl) rfl ?_
      obtain ⟨x25, hx26, h⟩ := bs h
      refine WL.call _ (op_call fn_50 (args2 rfl rfl)) (c_impl_Ring_weightsOf (Ty.lift _ (Ext.trans hE7 hS22.ext) r_r_Table) r_t hx26) rfl ?_
      rintro _ wd29 ⟨u27, rfl, hr28, he30, hs31⟩
      have hS32 := St.join hS22 he30 hs31
      replace hS32 : St wd2 wd29 [(Ty.sl (Ty.i .i64)).at u27 x25.1] := hS32
      refine WL.val u27 _ (op_extract rfl rfl) rfl ?_
      refine WL.val (Value.int .i64 x25.2) _ (op_extract rfl rfl) rfl ?_
      refine WL.val u27 _ (op_assign rfl) rfl ?_
      refine WL.val (Value.int .i64 x25.2) _ (op_assign rfl) rfl ?_
      refine WL.nil ?_
      show W _ _ _ _ _ _
      refine W.ret ?_
      obtain rfl := Option.some.inj h
      show FinP _ _ _ _ _ _ _
      exact FinP.ret _ (res2 rfl rfl rfl) ⟨u27, rfl, hr28, (Ext.trans hE7 hS32.ext), (St.out (St.pick hS32 [0] rfl) (hE7))⟩

theorem c_laws_FnExactWeightsOf {w : World} {aR_Table : (List (List (List Int)))} {v_aR_Table : Value} {aT : Int} (r_aR_Table : (Ty.sl (Ty.sl (Ty.sl (Ty.i .i64)))).rep w v_aR_Table aR_Table) (r_aT : InR .i64 aT) {res : Bool} (h : p_laws_FnExactWeightsOf aR_Table aT  = some res) :
    Ret Try.prog 5 #[(Value.agg #[v_aR_Table]), (Value.int .i64 aT)] w (fun v w' => v = Value.bool res ∧ Ext w w') := by
  unfold p_laws_FnExactWeightsOf at h
  have hS0 : St w w [] := St.start w
  refine Ret.start (fn := Try.f5) Try.func5 rfl 101 rfl rfl ?_
  refine W.seq (W.region ?_)
  refine WL.box hS0 rfl (cs := [v_aR_Table]) rfl rfl ?_
  intro b1 wd2 hS3 he4 hx5
  replace hS3 : St w wd2 [bx b1 [v_aR_Table]] := hS3
  have hx6 := St.boxAt hS3 0 rfl
  have hE7 : Ext w wd2 := hS3.ext
  have hS8 : St wd2 wd2 [] := St.start wd2
  refine WL.val (Value.bool false) _ (op_assign rfl) rfl ?_
  refine WL.nil ?_
  show W _ _ _ _ _ _
  refine W.seq (W.region ?_)
  refine WL.val (Value.int .i64 (1048576 : Int)) _ (op_assign rfl) rfl ?_
  refine WL.nil ?_
  show W _ _ _ _ _ _
  refine W.seq (W.region ?_)
  refine WL.val (Value.agg #[v_aR_Table]) _ (op_loadBox st_24 rfl (BoxAt.lift hS8.ext hx6) rfl rfl) rfl ?_
  refine WL.val (Value.int .i64 (1048576 : Int)) _ (op_move rfl) rfl ?_
  obtain ⟨x9, hx10, h⟩ := bs h
  refine WL.call _ (op_call fn_10 (args2 rfl rfl)) (c_laws_szRing (Ty.lift _ (Ext.trans hE7 hS8.ext) r_aR_Table) (inR_i64.2 (show (-9223372036854775808 : Int) ≤ 1048576 ∧ (1048576 : Int) ≤ 9223372036854775807 from by decide)) hx10) rfl ?_
  rintro _ wd12 ⟨rfl, hr11, he13⟩
  have hS15 := St.extend hS8 he13
  replace hS15 : St wd2 wd12 [] := hS15
  refine WL.val (Value.int .i64 x9) _ (op_assign rfl) rfl ?_
  refine WL.nil ?_
  show W _ _ _ _ _ _
  refine W.seq (W.seq (W.region ?_))
  refine WL.val (Value.int .i64 x9) _ (op_move rfl) rfl ?_
  refine WL.val (Value.bool (decide (x9 < (0 : Int)))) _ (op_lss rfl rfl) rfl ?_
  refine WL.nil ?_
  show W _ _ _ _ _ _
  refine W.cond (decide (x9 < (0 : Int))) rfl (fun hc16 => ?_) (fun hc16 => ?_)
  · replace h := ip h hc16
    refine W.seq (W.region ?_)
    refine WL.val (Value.bool true) _ (op_assign rfl) rfl ?_
    refine WL.nil ?_
    show W _ _ _ _ _ _
    refine W.ret ?_
    obtain rfl := Option.some.inj h
    show FinP _ _ _ _ _ _ _
    exact FinP.ret _ (res1 rfl rfl) ⟨rfl, (Ext.trans hE7 hS15.ext)⟩
  · replace h := inegb h hc16
    refine W.skip ?_
    show W _ _ _ _ _ _
    refine W.seq (W.region ?_)
    refine WL.val (Value.agg #[v_aR_Table]) _ (op_loadBox st_24 rfl (BoxAt.lift hS15.ext hx6) rfl rfl) rfl ?_
    obtain ⟨x18, hx19, h⟩ := bs h
    refine WL.call _ (op_call fn_12 (args1 rfl)) (c_laws_toRing (Ty.lift _ (Ext.trans hE7 hS15.ext) r_aR_Table) hx19) rfl ?_
    rintro _ wd21 ⟨u20, rfl, he22, hs23⟩
    have hS24 := St.join hS15 he22 hs23
    replace hS24 : St wd2 wd21 [(Ty.sl (Ty.sl (Ty.sl (Ty.i .i64)))).at u20 x18] := hS24
    have hb25 := St.rep (t := (Ty.sl (Ty.sl (Ty.sl (Ty.i .i64))))) hS24 0 rfl
    have hE26 : Ext w wd21 := (Ext.trans hE7 hS24.ext)
    have hE27 : Ext wd2 wd21 := hS24.ext
    have hS28 : St wd21 wd21 [] := St.start wd21
    refine WL.val (Value.int .i64 aT) _ (op_move rfl) rfl ?_
    obtain ⟨x29, hx30, h⟩ := bs h
    refine WL.call _ (op_call fn_19 (args2 rfl rfl)) (c_spec_WeightsOf (Ty.lift _ hS28.ext hb25) r_aT hx30) rfl ?_
    rintro _ wd33 ⟨u31, rfl, hr32, he34, hs35⟩
    have hS36 := St.join hS28 he34 hs35
    replace hS36 : St wd21 wd33 [(Ty.sl (Ty.i .i64)).at u31 x29.1] := hS36
    have hb37 := St.rep (t := (Ty.sl (Ty.i .i64))) hS36 0 rfl
    have hE38 : Ext w wd33 := (Ext.trans hE26 hS36.ext)
    have hE39 : Ext wd2 wd33 := (Ext.trans hE27 hS36.ext)
    have hE40 : Ext wd21 wd33 := hS36.ext
    have hS41 : St wd33 wd33 [] := St.start wd33
    refine WL.val (Value.tuple #[u31, (Value.int .i64 x29.2)]) _ (op_move rfl) rfl ?_
    refine WL.val u31 _ (op_extract rfl rfl) rfl ?_
    refine WL.val (Value.int .i64 x29.2) _ (op_extract rfl rfl) rfl ?_
    refine WL.val u31 _ (op_assign rfl) rfl ?_
    refine WL.val (Value.int .i64 x29.2) _ (op_assign rfl) rfl ?_
    refine WL.nil ?_
    show W _ _ _ _ _ _
    refine W.seq (W.region ?_)
    refine WL.val (Value.agg #[v_aR_Table]) _ (op_loadBox st_24 rfl (BoxAt.lift (Ext.trans hE39 hS41.ext) hx6) rfl rfl) rfl ?_
    obtain ⟨x42, hx43, h⟩ := bs h
    refine WL.call _ (op_call fn_12 (args1 rfl)) (c_laws_toRing (Ty.lift _ (Ext.trans hE38 hS41.ext) r_aR_Table) hx43) rfl ?_
    rintro _ wd45 ⟨u44, rfl, he46, hs47⟩
    have hS48 := St.join hS41 he46 hs47
    replace hS48 : St wd33 wd45 [(Ty.sl (Ty.sl (Ty.sl (Ty.i .i64)))).at u44 x42] := hS48
    refine WL.alloc hS48 ze_26 (cs := [(Value.slice none 0 0)]) rfl rfl ?_
    intro b49 wd50 hS51 he52
    replace hS51 : St wd33 wd50 [(Ty.sl (Ty.sl (Ty.sl (Ty.i .i64)))).at u44 x42, bx b49 [(Value.slice none 0 0)]] := hS51
    refine WL.storeBox [u44] hS51 (k := 1) rfl rfl rfl (us := [u44]) rfl sz_26 rfl rfl (all_rep (St.rep (t := (Ty.sl (Ty.sl (Ty.sl (Ty.i .i64))))) hS51 0 rfl) all_nil) rfl ?_
    intro wd53 hS54
    replace hS54 : St wd33 wd53 [(Ty.sl (Ty.sl (Ty.sl (Ty.i .i64)))).at u44 x42, bx b49 [u44]] := hS54
    refine WL.nil ?_
    show W _ _ _ _ _ _
    refine W.seq (W.region ?_)
    refine WL.val (Value.agg #[u44]) _ (op_loadBox st_26 rfl (St.boxAt hS54 1 rfl) rfl rfl) rfl ?_
    refine WL.val (Value.int .i64 aT) _ (op_move rfl) rfl ?_
    obtain ⟨x55, hx56, h⟩ := bs h
    refine WL.call _ (op_call fn_20 (args2 rfl rfl)) (c_impl_WeightsOf (St.rep (t := (Ty.sl (Ty.sl (Ty.sl (Ty.i .i64))))) hS54 0 rfl) r_aT hx56) rfl ?_
    rintro _ wd59 ⟨u57, rfl, hr58, he60, hs61⟩
    have hS62 := St.join hS54 he60 hs61
    replace hS62 : St wd33 wd59 [(Ty.sl (Ty.sl (Ty.sl (Ty.i .i64)))).at u44 x42, bx b49 [u44], (Ty.sl (Ty.i .i64)).at u57 x55.1] := hS62
    refine WL.val (Value.tuple #[u57, (Value.int .i64 x55.2)]) _ (op_move rfl) rfl ?_
    refine WL.val u57 _ (op_extract rfl rfl) rfl ?_
    refine WL.val (Value.int .i64 x55.2) _ (op_extract rfl rfl) rfl ?_
    refine WL.val u57 _ (op_assign rfl) rfl ?_
    refine WL.val (Value.int .i64 x55.2) _ (op_assign rfl) rfl ?_
    refine WL.nil ?_
    show W _ _ _ _ _ _
    refine W.seq (W.seq (W.region ?_))
    refine WL.val u57 _ (op_move rfl) rfl ?_
    refine WL.val u31 _ (op_move rfl) rfl ?_
    obtain ⟨x63, hx64, h⟩ := bs h
    refine WL.call _ (op_call fn_21 (args2 rfl rfl)) (c_laws_eqInt64S (St.rep (t := (Ty.sl (Ty.i .i64))) hS62 2 rfl) (Ty.lift _ hS62.ext hb37) hx64) rfl ?_
    rintro _ wd65 ⟨rfl, he66⟩
    have hS68 := St.extend hS62 he66
    replace hS68 : St wd33 wd65 [(Ty.sl (Ty.sl (Ty.sl (Ty.i .i64)))).at u44 x42, bx b49 [u44], (Ty.sl (Ty.i .i64)).at u57 x55.1] := hS68
    refine WL.val (Value.bool (!x63)) _ (op_not rfl) rfl ?_
    refine WL.val (Value.bool (!x63)) _ (op_move rfl) rfl ?_
    refine WL.cut 4 (fun fq wq => fq 1 = (Value.int .i64 aT) ∧ fq 2 = (Value.pointer (some ⟨b1, 0, none⟩)) ∧ fq 6 = u31 ∧ fq 7 = (Value.int .i64 x29.2) ∧ fq 8 = (Value.pointer (some ⟨b49, 0, none⟩)) ∧ fq 9 = u57 ∧ fq 10 = (Value.int .i64 x55.2) ∧ fq 44 = (Value.bool ((!x63) || (x55.2 != x29.2))) ∧ St wd33 wq [(Ty.sl (Ty.sl (Ty.sl (Ty.i .i64)))).at u44 x42, bx b49 [u44], (Ty.sl (Ty.i .i64)).at u57 x55.1]) ?_ ?_
    · rcases Bool.eq_false_or_eq_true (!x63) with hc69 | hc69
      · refine WL.gskip rfl (bool_of rfl hc69) rfl ?_
        refine WL.gskip rfl (bool_of rfl hc69) rfl ?_
        refine WL.gskip rfl (bool_of rfl hc69) rfl ?_
        refine WL.val (Value.bool true) _ (op_pick_t (evb_of rfl hc69) rfl) rfl ?_
        refine WL.nil ?_
        exact ⟨rfl, rfl, rfl, rfl, rfl, rfl, rfl, rfl, (orT hc69), hS68⟩
      · refine WL.grun rfl (bool_of rfl hc69) ?_
        refine WL.val (Value.int .i64 x55.2) _ (op_move rfl) rfl ?_
        refine WL.grun rfl (bool_of rfl hc69) ?_
        refine WL.val (Value.int .i64 x29.2) _ (op_move rfl) rfl ?_
        refine WL.grun rfl (bool_of rfl hc69) ?_
        refine WL.val (Value.bool (x55.2 != x29.2)) _ (op_neq rfl rfl) rfl ?_
        refine WL.val (Value.bool (x55.2 != x29.2)) _ (op_pick_f (evb_of rfl hc69) rfl) rfl ?_
        refine WL.nil ?_
        exact ⟨rfl, rfl, rfl, rfl, rfl, rfl, rfl, rfl, (orF hc69), hS68⟩
    · intro f70 wd71 hq72
      obtain ⟨hf73, hf74, hf75, hf76, hf77, hf78, hf79, hf80, hS81⟩ := hq72
      refine WL.nil ?_
      show W _ _ _ _ _ _
      refine W.cond ((!x63) || (x55.2 != x29.2)) hf80 (fun hc82 => ?_) (fun hc82 => ?_)
      · replace h := ip h hc82
        refine W.seq (W.region ?_)
        refine WL.val (Value.bool false) _ (op_assign rfl) rfl ?_
        refine WL.nil ?_
        show W _ _ _ _ _ _
        refine W.ret ?_
        obtain rfl := Option.some.inj h
        show FinP _ _ _ _ _ _ _
        exact FinP.ret _ (res1 rfl rfl) ⟨rfl, (Ext.trans hE38 hS81.ext)⟩
      · replace h := inegb h hc82
        refine W.skip ?_
        show W _ _ _ _ _ _
        refine W.seq (W.seq ?_)
        obtain ⟨x110, hx111, h⟩ := bs h
        refine W.drawR mixo 3 [] [fun _ v S w' => ∃ (uu0 : Value), v = (Value.agg #[uu0]) ∧ (Ty.sl (Ty.sl (Ty.sl (Ty.i .i64)))).rep w' uu0 x42, fun _ v S w' => ∃ (uu0 : Value), v = (Value.agg #[uu0]) ∧ (Ty.sl (Ty.sl (Ty.sl (Ty.i .i64)))).rep w' uu0 aR_Table, fun _ v S w' => ∃ (uu0 : Value), v = (Value.agg #[uu0]) ∧ SepS S w' [(Ty.sl (Ty.sl (Ty.sl (Ty.i .i64)))).at uu0 x110]] (by kernel_rfl) (by kernel_rfl) ⟨⟨fun _ _ _ _ _ he ⟨uu0, h0, r0⟩ => ⟨uu0, h0, Ty.lift _ he r0⟩, fun _ _ _ _ _ _ h => h⟩, ⟨fun _ _ _ _ _ he ⟨uu0, h0, r0⟩ => ⟨uu0, h0, Ty.lift _ he r0⟩, fun _ _ _ _ _ _ h => h⟩, ⟨fun _ _ _ _ _ he ⟨uu0, h0, r0⟩ => ⟨uu0, h0, SepS.extend he r0⟩, fun _ _ _ _ _ _ h => h⟩, trivial⟩ ⟨?_, ?_, ?_, trivial⟩ ?_
        · refine ObX.op rfl ?_
          intro f84 wd85 he86 hout87 hphi88
          have hS89 : St wd33 wd85 [(Ty.sl (Ty.sl (Ty.sl (Ty.i .i64)))).at u44 x42, bx b49 [u44], (Ty.sl (Ty.i .i64)).at u57 x55.1] := St.extend hS81 he86
          have e90 : f84 8 = (Value.pointer (some ⟨b49, 0, none⟩)) := (hout87 8 rfl).trans hf77
          exact OpX.val (Value.agg #[u44]) wd85 rfl (op_loadBox st_26 e90 (St.boxAt hS89 1 rfl) rfl rfl) (Ext.refl _) ⟨u44, rfl, (St.rep (t := (Ty.sl (Ty.sl (Ty.sl (Ty.i .i64))))) hS89 0 rfl)⟩
        · refine ObX.op rfl ?_
          intro f91 wd92 he93 hout94 hphi95
          have hS96 : St wd33 wd92 [(Ty.sl (Ty.sl (Ty.sl (Ty.i .i64)))).at u44 x42, bx b49 [u44], (Ty.sl (Ty.i .i64)).at u57 x55.1] := St.extend hS81 he93
          have e97 : f91 2 = (Value.pointer (some ⟨b1, 0, none⟩)) := (hout94 2 rfl).trans hf74
          exact OpX.val (Value.agg #[v_aR_Table]) wd92 rfl (op_loadBox st_24 e97 (BoxAt.lift (Ext.trans hE39 hS96.ext) hx6) rfl rfl) (Ext.refl _) ⟨v_aR_Table, rfl, (Ty.lift _ (Ext.trans hE38 hS96.ext) r_aR_Table)⟩
        · refine ObX.op rfl ?_
          intro f98 wd99 he100 hout101 hphi102
          have hS103 : St wd33 wd99 [(Ty.sl (Ty.sl (Ty.sl (Ty.i .i64)))).at u44 x42, bx b49 [u44], (Ty.sl (Ty.i .i64)).at u57 x55.1] := St.extend hS81 he100
          obtain ⟨S104, hS105, hf106⟩ := hphi102 1 46 _ rfl rfl rfl
          obtain ⟨u108, e107, hr109⟩ := hf106
          refine OpX.call rfl (op_call fn_12 (args1 e107)) (Ret.mono (c_laws_toRing hr109 hx111) ?_)
          rintro _ wd113 ⟨u112, rfl, he114, hs115⟩
          exact ⟨he114, _, newS _ _, ⟨u112, rfl, (Sep.new hs115)⟩⟩
        · intro f116 wd117 Ss118 he119 hout120 hSn121 hSd122 hphi123
          show WL _ _ _ _ _ _ _
          have hS124 : St wd33 wd117 [(Ty.sl (Ty.sl (Ty.sl (Ty.i .i64)))).at u44 x42, bx b49 [u44], (Ty.sl (Ty.i .i64)).at u57 x55.1] := St.extend hS81 he119
          obtain ⟨u126, e125, hr127⟩ := hphi123 0 45 _ (by decide) rfl rfl
          obtain ⟨u129, e128, e128s⟩ := hphi123 2 47 _ (by decide) rfl rfl
          have e130 : f116 1 = (Value.int .i64 aT) := (hout120 1 rfl).trans hf73
          have e131 : f116 2 = (Value.pointer (some ⟨b1, 0, none⟩)) := (hout120 2 rfl).trans hf74
          have e132 : f116 6 = u31 := (hout120 6 rfl).trans hf75
          have e133 : f116 7 = (Value.int .i64 x29.2) := (hout120 7 rfl).trans hf76
          have e134 : f116 8 = (Value.pointer (some ⟨b49, 0, none⟩)) := (hout120 8 rfl).trans hf77
          have e135 : f116 9 = u57 := (hout120 9 rfl).trans hf78
          have e136 : f116 10 = (Value.int .i64 x55.2) := (hout120 10 rfl).trans hf79
          have hS137 := St.joinS hS81 he119 hSn121 (SepS.consS hSd122 rfl e128s SepS.nilS)
          replace hS137 : St wd33 wd117 [(Ty.sl (Ty.sl (Ty.sl (Ty.i .i64)))).at u44 x42, bx b49 [u44], (Ty.sl (Ty.i .i64)).at u57 x55.1, (Ty.sl (Ty.sl (Ty.sl (Ty.i .i64)))).at u129 x110] := hS137
          obtain ⟨x138, hx139, h⟩ := bs h
          refine WL.call _ (op_call fn_14 (args2 e125 e128)) (c_laws_eqRing hr127 (St.rep (t := (Ty.sl (Ty.sl (Ty.sl (Ty.i .i64))))) hS137 3 rfl) hx139) rfl ?_
          rintro _ wd140 ⟨rfl, he141⟩
          have hS143 := St.extend hS137 he141
          replace hS143 : St wd33 wd140 [(Ty.sl (Ty.sl (Ty.sl (Ty.i .i64)))).at u44 x42, bx b49 [u44], (Ty.sl (Ty.i .i64)).at u57 x55.1, (Ty.sl (Ty.sl (Ty.sl (Ty.i .i64)))).at u129 x110] := hS143
          refine WL.val (Value.bool (!x138)) _ (op_not rfl) rfl ?_
          refine WL.nil ?_
          show W _ _ _ _ _ _
          refine W.cond (!x138) rfl (fun hc144 => ?_) (fun hc144 => ?_)
          · replace h := ip h hc144
            refine W.seq (W.region ?_)
            refine WL.val (Value.bool false) _ (op_assign rfl) rfl ?_
            refine WL.nil ?_
            show W _ _ _ _ _ _
            refine W.ret ?_
            obtain rfl := Option.some.inj h
            show FinP _ _ _ _ _ _ _
            exact FinP.ret _ (res1 rfl rfl) ⟨rfl, (Ext.trans hE38 hS143.ext)⟩
          · replace h := inegb h hc144
            refine W.skip ?_
            show W _ _ _ _ _ _
            refine W.seq (W.region ?_)
            refine WL.val (Value.int .i64 (1 : Int)) _ (op_assign rfl) rfl ?_
            refine WL.nil ?_
            show W _ _ _ _ _ _
            refine W.seq (W.region ?_)
            refine WL.val (Value.agg #[u44]) _ (op_loadBox st_26 e134 (St.boxAt hS143 1 rfl) rfl rfl) rfl ?_
            refine WL.val (Value.int .i64 (1 : Int)) _ (op_move rfl) rfl ?_
            obtain ⟨x146, hx147, h⟩ := bs h
            have hS148 := St.fold [(Ty.sl (Ty.sl (Ty.sl (Ty.i .i64)))).at u44 x42] [bx b49 [u44], (Ty.sl (Ty.i .i64)).at u57 x55.1, (Ty.sl (Ty.sl (Ty.sl (Ty.i .i64)))).at u129 x110] (St.pick hS143 [0, 1, 2, 3] rfl)
            refine WL.call _ (op_call fn_15 (args2 rfl rfl)) (c_laws_markRing hS148 (inR_i64.2 (show (-9223372036854775808 : Int) ≤ 1 ∧ (1 : Int) ≤ 9223372036854775807 from by decide)) hx147) rfl ?_
            rintro _ wd151 ⟨rfl, hr152, hS149⟩
            have hS150 := St.pick (St.unfold [(Ty.sl (Ty.sl (Ty.sl (Ty.i .i64)))).at u44 x146.2] [bx b49 [u44], (Ty.sl (Ty.i .i64)).at u57 x55.1, (Ty.sl (Ty.sl (Ty.sl (Ty.i .i64)))).at u129 x110] hS149) [0, 1, 2, 3] rfl
            replace hS150 : St wd33 wd151 [(Ty.sl (Ty.sl (Ty.sl (Ty.i .i64)))).at u44 x146.2, bx b49 [u44], (Ty.sl (Ty.i .i64)).at u57 x55.1, (Ty.sl (Ty.sl (Ty.sl (Ty.i .i64)))).at u129 x110] := hS150
            refine WL.val (Value.int .i64 x146.1) _ (op_assign rfl) rfl ?_
            refine WL.nil ?_
            show W _ _ _ _ _ _
            refine W.seq (W.seq (W.region ?_))
            refine WL.val (Value.int .i64 x146.1) _ (op_move rfl) rfl ?_
            refine WL.val (Value.bool (decide (x146.1 < (0 : Int)))) _ (op_lss rfl rfl) rfl ?_
            refine WL.val (Value.bool (decide (x146.1 < (0 : Int)))) _ (op_move rfl) rfl ?_
            obtain ⟨x154, hj155, h⟩ := bs h
            refine WL.cut 5 (fun fq wq => fq 1 = (Value.int .i64 aT) ∧ fq 2 = (Value.pointer (some ⟨b1, 0, none⟩)) ∧ fq 6 = u31 ∧ fq 7 = (Value.int .i64 x29.2) ∧ fq 9 = u57 ∧ fq 10 = (Value.int .i64 x55.2) ∧ fq 60 = Value.bool x154 ∧ St wd33 wq [(Ty.sl (Ty.i .i64)).at u57 x55.1]) ?_ ?_
            · rcases Bool.eq_false_or_eq_true (decide (x146.1 < (0 : Int))) with hc153 | hc153
              · replace hj155 := ip hj155 hc153
                refine WL.gskip rfl (bool_of rfl hc153) rfl ?_
                refine WL.gskip rfl (bool_of rfl hc153) rfl ?_
                refine WL.gskip rfl (bool_of rfl hc153) rfl ?_
                refine WL.gskip rfl (bool_of rfl hc153) rfl ?_
                refine WL.val (Value.bool true) _ (op_pick_t (evb_of rfl hc153) rfl) rfl ?_
                refine WL.nil ?_
                obtain rfl := Option.some.inj hj155
                exact ⟨rfl, e130, e131, e132, e133, e135, e136, rfl, (St.pick hS150 [2] rfl)⟩
              · replace hj155 := inegb hj155 hc153
                refine WL.grun rfl (bool_of rfl hc153) ?_
                refine WL.val u57 _ (op_move e135) rfl ?_
                refine WL.grun rfl (bool_of rfl hc153) ?_
                refine WL.val u31 _ (op_move e132) rfl ?_
                refine WL.grun rfl (bool_of rfl hc153) ?_
                obtain ⟨x159, hx160, hj155⟩ := bs hj155
                refine WL.call _ (op_call fn_21 (args2 rfl rfl)) (c_laws_eqInt64S (St.rep (t := (Ty.sl (Ty.i .i64))) hS150 2 rfl) (Ty.lift _ hS150.ext hb37) hx160) rfl ?_
                rintro _ wd161 ⟨rfl, he162⟩
                have hS164 := St.extend hS150 he162
                replace hS164 : St wd33 wd161 [(Ty.sl (Ty.sl (Ty.sl (Ty.i .i64)))).at u44 x146.2, bx b49 [u44], (Ty.sl (Ty.i .i64)).at u57 x55.1, (Ty.sl (Ty.sl (Ty.sl (Ty.i .i64)))).at u129 x110] := hS164
                refine WL.grun rfl (bool_of rfl hc153) ?_
                refine WL.val (Value.bool (!x159)) _ (op_not rfl) rfl ?_
                refine WL.val (Value.bool (!x159)) _ (op_pick_f (evb_of rfl hc153) rfl) rfl ?_
                refine WL.nil ?_
                obtain rfl := Option.some.inj hj155
                exact ⟨rfl, e130, e131, e132, e133, e135, e136, rfl, (St.pick hS164 [2] rfl)⟩
            · intro f156 wd157 hq158
              obtain ⟨hf165, hf166, hf167, hf168, hf169, hf170, hf171, hS172⟩ := hq158
              refine WL.val (Value.bool x154) _ (op_move hf171) rfl ?_
              refine WL.cut 4 (fun fq wq => fq 1 = (Value.int .i64 aT) ∧ fq 2 = (Value.pointer (some ⟨b1, 0, none⟩)) ∧ fq 6 = u31 ∧ fq 7 = (Value.int .i64 x29.2) ∧ fq 9 = u57 ∧ fq 65 = (Value.bool (x154 || (x55.2 != x29.2))) ∧ St wd33 wq [(Ty.sl (Ty.i .i64)).at u57 x55.1]) ?_ ?_
              · rcases Bool.eq_false_or_eq_true x154 with hc173 | hc173
                · refine WL.gskip rfl (bool_of rfl hc173) rfl ?_
                  refine WL.gskip rfl (bool_of rfl hc173) rfl ?_
                  refine WL.gskip rfl (bool_of rfl hc173) rfl ?_
                  refine WL.val (Value.bool true) _ (op_pick_t (evb_of rfl hc173) rfl) rfl ?_
                  refine WL.nil ?_
                  exact ⟨rfl, hf165, hf166, hf167, hf168, hf169, (orT hc173), hS172⟩
                · refine WL.grun rfl (bool_of rfl hc173) ?_
                  refine WL.val (Value.int .i64 x55.2) _ (op_move hf170) rfl ?_
                  refine WL.grun rfl (bool_of rfl hc173) ?_
                  refine WL.val (Value.int .i64 x29.2) _ (op_move hf168) rfl ?_
                  refine WL.grun rfl (bool_of rfl hc173) ?_
                  refine WL.val (Value.bool (x55.2 != x29.2)) _ (op_neq rfl rfl) rfl ?_
                  refine WL.val (Value.bool (x55.2 != x29.2)) _ (op_pick_f (evb_of rfl hc173) rfl) rfl ?_
                  refine WL.nil ?_
                  exact ⟨rfl, hf165, hf166, hf167, hf168, hf169, (orF hc173), hS172⟩
              · intro f174 wd175 hq176
                obtain ⟨hf177, hf178, hf179, hf180, hf181, hf182, hS183⟩ := hq176
                refine WL.nil ?_
                show W _ _ _ _ _ _
                refine W.cond (x154 || (x55.2 != x29.2)) hf182 (fun hc184 => ?_) (fun hc184 => ?_)
                · replace h := ip h hc184
                  refine W.seq (W.region ?_)
                  refine WL.val (Value.bool false) _ (op_assign rfl) rfl ?_
                  refine WL.nil ?_
                  show W _ _ _ _ _ _
                  refine W.ret ?_
                  obtain rfl := Option.some.inj h
                  show FinP _ _ _ _ _ _ _
                  exact FinP.ret _ (res1 rfl rfl) ⟨rfl, (Ext.trans hE38 hS183.ext)⟩
                · replace h := inegb h hc184
                  refine W.skip ?_
                  show W _ _ _ _ _ _
                  refine W.seq (W.region ?_)
                  refine WL.val (Value.int .i64 (1 : Int)) _ (op_assign rfl) rfl ?_
                  refine WL.nil ?_
                  show W _ _ _ _ _ _
                  refine W.seq (W.region ?_)
                  refine WL.val u57 _ (op_move hf181) rfl ?_
                  refine WL.val (Value.int .i64 (1 : Int)) _ (op_move rfl) rfl ?_
                  obtain ⟨x186, hx187, h⟩ := bs h
                  have hS188 := St.fold [(Ty.sl (Ty.i .i64)).at u57 x55.1] [] (St.pick hS183 [0] rfl)
                  refine WL.call _ (op_call fn_22 (args2 rfl rfl)) (c_laws_markInt64S hS188 (inR_i64.2 (show (-9223372036854775808 : Int) ≤ 1 ∧ (1 : Int) ≤ 9223372036854775807 from by decide)) hx187) rfl ?_
                  rintro _ wd191 ⟨rfl, hr192, hS189⟩
                  have hS190 := St.pick (St.unfold [(Ty.sl (Ty.i .i64)).at u57 x186.2] [] hS189) [0] rfl
                  replace hS190 : St wd33 wd191 [(Ty.sl (Ty.i .i64)).at u57 x186.2] := hS190
                  refine WL.val (Value.int .i64 x186.1) _ (op_assign rfl) rfl ?_
                  refine WL.nil ?_
                  show W _ _ _ _ _ _
                  refine W.seq (W.region ?_)
                  refine WL.val (Value.int .i64 (1 : Int)) _ (op_assign rfl) rfl ?_
                  refine WL.nil ?_
                  show W _ _ _ _ _ _
                  refine W.seq (W.region ?_)
                  refine WL.val u57 _ (op_move hf181) rfl ?_
                  refine WL.val (Value.int .i64 (1 : Int)) _ (op_move rfl) rfl ?_
                  obtain ⟨x193, hx194, h⟩ := bs h
                  refine WL.call _ (op_call fn_23 (args2 rfl rfl)) (c_laws_heldInt64S (St.rep (t := (Ty.sl (Ty.i .i64))) hS190 0 rfl) (inR_i64.2 (show (-9223372036854775808 : Int) ≤ 1 ∧ (1 : Int) ≤ 9223372036854775807 from by decide)) hx194) rfl ?_
                  rintro _ wd196 ⟨rfl, hr195, he197⟩
                  have hS199 := St.extend hS190 he197
                  replace hS199 : St wd33 wd196 [(Ty.sl (Ty.i .i64)).at u57 x186.2] := hS199
                  refine WL.val (Value.int .i64 x193) _ (op_assign rfl) rfl ?_
                  refine WL.nil ?_
                  show W _ _ _ _ _ _
                  refine W.seq (W.seq (W.region ?_))
                  refine WL.val (Value.int .i64 x193) _ (op_move rfl) rfl ?_
                  refine WL.val (Value.bool (decide (x193 < (0 : Int)))) _ (op_lss rfl rfl) rfl ?_
                  refine WL.nil ?_
                  show W _ _ _ _ _ _
                  refine W.cond (decide (x193 < (0 : Int))) rfl (fun hc200 => ?_) (fun hc200 => ?_)
                  · replace h := ip h hc200
                    refine W.seq (W.region ?_)
                    refine WL.val (Value.bool false) _ (op_assign rfl) rfl ?_
                    refine WL.nil ?_
                    show W _ _ _ _ _ _
                    refine W.ret ?_
                    obtain rfl := Option.some.inj h
                    show FinP _ _ _ _ _ _ _
                    exact FinP.ret _ (res1 rfl rfl) ⟨rfl, (Ext.trans hE38 hS199.ext)⟩
                  · replace h := inegb h hc200
                    refine W.skip ?_
                    show W _ _ _ _ _ _
                    refine W.seq (W.seq (W.region ?_))
                    refine WL.val (Value.int .i64 x193) _ (op_move rfl) rfl ?_
                    refine WL.val (Value.int .i64 x186.1) _ (op_move rfl) rfl ?_
                    refine WL.val (Value.bool (x193 != x186.1)) _ (op_neq rfl rfl) rfl ?_
                    refine WL.nil ?_
                    show W _ _ _ _ _ _
                    refine W.cond (x193 != x186.1) rfl (fun hc202 => ?_) (fun hc202 => ?_)
                    · replace h := ip h hc202
                      refine W.seq (W.region ?_)
                      refine WL.val (Value.bool false) _ (op_assign rfl) rfl ?_
                      refine WL.nil ?_
                      show W _ _ _ _ _ _
                      refine W.ret ?_
                      obtain rfl := Option.some.inj h
                      show FinP _ _ _ _ _ _ _
                      exact FinP.ret _ (res1 rfl rfl) ⟨rfl, (Ext.trans hE38 hS199.ext)⟩
                    · replace h := inegb h hc202
                      refine W.skip ?_
                      show W _ _ _ _ _ _
                      refine W.seq (W.region ?_)
                      refine WL.val (Value.agg #[v_aR_Table]) _ (op_loadBox st_24 hf178 (BoxAt.lift (Ext.trans hE39 hS199.ext) hx6) rfl rfl) rfl ?_
                      obtain ⟨x204, hx205, h⟩ := bs h
                      refine WL.call _ (op_call fn_12 (args1 rfl)) (c_laws_toRing (Ty.lift _ (Ext.trans hE38 hS199.ext) r_aR_Table) hx205) rfl ?_
                      rintro _ wd207 ⟨u206, rfl, he208, hs209⟩
                      have hS210 := St.join hS199 he208 hs209
                      replace hS210 : St wd33 wd207 [(Ty.sl (Ty.i .i64)).at u57 x186.2, (Ty.sl (Ty.sl (Ty.sl (Ty.i .i64)))).at u206 x204] := hS210
                      refine WL.val (Value.int .i64 aT) _ (op_move hf177) rfl ?_
                      obtain ⟨x211, hx212, h⟩ := bs h
                      refine WL.call _ (op_call fn_20 (args2 rfl rfl)) (c_impl_WeightsOf (St.rep (t := (Ty.sl (Ty.sl (Ty.sl (Ty.i .i64))))) hS210 1 rfl) r_aT hx212) rfl ?_
                      rintro _ wd215 ⟨u213, rfl, hr214, he216, hs217⟩
                      have hS218 := St.join hS210 he216 hs217
                      replace hS218 : St wd33 wd215 [(Ty.sl (Ty.i .i64)).at u57 x186.2, (Ty.sl (Ty.sl (Ty.sl (Ty.i .i64)))).at u206 x204, (Ty.sl (Ty.i .i64)).at u213 x211.1] := hS218
                      refine WL.val (Value.tuple #[u213, (Value.int .i64 x211.2)]) _ (op_move rfl) rfl ?_
                      refine WL.val u213 _ (op_extract rfl rfl) rfl ?_
                      refine WL.val (Value.int .i64 x211.2) _ (op_extract rfl rfl) rfl ?_
                      refine WL.val u213 _ (op_assign rfl) rfl ?_
                      refine WL.val (Value.int .i64 x211.2) _ (op_assign rfl) rfl ?_
                      refine WL.nil ?_
                      show W _ _ _ _ _ _
                      refine W.seq (W.seq (W.region ?_))
                      refine WL.val u213 _ (op_move rfl) rfl ?_
                      refine WL.val u31 _ (op_move hf179) rfl ?_
                      obtain ⟨x219, hx220, h⟩ := bs h
                      refine WL.call _ (op_call fn_21 (args2 rfl rfl)) (c_laws_eqInt64S (St.rep (t := (Ty.sl (Ty.i .i64))) hS218 2 rfl) (Ty.lift _ hS218.ext hb37) hx220) rfl ?_
                      rintro _ wd221 ⟨rfl, he222⟩
                      have hS224 := St.extend hS218 he222
                      replace hS224 : St wd33 wd221 [(Ty.sl (Ty.i .i64)).at u57 x186.2, (Ty.sl (Ty.sl (Ty.sl (Ty.i .i64)))).at u206 x204, (Ty.sl (Ty.i .i64)).at u213 x211.1] := hS224
                      refine WL.val (Value.bool (!x219)) _ (op_not rfl) rfl ?_
                      refine WL.val (Value.bool (!x219)) _ (op_move rfl) rfl ?_
                      refine WL.cut 4 (fun fq wq => fq 9 = u57 ∧ fq 12 = (Value.int .i64 x186.1) ∧ fq 92 = (Value.bool ((!x219) || (x211.2 != x29.2))) ∧ St wd33 wq [(Ty.sl (Ty.i .i64)).at u57 x186.2]) ?_ ?_
                      · rcases Bool.eq_false_or_eq_true (!x219) with hc225 | hc225
                        · refine WL.gskip rfl (bool_of rfl hc225) rfl ?_
                          refine WL.gskip rfl (bool_of rfl hc225) rfl ?_
                          refine WL.gskip rfl (bool_of rfl hc225) rfl ?_
                          refine WL.val (Value.bool true) _ (op_pick_t (evb_of rfl hc225) rfl) rfl ?_
                          refine WL.nil ?_
                          exact ⟨rfl, hf181, rfl, (orT hc225), (St.pick hS224 [0] rfl)⟩
                        · refine WL.grun rfl (bool_of rfl hc225) ?_
                          refine WL.val (Value.int .i64 x211.2) _ (op_move rfl) rfl ?_
                          refine WL.grun rfl (bool_of rfl hc225) ?_
                          refine WL.val (Value.int .i64 x29.2) _ (op_move hf180) rfl ?_
                          refine WL.grun rfl (bool_of rfl hc225) ?_
                          refine WL.val (Value.bool (x211.2 != x29.2)) _ (op_neq rfl rfl) rfl ?_
                          refine WL.val (Value.bool (x211.2 != x29.2)) _ (op_pick_f (evb_of rfl hc225) rfl) rfl ?_
                          refine WL.nil ?_
                          exact ⟨rfl, hf181, rfl, (orF hc225), (St.pick hS224 [0] rfl)⟩
                      · intro f226 wd227 hq228
                        obtain ⟨hf229, hf230, hf231, hS232⟩ := hq228
                        refine WL.nil ?_
                        show W _ _ _ _ _ _
                        refine W.cond ((!x219) || (x211.2 != x29.2)) hf231 (fun hc233 => ?_) (fun hc233 => ?_)
                        · replace h := ip h hc233
                          refine W.seq (W.region ?_)
                          refine WL.val (Value.bool false) _ (op_assign rfl) rfl ?_
                          refine WL.nil ?_
                          show W _ _ _ _ _ _
                          refine W.ret ?_
                          obtain rfl := Option.some.inj h
                          show FinP _ _ _ _ _ _ _
                          exact FinP.ret _ (res1 rfl rfl) ⟨rfl, (Ext.trans hE38 hS232.ext)⟩
                        · replace h := inegb h hc233
                          refine W.skip ?_
                          show W _ _ _ _ _ _
                          refine W.seq (W.region ?_)
                          refine WL.val (Value.int .i64 (1 : Int)) _ (op_assign rfl) rfl ?_
                          refine WL.nil ?_
                          show W _ _ _ _ _ _
                          refine W.seq (W.region ?_)
                          refine WL.val u57 _ (op_move hf229) rfl ?_
                          refine WL.val (Value.int .i64 (1 : Int)) _ (op_move rfl) rfl ?_
                          obtain ⟨x235, hx236, h⟩ := bs h
                          refine WL.call _ (op_call fn_23 (args2 rfl rfl)) (c_laws_heldInt64S (St.rep (t := (Ty.sl (Ty.i .i64))) hS232 0 rfl) (inR_i64.2 (show (-9223372036854775808 : Int) ≤ 1 ∧ (1 : Int) ≤ 9223372036854775807 from by decide)) hx236) rfl ?_
                          rintro _ wd238 ⟨rfl, hr237, he239⟩
                          have hS241 := St.extend hS232 he239
                          replace hS241 : St wd33 wd238 [(Ty.sl (Ty.i .i64)).at u57 x186.2] := hS241
                          refine WL.val (Value.int .i64 x235) _ (op_assign rfl) rfl ?_
                          refine WL.nil ?_
                          show W _ _ _ _ _ _
                          refine W.seq (W.seq (W.region ?_))
                          refine WL.val (Value.int .i64 x235) _ (op_move rfl) rfl ?_
                          refine WL.val (Value.bool (decide (x235 < (0 : Int)))) _ (op_lss rfl rfl) rfl ?_
                          refine WL.nil ?_
                          show W _ _ _ _ _ _
                          refine W.cond (decide (x235 < (0 : Int))) rfl (fun hc242 => ?_) (fun hc242 => ?_)
                          · replace h := ip h hc242
                            refine W.seq (W.region ?_)
                            refine WL.val (Value.bool false) _ (op_assign rfl) rfl ?_
                            refine WL.nil ?_
                            show W _ _ _ _ _ _
                            refine W.ret ?_
                            obtain rfl := Option.some.inj h
                            show FinP _ _ _ _ _ _ _
                            exact FinP.ret _ (res1 rfl rfl) ⟨rfl, (Ext.trans hE38 hS241.ext)⟩
                          · replace h := inegb h hc242
                            refine W.skip ?_
                            show W _ _ _ _ _ _
                            refine W.seq (W.seq (W.region ?_))
                            refine WL.val (Value.int .i64 x235) _ (op_move rfl) rfl ?_
                            refine WL.val (Value.int .i64 x186.1) _ (op_move hf230) rfl ?_
                            refine WL.val (Value.bool (x235 != x186.1)) _ (op_neq rfl rfl) rfl ?_
                            refine WL.nil ?_
                            show W _ _ _ _ _ _
                            refine W.cond (x235 != x186.1) rfl (fun hc244 => ?_) (fun hc244 => ?_)
                            · replace h := ip h hc244
                              refine W.seq (W.region ?_)
                              refine WL.val (Value.bool false) _ (op_assign rfl) rfl ?_
                              refine WL.nil ?_
                              show W _ _ _ _ _ _
                              refine W.ret ?_
                              obtain rfl := Option.some.inj h
                              show FinP _ _ _ _ _ _ _
                              exact FinP.ret _ (res1 rfl rfl) ⟨rfl, (Ext.trans hE38 hS241.ext)⟩
                            · replace h := inegb h hc244
                              refine W.skip ?_
                              show W _ _ _ _ _ _
                              refine W.seq (W.region ?_)
                              refine WL.val (Value.bool true) _ (op_assign rfl) rfl ?_
                              refine WL.nil ?_
                              show W _ _ _ _ _ _
                              refine W.ret ?_
                              obtain rfl := Option.some.inj h
                              show FinP _ _ _ _ _ _ _
                              exact FinP.ret _ (res1 rfl rfl) ⟨rfl, (Ext.trans hE38 hS241.ext)⟩

end Go.VG
