/- The walks, part 3: each Go function returns what its plain twin returns. No condition beyond what each names. -/
import Derived.Test.YtnilmlcdgllipaaDoorGWalk2
set_option linter.all false
namespace Go.VG
open Go.Proofs
attribute [local irreducible] W WL Sep FinP

theorem c_laws_eqInt64SS {w : World} {a : (List (List Int))} {v_a : Value} {b : (List (List Int))} {v_b : Value} (r_a : (Ty.sl (Ty.sl (Ty.i .i64))).rep w v_a a) (r_b : (Ty.sl (Ty.sl (Ty.i .i64))).rep w v_b b) {res : Bool} (h : p_laws_eqInt64SS a b  = some res) :
    Ret Tryd.prog 62 #[v_a, v_b] w (fun v w' => v = Value.bool res ∧ Ext w w') := by
  unfold p_laws_eqInt64SS at h
  have hS0 : St w w [] := St.start w
  refine Ret.start (fn := Tryd.f62) Tryd.func62 rfl 27 rfl rfl ?_
  refine W.seq (W.region ?_)
  refine WL.val (Value.bool false) _ (op_assign rfl) rfl ?_
  refine WL.nil ?_
  refine W.seq (W.seq (W.region ?_))
  refine WL.val v_a _ (op_move rfl) rfl ?_
  have hr1 := inR_len (Ty.lift _ hS0.ext r_a)
  refine WL.val (Value.int .i64 ((a).length : Int)) _ (op_lenL sl_60 (Ty.lift _ hS0.ext r_a) rfl) rfl ?_
  refine WL.val v_b _ (op_move rfl) rfl ?_
  have hr2 := inR_len (Ty.lift _ hS0.ext r_b)
  refine WL.val (Value.int .i64 ((b).length : Int)) _ (op_lenL sl_60 (Ty.lift _ hS0.ext r_b) rfl) rfl ?_
  refine WL.val (Value.bool (((a).length : Int) != ((b).length : Int))) _ (op_neq rfl rfl) rfl ?_
  refine WL.nil ?_
  refine W.cond (((a).length : Int) != ((b).length : Int)) rfl (fun hc3 => ?_) (fun hc3 => ?_)
  · replace h := ip h hc3
    refine W.seq (W.region ?_)
    refine WL.val (Value.bool false) _ (op_assign rfl) rfl ?_
    refine WL.nil ?_
    refine W.ret ?_
    obtain rfl := Option.some.inj h
    show FinP _ _ _ _ _ _ _
    exact FinP.ret _ (res1 rfl rfl) ⟨rfl, hS0.ext⟩
  · replace h := inegb h hc3
    refine W.skip ?_
    refine W.seq (W.seq (W.region ?_))
    refine WL.val (Value.int .i64 (0 : Int)) _ (op_assign rfl) rfl ?_
    refine WL.nil ?_
    show W _ _ _ _ _ _
    obtain ⟨res5, hres6, h⟩ := bs h
    refine W.blockLoop (fun fq wq => ∃ s, res5 = Res.fin s ∧ St w wq []) ?_ ?_
    · refine W.forN (fun k (s : Unit) fq wq => fq 0 = v_a ∧ fq 1 = v_b ∧ fq 5 = Value.int .i64 (k : Int) ∧ InR .i64 (k : Int) ∧ St w wq []) hres6 ⟨rfl, rfl, rfl, (inL rfl), hS0⟩ ?_ ?_
      · intro k7 s138 ct8 f9 wd10 hk11 hb12 hI13 hbrk14 hret15
        obtain ⟨⟩ := s138
        replace hI13 : f9 0 = v_a ∧ f9 1 = v_b ∧ f9 5 = Value.int .i64 (k7 : Int) ∧ InR .i64 (k7 : Int) ∧ St w wd10 [] := hI13
        replace hb12 : p_laws_eqInt64SS_L1 a b k7  = some ct8 := hb12
        unfold p_laws_eqInt64SS_L1 at hb12
        obtain ⟨hf16, hf17, hf18, hr19, hS20⟩ := hI13
        refine W.seq (W.seq (W.region ?_))
        refine WL.val (Value.int .i64 (k7 : Int)) _ (op_move hf18) rfl ?_
        refine WL.val v_a _ (op_move hf16) rfl ?_
        have hr21 := inR_len (Ty.lift _ hS20.ext r_a)
        refine WL.val (Value.int .i64 ((a).length : Int)) _ (op_lenL sl_60 (Ty.lift _ hS20.ext r_a) rfl) rfl ?_
        refine WL.val (Value.bool (decide ((k7 : Int) < ((a).length : Int)))) _ (op_lss rfl rfl) rfl ?_
        have hl22 : (k7 : Int) < ((a).length : Int) := by omega
        refine WL.nil ?_
        refine W.condT (decide ((k7 : Int) < ((a).length : Int))) rfl (decide_eq_true hl22) ?_
        refine W.skip ?_
        refine W.seq ?_
        refine W.block ?_
        refine W.seq ?_
        obtain ⟨x53, hx56, hb12⟩ := bs hb12
        obtain ⟨ha54, hb55, hx56⟩ := idx_some hx56
        obtain ⟨u67, hc68, hr69⟩ := repSl.el r_a hx56
        obtain ⟨x99, hx102, hb12⟩ := bs hb12
        obtain ⟨ha100, hb101, hx102⟩ := idx_some hx102
        obtain ⟨u113, hc114, hr115⟩ := repSl.el r_b hx102
        refine W.drawR mixo 8 [] [fun _ v _ _ => v = v_a, fun _ v _ _ => v = (Value.int .i64 (k7 : Int)) ∧ InR .i64 (k7 : Int), fun _ v _ _ => v = (Value.pointer (some (elA v_a ((k7 : Int)).toNat))), fun _ v _ _ => v = u67, fun _ v _ _ => v = v_b, fun _ v _ _ => v = (Value.int .i64 (k7 : Int)) ∧ InR .i64 (k7 : Int), fun _ v _ _ => v = (Value.pointer (some (elA v_b ((k7 : Int)).toNat))), fun _ v _ _ => v = u113] (by kernel_rfl) (by kernel_rfl) ⟨pk, pk, pk, pk, pk, pk, pk, pk, trivial⟩ ⟨?_, ?_, ?_, ?_, ?_, ?_, ?_, ?_, trivial⟩ ?_
        · refine ObX.op rfl fun f24 wd25 he26 hout27 hphi28 => ?_
          have e30 : f24 0 = v_a := (hout27 0 rfl).trans hf16
          exact OpX.val v_a wd25 rfl (op_move e30) (Ext.refl _) rfl
        · refine ObX.op rfl fun f31 wd32 he33 hout34 hphi35 => ?_
          have e37 : f31 5 = (Value.int .i64 (k7 : Int)) := (hout34 5 rfl).trans hf18
          exact OpX.val (Value.int .i64 (k7 : Int)) wd32 rfl (op_move e37) (Ext.refl _) ⟨rfl, hr19⟩
        · refine ObX.op rfl fun f38 wd39 he40 hout41 hphi42 => ?_
          have hS43 := St.extend hS20 he40
          obtain ⟨S44, hS45, hf46⟩ := hphi42 0 17 _ rfl rfl rfl
          have e47 : f38 17 = v_a := hf46
          obtain ⟨S48, hS49, hf50⟩ := hphi42 1 18 _ rfl rfl rfl
          obtain ⟨e51, hr52⟩ := hf50
          exact OpX.val (Value.pointer (some (elA v_a ((k7 : Int)).toNat))) wd39 rfl (op_idx sl_60 (Ty.lift _ hS43.ext r_a) e47 e51 ha54 hb55) (Ext.refl _) rfl
        · refine ObX.op rfl fun f57 wd58 he59 hout60 hphi61 => ?_
          have hS62 := St.extend hS20 he59
          obtain ⟨S63, hS64, hf65⟩ := hphi61 2 19 _ rfl rfl rfl
          have e66 : f57 19 = (Value.pointer (some (elA v_a ((k7 : Int)).toNat))) := hf65
          exact OpX.val u67 wd58 rfl (op_load one_34 e66 (Ext.cell hS62.ext hc68)) (Ext.refl _) rfl
        · refine ObX.op rfl fun f70 wd71 he72 hout73 hphi74 => ?_
          have e76 : f70 1 = v_b := (hout73 1 rfl).trans hf17
          exact OpX.val v_b wd71 rfl (op_move e76) (Ext.refl _) rfl
        · refine ObX.op rfl fun f77 wd78 he79 hout80 hphi81 => ?_
          have e83 : f77 5 = (Value.int .i64 (k7 : Int)) := (hout80 5 rfl).trans hf18
          exact OpX.val (Value.int .i64 (k7 : Int)) wd78 rfl (op_move e83) (Ext.refl _) ⟨rfl, hr19⟩
        · refine ObX.op rfl fun f84 wd85 he86 hout87 hphi88 => ?_
          have hS89 := St.extend hS20 he86
          obtain ⟨S90, hS91, hf92⟩ := hphi88 4 21 _ rfl rfl rfl
          have e93 : f84 21 = v_b := hf92
          obtain ⟨S94, hS95, hf96⟩ := hphi88 5 22 _ rfl rfl rfl
          obtain ⟨e97, hr98⟩ := hf96
          exact OpX.val (Value.pointer (some (elA v_b ((k7 : Int)).toNat))) wd85 rfl (op_idx sl_60 (Ty.lift _ hS89.ext r_b) e93 e97 ha100 hb101) (Ext.refl _) rfl
        · refine ObX.op rfl fun f103 wd104 he105 hout106 hphi107 => ?_
          have hS108 := St.extend hS20 he105
          obtain ⟨S109, hS110, hf111⟩ := hphi107 6 23 _ rfl rfl rfl
          have e112 : f103 23 = (Value.pointer (some (elA v_b ((k7 : Int)).toNat))) := hf111
          exact OpX.val u113 wd104 rfl (op_load one_34 e112 (Ext.cell hS108.ext hc114)) (Ext.refl _) rfl
        · intro f116 wd117 Ss118 he119 hout120 hSn121 hSd122 hphi123
          show WL _ _ _ _ _ _ _
          have hS124 := St.extend hS20 he119
          have e125 : f116 20 = u67 := hphi123 3 20 _ (by decide) rfl rfl
          have e126 : f116 24 = u113 := hphi123 7 24 _ (by decide) rfl rfl
          have e127 : f116 0 = v_a := (hout120 0 rfl).trans hf16
          have e128 : f116 1 = v_b := (hout120 1 rfl).trans hf17
          have e129 : f116 5 = (Value.int .i64 (k7 : Int)) := (hout120 5 rfl).trans hf18
          obtain ⟨x130, hx131, hb12⟩ := bs hb12
          refine WL.call _ (op_call fn_19 (args2 e125 e126)) (c_laws_eqInt64S (Ty.lift _ hS124.ext hr69) (Ty.lift _ hS124.ext hr115) hx131) rfl ?_
          rintro _ wd132 ⟨rfl, he133⟩
          have hS135 := St.extend hS124 he133
          replace hS135 : St w wd132 [] := hS135
          refine WL.val (Value.bool (!x130)) _ (op_not rfl) rfl ?_
          refine WL.nil ?_
          refine W.cond (!x130) rfl (fun hc136 => ?_) (fun hc136 => ?_)
          · replace hb12 := ip hb12 hc136
            refine W.seq (W.region ?_)
            refine WL.val (Value.bool false) _ (op_assign rfl) rfl ?_
            refine WL.nil ?_
            refine W.ret ?_
            obtain rfl := Option.some.inj hb12
            obtain rfl := hret15 _ rfl
            replace h := onRes_ret h
            obtain rfl := Option.some.inj h
            show FinP _ _ _ _ _ _ _
            exact FinP.ret _ (res1 rfl rfl) ⟨rfl, hS135.ext⟩
          · replace hb12 := inegb hb12 hc136
            refine W.skip ?_
            show W _ _ _ _ _ _
            refine W.region ?_
            refine WL.val (Value.int .i64 (k7 : Int)) _ (op_move e129) rfl ?_
            refine WL.val (Value.int .i64 (w64 ((k7 : Int) + (1 : Int)))) _ (op_add rfl rfl) rfl ?_
            refine WL.val (Value.int .i64 (w64 ((k7 : Int) + (1 : Int)))) _ (op_assign rfl) rfl ?_
            refine WL.nil ?_
            obtain rfl := Option.some.inj hb12
            show ∃ s, _ = Ctl.next s ∧ _
            exact ⟨_, rfl, e127, e128, (ctr_next hl22 hr21), (ctr_rng hl22 hr21), hS135⟩
      · intro s143 f139 wd140 hs141 hI142
        obtain ⟨⟩ := s143
        replace hI142 : f139 0 = v_a ∧ f139 1 = v_b ∧ f139 5 = Value.int .i64 (((a).length : Nat) : Int) ∧ InR .i64 (((a).length : Nat) : Int) ∧ St w wd140 [] := hI142
        obtain ⟨hf144, hf145, hf146, hr147, hS148⟩ := hI142
        refine W.seq (W.seq (W.region ?_))
        refine WL.val (Value.int .i64 (((a).length : Nat) : Int)) _ (op_move hf146) rfl ?_
        refine WL.val v_a _ (op_move hf144) rfl ?_
        have hr149 := inR_len (Ty.lift _ hS148.ext r_a)
        refine WL.val (Value.int .i64 ((a).length : Int)) _ (op_lenL sl_60 (Ty.lift _ hS148.ext r_a) rfl) rfl ?_
        refine WL.val (Value.bool (decide ((((a).length : Nat) : Int) < ((a).length : Int)))) _ (op_lss rfl rfl) rfl ?_
        have hl150 : ¬ (((a).length : Nat) : Int) < ((a).length : Int) := by omega
        refine WL.nil ?_
        refine W.condF (decide ((((a).length : Nat) : Int) < ((a).length : Int))) rfl (decide_eq_false hl150) ?_
        refine W.exit ?_
        show _ = _ ∧ _
        exact ⟨rfl, _, hs141, hS148⟩
    · rintro f151 wd152 ⟨s154, rfl, hq153⟩
      replace h := onRes_fin h
      obtain ⟨⟩ := s154
      replace hq153 : St w wd152 [] := hq153
      have hS155 := hq153
      refine W.seq (W.region ?_)
      refine WL.val (Value.bool true) _ (op_assign rfl) rfl ?_
      refine WL.nil ?_
      refine W.ret ?_
      obtain rfl := Option.some.inj h
      show FinP _ _ _ _ _ _ _
      exact FinP.ret _ (res1 rfl rfl) ⟨rfl, hS155.ext⟩

theorem c_laws_eqInt64SSS {w : World} {a : (List (List (List Int)))} {v_a : Value} {b : (List (List (List Int)))} {v_b : Value} (r_a : (Ty.sl (Ty.sl (Ty.sl (Ty.i .i64)))).rep w v_a a) (r_b : (Ty.sl (Ty.sl (Ty.sl (Ty.i .i64)))).rep w v_b b) {res : Bool} (h : p_laws_eqInt64SSS a b  = some res) :
    Ret Tryd.prog 35 #[v_a, v_b] w (fun v w' => v = Value.bool res ∧ Ext w w') := by
  unfold p_laws_eqInt64SSS at h
  have hS0 : St w w [] := St.start w
  refine Ret.start (fn := Tryd.f35) Tryd.func35 rfl 27 rfl rfl ?_
  refine W.seq (W.region ?_)
  refine WL.val (Value.bool false) _ (op_assign rfl) rfl ?_
  refine WL.nil ?_
  refine W.seq (W.seq (W.region ?_))
  refine WL.val v_a _ (op_move rfl) rfl ?_
  have hr1 := inR_len (Ty.lift _ hS0.ext r_a)
  refine WL.val (Value.int .i64 ((a).length : Int)) _ (op_lenL sl_22 (Ty.lift _ hS0.ext r_a) rfl) rfl ?_
  refine WL.val v_b _ (op_move rfl) rfl ?_
  have hr2 := inR_len (Ty.lift _ hS0.ext r_b)
  refine WL.val (Value.int .i64 ((b).length : Int)) _ (op_lenL sl_22 (Ty.lift _ hS0.ext r_b) rfl) rfl ?_
  refine WL.val (Value.bool (((a).length : Int) != ((b).length : Int))) _ (op_neq rfl rfl) rfl ?_
  refine WL.nil ?_
  refine W.cond (((a).length : Int) != ((b).length : Int)) rfl (fun hc3 => ?_) (fun hc3 => ?_)
  · replace h := ip h hc3
    refine W.seq (W.region ?_)
    refine WL.val (Value.bool false) _ (op_assign rfl) rfl ?_
    refine WL.nil ?_
    refine W.ret ?_
    obtain rfl := Option.some.inj h
    show FinP _ _ _ _ _ _ _
    exact FinP.ret _ (res1 rfl rfl) ⟨rfl, hS0.ext⟩
  · replace h := inegb h hc3
    refine W.skip ?_
    refine W.seq (W.seq (W.region ?_))
    refine WL.val (Value.int .i64 (0 : Int)) _ (op_assign rfl) rfl ?_
    refine WL.nil ?_
    show W _ _ _ _ _ _
    obtain ⟨res5, hres6, h⟩ := bs h
    refine W.blockLoop (fun fq wq => ∃ s, res5 = Res.fin s ∧ St w wq []) ?_ ?_
    · refine W.forN (fun k (s : Unit) fq wq => fq 0 = v_a ∧ fq 1 = v_b ∧ fq 5 = Value.int .i64 (k : Int) ∧ InR .i64 (k : Int) ∧ St w wq []) hres6 ⟨rfl, rfl, rfl, (inL rfl), hS0⟩ ?_ ?_
      · intro k7 s138 ct8 f9 wd10 hk11 hb12 hI13 hbrk14 hret15
        obtain ⟨⟩ := s138
        replace hI13 : f9 0 = v_a ∧ f9 1 = v_b ∧ f9 5 = Value.int .i64 (k7 : Int) ∧ InR .i64 (k7 : Int) ∧ St w wd10 [] := hI13
        replace hb12 : p_laws_eqInt64SSS_L1 a b k7  = some ct8 := hb12
        unfold p_laws_eqInt64SSS_L1 at hb12
        obtain ⟨hf16, hf17, hf18, hr19, hS20⟩ := hI13
        refine W.seq (W.seq (W.region ?_))
        refine WL.val (Value.int .i64 (k7 : Int)) _ (op_move hf18) rfl ?_
        refine WL.val v_a _ (op_move hf16) rfl ?_
        have hr21 := inR_len (Ty.lift _ hS20.ext r_a)
        refine WL.val (Value.int .i64 ((a).length : Int)) _ (op_lenL sl_22 (Ty.lift _ hS20.ext r_a) rfl) rfl ?_
        refine WL.val (Value.bool (decide ((k7 : Int) < ((a).length : Int)))) _ (op_lss rfl rfl) rfl ?_
        have hl22 : (k7 : Int) < ((a).length : Int) := by omega
        refine WL.nil ?_
        refine W.condT (decide ((k7 : Int) < ((a).length : Int))) rfl (decide_eq_true hl22) ?_
        refine W.skip ?_
        refine W.seq ?_
        refine W.block ?_
        refine W.seq ?_
        obtain ⟨x53, hx56, hb12⟩ := bs hb12
        obtain ⟨ha54, hb55, hx56⟩ := idx_some hx56
        obtain ⟨u67, hc68, hr69⟩ := repSl.el r_a hx56
        obtain ⟨x99, hx102, hb12⟩ := bs hb12
        obtain ⟨ha100, hb101, hx102⟩ := idx_some hx102
        obtain ⟨u113, hc114, hr115⟩ := repSl.el r_b hx102
        refine W.drawR mixo 8 [] [fun _ v _ _ => v = v_a, fun _ v _ _ => v = (Value.int .i64 (k7 : Int)) ∧ InR .i64 (k7 : Int), fun _ v _ _ => v = (Value.pointer (some (elA v_a ((k7 : Int)).toNat))), fun _ v _ _ => v = u67, fun _ v _ _ => v = v_b, fun _ v _ _ => v = (Value.int .i64 (k7 : Int)) ∧ InR .i64 (k7 : Int), fun _ v _ _ => v = (Value.pointer (some (elA v_b ((k7 : Int)).toNat))), fun _ v _ _ => v = u113] (by kernel_rfl) (by kernel_rfl) ⟨pk, pk, pk, pk, pk, pk, pk, pk, trivial⟩ ⟨?_, ?_, ?_, ?_, ?_, ?_, ?_, ?_, trivial⟩ ?_
        · refine ObX.op rfl fun f24 wd25 he26 hout27 hphi28 => ?_
          have e30 : f24 0 = v_a := (hout27 0 rfl).trans hf16
          exact OpX.val v_a wd25 rfl (op_move e30) (Ext.refl _) rfl
        · refine ObX.op rfl fun f31 wd32 he33 hout34 hphi35 => ?_
          have e37 : f31 5 = (Value.int .i64 (k7 : Int)) := (hout34 5 rfl).trans hf18
          exact OpX.val (Value.int .i64 (k7 : Int)) wd32 rfl (op_move e37) (Ext.refl _) ⟨rfl, hr19⟩
        · refine ObX.op rfl fun f38 wd39 he40 hout41 hphi42 => ?_
          have hS43 := St.extend hS20 he40
          obtain ⟨S44, hS45, hf46⟩ := hphi42 0 17 _ rfl rfl rfl
          have e47 : f38 17 = v_a := hf46
          obtain ⟨S48, hS49, hf50⟩ := hphi42 1 18 _ rfl rfl rfl
          obtain ⟨e51, hr52⟩ := hf50
          exact OpX.val (Value.pointer (some (elA v_a ((k7 : Int)).toNat))) wd39 rfl (op_idx sl_22 (Ty.lift _ hS43.ext r_a) e47 e51 ha54 hb55) (Ext.refl _) rfl
        · refine ObX.op rfl fun f57 wd58 he59 hout60 hphi61 => ?_
          have hS62 := St.extend hS20 he59
          obtain ⟨S63, hS64, hf65⟩ := hphi61 2 19 _ rfl rfl rfl
          have e66 : f57 19 = (Value.pointer (some (elA v_a ((k7 : Int)).toNat))) := hf65
          exact OpX.val u67 wd58 rfl (op_load one_60 e66 (Ext.cell hS62.ext hc68)) (Ext.refl _) rfl
        · refine ObX.op rfl fun f70 wd71 he72 hout73 hphi74 => ?_
          have e76 : f70 1 = v_b := (hout73 1 rfl).trans hf17
          exact OpX.val v_b wd71 rfl (op_move e76) (Ext.refl _) rfl
        · refine ObX.op rfl fun f77 wd78 he79 hout80 hphi81 => ?_
          have e83 : f77 5 = (Value.int .i64 (k7 : Int)) := (hout80 5 rfl).trans hf18
          exact OpX.val (Value.int .i64 (k7 : Int)) wd78 rfl (op_move e83) (Ext.refl _) ⟨rfl, hr19⟩
        · refine ObX.op rfl fun f84 wd85 he86 hout87 hphi88 => ?_
          have hS89 := St.extend hS20 he86
          obtain ⟨S90, hS91, hf92⟩ := hphi88 4 21 _ rfl rfl rfl
          have e93 : f84 21 = v_b := hf92
          obtain ⟨S94, hS95, hf96⟩ := hphi88 5 22 _ rfl rfl rfl
          obtain ⟨e97, hr98⟩ := hf96
          exact OpX.val (Value.pointer (some (elA v_b ((k7 : Int)).toNat))) wd85 rfl (op_idx sl_22 (Ty.lift _ hS89.ext r_b) e93 e97 ha100 hb101) (Ext.refl _) rfl
        · refine ObX.op rfl fun f103 wd104 he105 hout106 hphi107 => ?_
          have hS108 := St.extend hS20 he105
          obtain ⟨S109, hS110, hf111⟩ := hphi107 6 23 _ rfl rfl rfl
          have e112 : f103 23 = (Value.pointer (some (elA v_b ((k7 : Int)).toNat))) := hf111
          exact OpX.val u113 wd104 rfl (op_load one_60 e112 (Ext.cell hS108.ext hc114)) (Ext.refl _) rfl
        · intro f116 wd117 Ss118 he119 hout120 hSn121 hSd122 hphi123
          show WL _ _ _ _ _ _ _
          have hS124 := St.extend hS20 he119
          have e125 : f116 20 = u67 := hphi123 3 20 _ (by decide) rfl rfl
          have e126 : f116 24 = u113 := hphi123 7 24 _ (by decide) rfl rfl
          have e127 : f116 0 = v_a := (hout120 0 rfl).trans hf16
          have e128 : f116 1 = v_b := (hout120 1 rfl).trans hf17
          have e129 : f116 5 = (Value.int .i64 (k7 : Int)) := (hout120 5 rfl).trans hf18
          obtain ⟨x130, hx131, hb12⟩ := bs hb12
          refine WL.call _ (op_call fn_62 (args2 e125 e126)) (c_laws_eqInt64SS (Ty.lift _ hS124.ext hr69) (Ty.lift _ hS124.ext hr115) hx131) rfl ?_
          rintro _ wd132 ⟨rfl, he133⟩
          have hS135 := St.extend hS124 he133
          replace hS135 : St w wd132 [] := hS135
          refine WL.val (Value.bool (!x130)) _ (op_not rfl) rfl ?_
          refine WL.nil ?_
          refine W.cond (!x130) rfl (fun hc136 => ?_) (fun hc136 => ?_)
          · replace hb12 := ip hb12 hc136
            refine W.seq (W.region ?_)
            refine WL.val (Value.bool false) _ (op_assign rfl) rfl ?_
            refine WL.nil ?_
            refine W.ret ?_
            obtain rfl := Option.some.inj hb12
            obtain rfl := hret15 _ rfl
            replace h := onRes_ret h
            obtain rfl := Option.some.inj h
            show FinP _ _ _ _ _ _ _
            exact FinP.ret _ (res1 rfl rfl) ⟨rfl, hS135.ext⟩
          · replace hb12 := inegb hb12 hc136
            refine W.skip ?_
            show W _ _ _ _ _ _
            refine W.region ?_
            refine WL.val (Value.int .i64 (k7 : Int)) _ (op_move e129) rfl ?_
            refine WL.val (Value.int .i64 (w64 ((k7 : Int) + (1 : Int)))) _ (op_add rfl rfl) rfl ?_
            refine WL.val (Value.int .i64 (w64 ((k7 : Int) + (1 : Int)))) _ (op_assign rfl) rfl ?_
            refine WL.nil ?_
            obtain rfl := Option.some.inj hb12
            show ∃ s, _ = Ctl.next s ∧ _
            exact ⟨_, rfl, e127, e128, (ctr_next hl22 hr21), (ctr_rng hl22 hr21), hS135⟩
      · intro s143 f139 wd140 hs141 hI142
        obtain ⟨⟩ := s143
        replace hI142 : f139 0 = v_a ∧ f139 1 = v_b ∧ f139 5 = Value.int .i64 (((a).length : Nat) : Int) ∧ InR .i64 (((a).length : Nat) : Int) ∧ St w wd140 [] := hI142
        obtain ⟨hf144, hf145, hf146, hr147, hS148⟩ := hI142
        refine W.seq (W.seq (W.region ?_))
        refine WL.val (Value.int .i64 (((a).length : Nat) : Int)) _ (op_move hf146) rfl ?_
        refine WL.val v_a _ (op_move hf144) rfl ?_
        have hr149 := inR_len (Ty.lift _ hS148.ext r_a)
        refine WL.val (Value.int .i64 ((a).length : Int)) _ (op_lenL sl_22 (Ty.lift _ hS148.ext r_a) rfl) rfl ?_
        refine WL.val (Value.bool (decide ((((a).length : Nat) : Int) < ((a).length : Int)))) _ (op_lss rfl rfl) rfl ?_
        have hl150 : ¬ (((a).length : Nat) : Int) < ((a).length : Int) := by omega
        refine WL.nil ?_
        refine W.condF (decide ((((a).length : Nat) : Int) < ((a).length : Int))) rfl (decide_eq_false hl150) ?_
        refine W.exit ?_
        show _ = _ ∧ _
        exact ⟨rfl, _, hs141, hS148⟩
    · rintro f151 wd152 ⟨s154, rfl, hq153⟩
      replace h := onRes_fin h
      obtain ⟨⟩ := s154
      replace hq153 : St w wd152 [] := hq153
      have hS155 := hq153
      refine W.seq (W.region ?_)
      refine WL.val (Value.bool true) _ (op_assign rfl) rfl ?_
      refine WL.nil ?_
      refine W.ret ?_
      obtain rfl := Option.some.inj h
      show FinP _ _ _ _ _ _ _
      exact FinP.ret _ (res1 rfl rfl) ⟨rfl, hS155.ext⟩

theorem c_laws_eqRing {w : World} {a_Table : (List (List (List Int)))} {v_a_Table : Value} {b_Table : (List (List (List Int)))} {v_b_Table : Value} (r_a_Table : (Ty.sl (Ty.sl (Ty.sl (Ty.i .i64)))).rep w v_a_Table a_Table) (r_b_Table : (Ty.sl (Ty.sl (Ty.sl (Ty.i .i64)))).rep w v_b_Table b_Table) {res : Bool} (h : p_laws_eqRing a_Table b_Table  = some res) :
    Ret Tryd.prog 13 #[(Value.agg #[v_a_Table]), (Value.agg #[v_b_Table])] w (fun v w' => v = Value.bool res ∧ Ext w w') := by
  unfold p_laws_eqRing at h
  have hS0 : St w w [] := St.start w
  refine Ret.start (fn := Tryd.f13) Tryd.func13 rfl 11 rfl rfl ?_
  refine W.seq (W.region ?_)
  refine WL.box hS0 rfl (cs := [v_a_Table]) rfl rfl ?_
  intro b1 wd2 hS3 he4 hx5
  replace hS3 : St w wd2 [bx b1 [v_a_Table]] := hS3
  have hx6 := St.boxAt hS3 0 rfl
  have hE7 : Ext w wd2 := hS3.ext
  have hS8 : St wd2 wd2 [] := St.start wd2
  refine WL.box hS8 rfl (cs := [v_b_Table]) rfl rfl ?_
  intro b9 wd10 hS11 he12 hx13
  replace hS11 : St wd2 wd10 [bx b9 [v_b_Table]] := hS11
  have hx14 := St.boxAt hS11 0 rfl
  have hE15 : Ext w wd10 := (Ext.trans hE7 hS11.ext)
  have hE16 : Ext wd2 wd10 := hS11.ext
  have hS17 : St wd10 wd10 [] := St.start wd10
  refine WL.val (Value.bool false) _ (op_assign rfl) rfl ?_
  refine WL.nil ?_
  refine W.seq (W.seq (W.region ?_))
  refine WL.val (Value.pointer (some ⟨b1, 0, none⟩)) _ (op_fieldAddr fd_28_0 rfl) rfl ?_
  refine WL.val v_a_Table _ (op_load one_22 rfl (BoxAt.cell (BoxAt.lift (Ext.trans hE16 hS17.ext) hx6) rfl)) rfl ?_
  refine WL.val (Value.pointer (some ⟨b9, 0, none⟩)) _ (op_fieldAddr fd_28_0 rfl) rfl ?_
  refine WL.val v_b_Table _ (op_load one_22 rfl (BoxAt.cell (BoxAt.lift hS17.ext hx14) rfl)) rfl ?_
  obtain ⟨x18, hx19, h⟩ := bs h
  refine WL.call _ (op_call fn_35 (args2 rfl rfl)) (c_laws_eqInt64SSS (Ty.lift _ (Ext.trans hE15 hS17.ext) r_a_Table) (Ty.lift _ (Ext.trans hE15 hS17.ext) r_b_Table) hx19) rfl ?_
  rintro _ wd20 ⟨rfl, he21⟩
  have hS23 := St.extend hS17 he21
  replace hS23 : St wd10 wd20 [] := hS23
  refine WL.val (Value.bool (!x18)) _ (op_not rfl) rfl ?_
  refine WL.nil ?_
  refine W.cond (!x18) rfl (fun hc24 => ?_) (fun hc24 => ?_)
  · replace h := ip h hc24
    refine W.seq (W.region ?_)
    refine WL.val (Value.bool false) _ (op_assign rfl) rfl ?_
    refine WL.nil ?_
    refine W.ret ?_
    obtain rfl := Option.some.inj h
    show FinP _ _ _ _ _ _ _
    exact FinP.ret _ (res1 rfl rfl) ⟨rfl, (Ext.trans hE15 hS23.ext)⟩
  · replace h := inegb h hc24
    refine W.skip ?_
    refine W.seq (W.region ?_)
    refine WL.val (Value.bool true) _ (op_assign rfl) rfl ?_
    refine WL.nil ?_
    refine W.ret ?_
    obtain rfl := Option.some.inj h
    show FinP _ _ _ _ _ _ _
    exact FinP.ret _ (res1 rfl rfl) ⟨rfl, (Ext.trans hE15 hS23.ext)⟩

theorem c_impl_Ring_closed {w : World} {r_Table : (List (List (List Int)))} {v_r_Table : Value} {set : Int} (tb : TabAt w) (r_r_Table : (Ty.sl (Ty.sl (Ty.sl (Ty.i .i64)))).rep w v_r_Table r_Table) (r_set : InR .i64 set) {res : Int} (h : p_impl_Ring_closed r_Table set  = some res) :
    Ret Tryd.prog 39 #[(Value.agg #[v_r_Table]), (Value.int .i64 set)] w (fun v w' => v = Value.int .i64 res ∧ InR .i64 res ∧ Ext w w') := by
  unfold p_impl_Ring_closed at h
  have hS0 : St w w [] := St.start w
  refine Ret.start (fn := Tryd.f39) Tryd.func39 rfl 56 rfl rfl ?_
  refine W.seq (W.region ?_)
  refine WL.box hS0 rfl (cs := [v_r_Table]) rfl rfl ?_
  intro b1 wd2 hS3 he4 hx5
  replace hS3 : St w wd2 [bx b1 [v_r_Table]] := hS3
  have hx6 := St.boxAt hS3 0 rfl
  have hE7 : Ext w wd2 := hS3.ext
  have hS8 : St wd2 wd2 [] := St.start wd2
  refine WL.val (Value.int .i64 (0 : Int)) _ (op_assign rfl) rfl ?_
  refine WL.nil ?_
  refine W.seq ?_
  obtain ⟨x26, hx27, h⟩ := bs h
  refine W.drawR mixo 3 [] [fun _ v S w' => v = (Value.agg #[v_r_Table]), fun _ v S w' => SepS S w' [(Ty.sl (Ty.sl (Ty.i .i64))).at v x26], fun _ v S w' => v = (Value.agg #[v_r_Table])] (by kernel_rfl) (by kernel_rfl) ⟨pk, ⟨fun _ _ _ _ _ he h => SepS.extend he h, fun _ _ _ _ _ _ h => h⟩, pk, trivial⟩ ⟨?_, ?_, ?_, trivial⟩ ?_
  · refine ObX.op rfl fun f9 wd10 he11 hout12 hphi13 => ?_
    have hS14 := St.extend hS8 he11
    have e15 : f9 2 = (Value.pointer (some ⟨b1, 0, none⟩)) := (hout12 2 rfl).trans rfl
    exact OpX.val (Value.agg #[v_r_Table]) wd10 rfl (op_loadBox st_28 e15 (BoxAt.lift hS14.ext hx6) rfl rfl) (Ext.refl _) rfl
  · refine ObX.op rfl fun f16 wd17 he18 hout19 hphi20 => ?_
    have hS21 := St.extend hS8 he18
    obtain ⟨S22, hS23, hf24⟩ := hphi20 0 12 _ rfl rfl rfl
    have e25 : f16 12 = (Value.agg #[v_r_Table]) := hf24
    refine OpX.call rfl (op_call fn_48 (args1 e25)) (Ret.mono (c_impl_Ring_supports (Ty.lift _ (Ext.trans hE7 hS21.ext) r_r_Table) hx27) ?_)
    rintro u28 wd29 ⟨_, rfl, he30, hs31⟩
    exact ⟨he30, _, newS _ _, (Sep.new hs31)⟩
  · refine ObX.op rfl fun f32 wd33 he34 hout35 hphi36 => ?_
    have hS37 := St.extend hS8 he34
    have e38 : f32 2 = (Value.pointer (some ⟨b1, 0, none⟩)) := (hout35 2 rfl).trans rfl
    exact OpX.val (Value.agg #[v_r_Table]) wd33 rfl (op_loadBox st_28 e38 (BoxAt.lift hS37.ext hx6) rfl rfl) (Ext.refl _) rfl
  · intro f39 wd40 Ss41 he42 hout43 hSn44 hSd45 hphi46
    show WL _ _ _ _ _ _ _
    have e48 : SepS (Ss41 1) wd40 [(Ty.sl (Ty.sl (Ty.i .i64))).at (f39 13) x26] := hphi46 1 13 _ (by decide) rfl rfl
    have e49 : f39 14 = (Value.agg #[v_r_Table]) := hphi46 2 14 _ (by decide) rfl rfl
    have e50 : f39 1 = (Value.int .i64 set) := (hout43 1 rfl).trans rfl
    have hS51 := St.joinS hS8 he42 hSn44 (SepS.consS hSd45 rfl e48 SepS.nilS)
    replace hS51 : St wd2 wd40 [(Ty.sl (Ty.sl (Ty.i .i64))).at (f39 13) x26] := hS51
    have hb52 := St.rep (t := (Ty.sl (Ty.sl (Ty.i .i64)))) hS51 0 rfl
    have hE53 : Ext w wd40 := (Ext.trans hE7 hS51.ext)
    have hE54 : Ext wd2 wd40 := hS51.ext
    have hS55 : St wd40 wd40 [] := St.start wd40
    obtain ⟨x56, hx57, h⟩ := bs h
    refine WL.call _ (op_call fn_59 (args1 e49)) (c_impl_Ring_duals (Ty.lift _ (Ext.trans hE53 hS55.ext) r_r_Table) hx57) rfl ?_
    rintro u58 wd59 ⟨_, rfl, he60, hs61⟩
    have hS62 := St.join hS55 he60 hs61
    replace hS62 : St wd40 wd59 [(Ty.sl (Ty.i .i64)).at u58 x56] := hS62
    have hb63 := St.rep (t := (Ty.sl (Ty.i .i64))) hS62 0 rfl
    have hE64 : Ext w wd59 := (Ext.trans hE53 hS62.ext)
    have hE65 : Ext wd2 wd59 := (Ext.trans hE54 hS62.ext)
    have hE66 : Ext wd40 wd59 := hS62.ext
    have hS67 : St wd59 wd59 [] := St.start wd59
    refine WL.val (f39 13) _ (op_assign rfl) rfl ?_
    refine WL.val u58 _ (op_assign rfl) rfl ?_
    refine WL.nil ?_
    refine W.seq (W.region ?_)
    refine WL.val (Value.int .i64 set) _ (op_move e50) rfl ?_
    refine WL.val (Value.int .i64 (orI .i64 set (1 : Int))) _ (op_or rfl rfl) rfl ?_
    refine WL.val (Value.int .i64 (orI .i64 set (1 : Int))) _ (op_assign rfl) rfl ?_
    refine WL.nil ?_
    show W _ _ _ _ _ _
    obtain ⟨res68, hres69, h⟩ := bs h
    refine W.blockLoop (fun fq wq => ∃ s, res68 = Res.fin s ∧ St wd59 wq []) ?_ ?_
    · refine W.whileC (fun (s : Int) fq wq => fq 1 = Value.int .i64 s ∧ InR .i64 s ∧ fq 5 = (f39 13) ∧ fq 6 = u58 ∧ St wd59 wq []) hres69 ⟨rfl, (inR_wrap _ _), rfl, rfl, hS67⟩ ?_
      intro x71 ct72 f73 wd74 hb76 hI77 hbrk78 hret79
      replace hI77 : f73 1 = Value.int .i64 x71 ∧ InR .i64 x71 ∧ f73 5 = (f39 13) ∧ f73 6 = u58 ∧ St wd59 wd74 [] := hI77
      replace hb76 : p_impl_Ring_closed_L1 x56 x26  x71 = some ct72 := hb76
      unfold p_impl_Ring_closed_L1 at hb76
      obtain ⟨hf80, hr81, hf82, hf83, hS84⟩ := hI77
      refine W.block ?_
      refine W.seq (W.region ?_)
      refine WL.val (Value.int .i64 x71) _ (op_move hf80) rfl ?_
      refine WL.val (Value.int .i64 x71) _ (op_assign rfl) rfl ?_
      refine WL.nil ?_
      refine W.seq (W.seq (W.region ?_))
      refine WL.val (Value.int .i64 x71) _ (op_move hf80) rfl ?_
      obtain ⟨x85, hx86, hb76⟩ := bs hb76
      refine WL.call _ (op_call fn_51 (args1 rfl)) (c_impl_labelsIn (tb.ext (Ext.trans hE64 hS84.ext)) hr81 hx86) rfl ?_
      rintro u87 wd88 ⟨_, rfl, he89, hs90⟩
      have hS91 := St.join hS84 he89 hs90
      replace hS91 : St wd59 wd88 [(Ty.sl (Ty.i .i64)).at u87 x85] := hS91
      have hb92 := St.rep (t := (Ty.sl (Ty.i .i64))) hS91 0 rfl
      have hE93 : Ext w wd88 := (Ext.trans hE64 hS91.ext)
      have hE94 : Ext wd2 wd88 := (Ext.trans hE65 hS91.ext)
      have hE95 : Ext wd40 wd88 := (Ext.trans hE66 hS91.ext)
      have hE96 : Ext wd59 wd88 := hS91.ext
      have hS97 : St wd88 wd88 [] := St.start wd88
      have hr98 := inR_len (Ty.lift _ hS97.ext hb92)
      refine WL.val (Value.int .i64 ((x85).length : Int)) _ (op_lenL sl_63 (Ty.lift _ hS97.ext hb92) rfl) rfl ?_
      refine WL.val (Value.int .i64 (0 : Int)) _ (op_move rfl) rfl ?_
      refine WL.nil ?_
      show W _ _ _ _ _ _
      obtain ⟨res99, hres100, hb76⟩ := bs hb76
      refine W.blockLoop (fun fq wq => ∃ s, res99 = Res.fin s ∧ fq 1 = (Value.int .i64 x71) ∧ fq 5 = (f39 13) ∧ fq 6 = u58 ∧ fq 7 = Value.int .i64 s ∧ InR .i64 s ∧ St wd88 wq []) ?_ ?_
      · refine W.forN (fun k (s : Int) fq wq => fq 1 = (Value.int .i64 x71) ∧ fq 5 = (f39 13) ∧ fq 6 = u58 ∧ fq 7 = Value.int .i64 s ∧ InR .i64 s ∧ fq 20 = u87 ∧ fq 21 = (Value.int .i64 ((x85).length : Int)) ∧ fq 22 = Value.int .i64 (k : Int) ∧ InR .i64 (k : Int) ∧ St wd88 wq []) hres100 ⟨hf80, hf82, hf83, rfl, hr81, rfl, rfl, rfl, (inL rfl), hS97⟩ ?_ ?_
        · intro k101 x102 ct103 f104 wd105 hk106 hb107 hI108 hbrk109 hret110
          replace hI108 : f104 1 = (Value.int .i64 x71) ∧ f104 5 = (f39 13) ∧ f104 6 = u58 ∧ f104 7 = Value.int .i64 x102 ∧ InR .i64 x102 ∧ f104 20 = u87 ∧ f104 21 = (Value.int .i64 ((x85).length : Int)) ∧ f104 22 = Value.int .i64 (k101 : Int) ∧ InR .i64 (k101 : Int) ∧ St wd88 wd105 [] := hI108
          replace hb107 : p_impl_Ring_closed_L2 x85 x56 x71 x26 k101 x102 = some ct103 := hb107
          unfold p_impl_Ring_closed_L2 at hb107
          obtain ⟨hf111, hf112, hf113, hf114, hr115, hf116, hf117, hf118, hr119, hS120⟩ := hI108
          refine W.seq (W.region ?_)
          refine WL.val (Value.bool (decide ((k101 : Int) < ((x85).length : Int)))) _ (op_lss hf118 hf117) rfl ?_
          have hl121 : (k101 : Int) < ((x85).length : Int) := by omega
          refine WL.nil ?_
          refine W.seq ?_
          refine W.condT (decide ((k101 : Int) < ((x85).length : Int))) rfl (decide_eq_true hl121) ?_
          refine W.skip ?_
          refine W.seq ?_
          refine W.block ?_
          refine W.seq (W.region ?_)
          obtain ⟨x123, hx126, hb107⟩ := bs hb107
          obtain ⟨ha124, hb125, hx126⟩ := idx_some hx126
          refine WL.val (Value.pointer (some (elA u87 ((k101 : Int)).toNat))) _ (op_idx sl_63 (Ty.lift _ hS120.ext hb92) hf116 hf118 ha124 hb125) rfl ?_
          obtain ⟨u127, hc128, hr129⟩ := repSl.el hb92 hx126
          obtain ⟨rfl, hr129⟩ := hr129
          refine WL.val (Value.int .i64 x123) _ (op_load one_3 rfl (Ext.cell hS120.ext hc128)) rfl ?_
          refine WL.val (Value.int .i64 x123) _ (op_assign rfl) rfl ?_
          refine WL.nil ?_
          refine W.seq (W.region ?_)
          refine WL.val (Value.int .i64 x102) _ (op_move hf114) rfl ?_
          refine WL.val u58 _ (op_move hf113) rfl ?_
          refine WL.val (Value.int .i64 x123) _ (op_move rfl) rfl ?_
          obtain ⟨x130, hx133, hb107⟩ := bs hb107
          obtain ⟨ha131, hb132, hx133⟩ := idx_some hx133
          refine WL.val (Value.pointer (some (elA u58 (x123).toNat))) _ (op_idx sl_63 (Ty.lift _ (Ext.trans hE96 hS120.ext) hb63) rfl rfl ha131 hb132) rfl ?_
          obtain ⟨u134, hc135, hr136⟩ := repSl.el hb63 hx133
          obtain ⟨rfl, hr136⟩ := hr136
          refine WL.val (Value.int .i64 x130) _ (op_load one_3 rfl (Ext.cell (Ext.trans hE96 hS120.ext) hc135)) rfl ?_
          obtain ⟨x137, hz138, hb107⟩ := bs hb107
          obtain ⟨h0139, hz138⟩ := shlI_some hz138
          have hr140 : InR .i64 x137 := by rw [hz138]; exact inR_wrap _ _
          refine WL.val (Value.int .i64 x137) _ (by rw [hz138]; exact op_shl rfl rfl h0139) rfl ?_
          refine WL.val (Value.int .i64 (orI .i64 x102 x137)) _ (op_or rfl rfl) rfl ?_
          refine WL.val (Value.int .i64 (orI .i64 x102 x137)) _ (op_assign rfl) rfl ?_
          refine WL.nil ?_
          refine W.seq (W.region ?_)
          refine WL.val (Value.int .i64 x71) _ (op_move hf111) rfl ?_
          obtain ⟨x141, hx142, hb107⟩ := bs hb107
          refine WL.call _ (op_call fn_51 (args1 rfl)) (c_impl_labelsIn (tb.ext (Ext.trans hE93 hS120.ext)) hr81 hx142) rfl ?_
          rintro u143 wd144 ⟨_, rfl, he145, hs146⟩
          have hS147 := St.join hS120 he145 hs146
          replace hS147 : St wd88 wd144 [(Ty.sl (Ty.i .i64)).at u143 x141] := hS147
          have hb148 := St.rep (t := (Ty.sl (Ty.i .i64))) hS147 0 rfl
          have hE149 : Ext w wd144 := (Ext.trans hE93 hS147.ext)
          have hE150 : Ext wd2 wd144 := (Ext.trans hE94 hS147.ext)
          have hE151 : Ext wd40 wd144 := (Ext.trans hE95 hS147.ext)
          have hE152 : Ext wd59 wd144 := (Ext.trans hE96 hS147.ext)
          have hE153 : Ext wd88 wd144 := hS147.ext
          have hS154 : St wd144 wd144 [] := St.start wd144
          have hr155 := inR_len (Ty.lift _ hS154.ext hb148)
          refine WL.val (Value.int .i64 ((x141).length : Int)) _ (op_lenL sl_63 (Ty.lift _ hS154.ext hb148) rfl) rfl ?_
          refine WL.val (Value.int .i64 (0 : Int)) _ (op_move rfl) rfl ?_
          refine WL.nil ?_
          show W _ _ _ _ _ _
          obtain ⟨res156, hres157, hb107⟩ := bs hb107
          refine W.blockLoop (fun fq wq => ∃ s, res156 = Res.fin s ∧ fq 1 = (Value.int .i64 x71) ∧ fq 5 = (f39 13) ∧ fq 6 = u58 ∧ fq 7 = Value.int .i64 s ∧ InR .i64 s ∧ fq 20 = u87 ∧ fq 21 = (Value.int .i64 ((x85).length : Int)) ∧ fq 22 = (Value.int .i64 (k101 : Int)) ∧ St wd144 wq []) ?_ ?_
          · refine W.forN (fun k (s : Int) fq wq => fq 1 = (Value.int .i64 x71) ∧ fq 5 = (f39 13) ∧ fq 6 = u58 ∧ fq 7 = Value.int .i64 s ∧ InR .i64 s ∧ fq 9 = (Value.int .i64 x123) ∧ fq 20 = u87 ∧ fq 21 = (Value.int .i64 ((x85).length : Int)) ∧ fq 22 = (Value.int .i64 (k101 : Int)) ∧ fq 34 = u143 ∧ fq 35 = (Value.int .i64 ((x141).length : Int)) ∧ fq 36 = Value.int .i64 (k : Int) ∧ InR .i64 (k : Int) ∧ St wd144 wq []) hres157 ⟨hf111, hf112, hf113, rfl, (inR_wrap _ _), rfl, hf116, hf117, hf118, rfl, rfl, rfl, (inL rfl), hS154⟩ ?_ ?_
            · intro k158 x159 ct160 f161 wd162 hk163 hb164 hI165 hbrk166 hret167
              replace hI165 : f161 1 = (Value.int .i64 x71) ∧ f161 5 = (f39 13) ∧ f161 6 = u58 ∧ f161 7 = Value.int .i64 x159 ∧ InR .i64 x159 ∧ f161 9 = (Value.int .i64 x123) ∧ f161 20 = u87 ∧ f161 21 = (Value.int .i64 ((x85).length : Int)) ∧ f161 22 = (Value.int .i64 (k101 : Int)) ∧ f161 34 = u143 ∧ f161 35 = (Value.int .i64 ((x141).length : Int)) ∧ f161 36 = Value.int .i64 (k158 : Int) ∧ InR .i64 (k158 : Int) ∧ St wd144 wd162 [] := hI165
              replace hb164 : p_impl_Ring_closed_L3 x141 x26 x123 k158 x159 = some ct160 := hb164
              unfold p_impl_Ring_closed_L3 at hb164
              obtain ⟨hf168, hf169, hf170, hf171, hr172, hf173, hf174, hf175, hf176, hf177, hf178, hf179, hr180, hS181⟩ := hI165
              refine W.seq (W.region ?_)
              refine WL.val (Value.bool (decide ((k158 : Int) < ((x141).length : Int)))) _ (op_lss hf179 hf178) rfl ?_
              have hl182 : (k158 : Int) < ((x141).length : Int) := by omega
              refine WL.nil ?_
              refine W.seq ?_
              refine W.condT (decide ((k158 : Int) < ((x141).length : Int))) rfl (decide_eq_true hl182) ?_
              refine W.skip ?_
              refine W.seq ?_
              refine W.block ?_
              refine W.seq (W.region ?_)
              obtain ⟨x184, hx187, hb164⟩ := bs hb164
              obtain ⟨ha185, hb186, hx187⟩ := idx_some hx187
              refine WL.val (Value.pointer (some (elA u143 ((k158 : Int)).toNat))) _ (op_idx sl_63 (Ty.lift _ hS181.ext hb148) hf177 hf179 ha185 hb186) rfl ?_
              obtain ⟨u188, hc189, hr190⟩ := repSl.el hb148 hx187
              obtain ⟨rfl, hr190⟩ := hr190
              refine WL.val (Value.int .i64 x184) _ (op_load one_3 rfl (Ext.cell hS181.ext hc189)) rfl ?_
              refine WL.val (Value.int .i64 x184) _ (op_assign rfl) rfl ?_
              refine WL.nil ?_
              show W _ _ _ _ _ _
              refine W.region ?_
              refine WL.val (Value.int .i64 x159) _ (op_move hf171) rfl ?_
              refine WL.val (f39 13) _ (op_move hf169) rfl ?_
              refine WL.val (Value.int .i64 x123) _ (op_move hf173) rfl ?_
              obtain ⟨x191, hx194, hb164⟩ := bs hb164
              obtain ⟨ha192, hb193, hx194⟩ := idx_some hx194
              refine WL.val (Value.pointer (some (elA (f39 13) (x123).toNat))) _ (op_idx sl_60 (Ty.lift _ (Ext.trans hE151 hS181.ext) hb52) rfl rfl ha192 hb193) rfl ?_
              obtain ⟨u195, hc196, hr197⟩ := repSl.el hb52 hx194
              refine WL.val u195 _ (op_load one_34 rfl (Ext.cell (Ext.trans hE151 hS181.ext) hc196)) rfl ?_
              refine WL.val (Value.int .i64 x184) _ (op_move rfl) rfl ?_
              obtain ⟨x198, hx201, hb164⟩ := bs hb164
              obtain ⟨ha199, hb200, hx201⟩ := idx_some hx201
              refine WL.val (Value.pointer (some (elA u195 (x184).toNat))) _ (op_idx sl_34 (Ty.lift _ (Ext.trans hE151 hS181.ext) hr197) rfl rfl ha199 hb200) rfl ?_
              obtain ⟨u202, hc203, hr204⟩ := repSl.el hr197 hx201
              obtain ⟨rfl, hr204⟩ := hr204
              refine WL.val (Value.int .i64 x198) _ (op_load one_2 rfl (Ext.cell (Ext.trans hE151 hS181.ext) hc203)) rfl ?_
              refine WL.val (Value.int .i64 (orI .i64 x159 x198)) _ (op_or rfl rfl) rfl ?_
              refine WL.val (Value.int .i64 (orI .i64 x159 x198)) _ (op_assign rfl) rfl ?_
              refine WL.nil ?_
              show W _ _ _ _ _ _
              refine W.region ?_
              refine WL.val (Value.int .i64 (w64 ((k158 : Int) + (1 : Int)))) _ (op_add hf179 rfl) rfl ?_
              refine WL.val (Value.int .i64 (w64 ((k158 : Int) + (1 : Int)))) _ (op_move rfl) rfl ?_
              refine WL.nil ?_
              obtain rfl := Option.some.inj hb164
              show ∃ s, _ = Ctl.next s ∧ _
              exact ⟨_, rfl, hf168, hf169, hf170, rfl, (inR_wrap _ _), hf173, hf174, hf175, hf176, hf177, hf178, (ctr_next hl182 hr155), (ctr_rng hl182 hr155), hS181⟩
            · intro x211 f206 wd207 hs208 hI209
              replace hI209 : f206 1 = (Value.int .i64 x71) ∧ f206 5 = (f39 13) ∧ f206 6 = u58 ∧ f206 7 = Value.int .i64 x211 ∧ InR .i64 x211 ∧ f206 9 = (Value.int .i64 x123) ∧ f206 20 = u87 ∧ f206 21 = (Value.int .i64 ((x85).length : Int)) ∧ f206 22 = (Value.int .i64 (k101 : Int)) ∧ f206 34 = u143 ∧ f206 35 = (Value.int .i64 ((x141).length : Int)) ∧ f206 36 = Value.int .i64 (((x141).length : Nat) : Int) ∧ InR .i64 (((x141).length : Nat) : Int) ∧ St wd144 wd207 [] := hI209
              obtain ⟨hf212, hf213, hf214, hf215, hr216, hf217, hf218, hf219, hf220, hf221, hf222, hf223, hr224, hS225⟩ := hI209
              refine W.seq (W.region ?_)
              refine WL.val (Value.bool (decide ((((x141).length : Nat) : Int) < ((x141).length : Int)))) _ (op_lss hf223 hf222) rfl ?_
              have hl226 : ¬ (((x141).length : Nat) : Int) < ((x141).length : Int) := by omega
              refine WL.nil ?_
              refine W.seq ?_
              refine W.condF (decide ((((x141).length : Nat) : Int) < ((x141).length : Int))) rfl (decide_eq_false hl226) ?_
              refine W.exit ?_
              show _ = _ ∧ _
              exact ⟨rfl, _, hs208, hf212, hf213, hf214, hf215, hr216, hf218, hf219, hf220, hS225⟩
          · rintro f227 wd228 ⟨x231, rfl, hq229⟩
            replace hb107 := onRes_fin hb107
            replace hq229 : f227 1 = (Value.int .i64 x71) ∧ f227 5 = (f39 13) ∧ f227 6 = u58 ∧ f227 7 = Value.int .i64 x231 ∧ InR .i64 x231 ∧ f227 20 = u87 ∧ f227 21 = (Value.int .i64 ((x85).length : Int)) ∧ f227 22 = (Value.int .i64 (k101 : Int)) ∧ St wd144 wd228 [] := hq229
            obtain ⟨hf232, hf233, hf234, hf235, hr236, hf237, hf238, hf239, hS240⟩ := hq229
            show W _ _ _ _ _ _
            refine W.region ?_
            refine WL.val (Value.int .i64 (w64 ((k101 : Int) + (1 : Int)))) _ (op_add hf239 rfl) rfl ?_
            refine WL.val (Value.int .i64 (w64 ((k101 : Int) + (1 : Int)))) _ (op_move rfl) rfl ?_
            refine WL.nil ?_
            obtain rfl := Option.some.inj hb107
            show ∃ s, _ = Ctl.next s ∧ _
            exact ⟨_, rfl, hf232, hf233, hf234, hf235, hr236, hf237, hf238, (ctr_next hl121 hr98), (ctr_rng hl121 hr98), (St.ofExt (Ext.trans hE153 hS240.ext))⟩
        · intro x248 f243 wd244 hs245 hI246
          replace hI246 : f243 1 = (Value.int .i64 x71) ∧ f243 5 = (f39 13) ∧ f243 6 = u58 ∧ f243 7 = Value.int .i64 x248 ∧ InR .i64 x248 ∧ f243 20 = u87 ∧ f243 21 = (Value.int .i64 ((x85).length : Int)) ∧ f243 22 = Value.int .i64 (((x85).length : Nat) : Int) ∧ InR .i64 (((x85).length : Nat) : Int) ∧ St wd88 wd244 [] := hI246
          obtain ⟨hf249, hf250, hf251, hf252, hr253, hf254, hf255, hf256, hr257, hS258⟩ := hI246
          refine W.seq (W.region ?_)
          refine WL.val (Value.bool (decide ((((x85).length : Nat) : Int) < ((x85).length : Int)))) _ (op_lss hf256 hf255) rfl ?_
          have hl259 : ¬ (((x85).length : Nat) : Int) < ((x85).length : Int) := by omega
          refine WL.nil ?_
          refine W.seq ?_
          refine W.condF (decide ((((x85).length : Nat) : Int) < ((x85).length : Int))) rfl (decide_eq_false hl259) ?_
          refine W.exit ?_
          show _ = _ ∧ _
          exact ⟨rfl, _, hs245, hf249, hf250, hf251, hf252, hr253, hS258⟩
      · rintro f260 wd261 ⟨x264, rfl, hq262⟩
        replace hb76 := onRes_fin hb76
        replace hq262 : f260 1 = (Value.int .i64 x71) ∧ f260 5 = (f39 13) ∧ f260 6 = u58 ∧ f260 7 = Value.int .i64 x264 ∧ InR .i64 x264 ∧ St wd88 wd261 [] := hq262
        obtain ⟨hf265, hf266, hf267, hf268, hr269, hS270⟩ := hq262
        refine W.seq (W.seq (W.region ?_))
        refine WL.val (Value.int .i64 x264) _ (op_move hf268) rfl ?_
        refine WL.val (Value.int .i64 x71) _ (op_move hf265) rfl ?_
        refine WL.val (Value.bool (x264 == x71)) _ (op_eql rfl rfl) rfl ?_
        refine WL.nil ?_
        refine W.cond (x264 == x71) rfl (fun hc271 => ?_) (fun hc271 => ?_)
        · replace hb76 := ip hb76 hc271
          refine W.seq (W.region ?_)
          refine WL.val (Value.int .i64 x71) _ (op_move hf265) rfl ?_
          refine WL.val (Value.int .i64 x71) _ (op_assign rfl) rfl ?_
          refine WL.nil ?_
          refine W.ret ?_
          obtain rfl := Option.some.inj hb76
          obtain rfl := hret79 _ rfl
          replace h := onRes_ret h
          obtain rfl := Option.some.inj h
          show FinP _ _ _ _ _ _ _
          exact FinP.ret _ (res1 rfl rfl) ⟨rfl, hr81, (Ext.trans hE93 hS270.ext)⟩
        · replace hb76 := inegb hb76 hc271
          refine W.skip ?_
          show W _ _ _ _ _ _
          refine W.region ?_
          refine WL.val (Value.int .i64 x264) _ (op_move hf268) rfl ?_
          refine WL.val (Value.int .i64 x264) _ (op_assign rfl) rfl ?_
          refine WL.nil ?_
          obtain rfl := Option.some.inj hb76
          show ∃ s, _ = Ctl.next s ∧ _
          exact ⟨_, rfl, rfl, hr269, hf266, hf267, (St.ofExt (Ext.trans hE96 hS270.ext))⟩
    · rintro f275 wd276 ⟨x279, rfl, hq277⟩
      replace h := onRes_fin h
      replace hq277 : St wd59 wd276 [] := hq277
      exact nomatch (show (none : Option _) = some _ from h)

theorem c_spec_l03Label {w : World} {r_Table : (List (List (List Int)))} {v_r_Table : Value} {i : Int} (r_r_Table : (Ty.sl (Ty.sl (Ty.sl (Ty.i .i64)))).rep w v_r_Table r_Table) (r_i : InR .i64 i) {res : Bool} (h : p_spec_l03Label r_Table i  = some res) :
    Ret Tryd.prog 40 #[(Value.agg #[v_r_Table]), (Value.int .i64 i)] w (fun v w' => v = Value.bool res ∧ Ext w w') := by
  unfold p_spec_l03Label at h
  have hS0 : St w w [] := St.start w
  refine Ret.start (fn := Tryd.f40) Tryd.func40 rfl 11 rfl rfl ?_
  refine W.seq (W.region ?_)
  refine WL.box hS0 rfl (cs := [v_r_Table]) rfl rfl ?_
  intro b1 wd2 hS3 he4 hx5
  replace hS3 : St w wd2 [bx b1 [v_r_Table]] := hS3
  have hx6 := St.boxAt hS3 0 rfl
  have hE7 : Ext w wd2 := hS3.ext
  have hS8 : St wd2 wd2 [] := St.start wd2
  refine WL.val (Value.bool false) _ (op_assign rfl) rfl ?_
  refine WL.nil ?_
  refine W.seq (W.region ?_)
  refine WL.val (Value.int .i64 i) _ (op_move rfl) rfl ?_
  refine WL.val (Value.pointer (some ⟨b1, 0, none⟩)) _ (op_fieldAddr fd_28_0 rfl) rfl ?_
  refine WL.val v_r_Table _ (op_load one_22 rfl (BoxAt.cell (BoxAt.lift hS8.ext hx6) rfl)) rfl ?_
  have hr9 := inR_len (Ty.lift _ (Ext.trans hE7 hS8.ext) r_r_Table)
  refine WL.val (Value.int .i64 ((r_Table).length : Int)) _ (op_lenL sl_22 (Ty.lift _ (Ext.trans hE7 hS8.ext) r_r_Table) rfl) rfl ?_
  refine WL.val (Value.int .i64 (w64 (((r_Table).length : Int) - (1 : Int)))) _ (op_sub rfl rfl) rfl ?_
  obtain ⟨x10, hx11, h⟩ := bs h
  refine WL.call _ (op_call fn_63 (args3 rfl rfl rfl)) (c_spec_l01In r_i (inL rfl) (inR_wrap _ _) hx11) rfl ?_
  rintro _ wd12 ⟨rfl, he13⟩
  have hS15 := St.extend hS8 he13
  replace hS15 : St wd2 wd12 [] := hS15
  refine WL.val (Value.bool x10) _ (op_assign rfl) rfl ?_
  refine WL.nil ?_
  refine W.ret ?_
  obtain rfl := Option.some.inj h
  show FinP _ _ _ _ _ _ _
  exact FinP.ret _ (res1 rfl rfl) ⟨rfl, (Ext.trans hE7 hS15.ext)⟩

theorem c_spec_l05From {w : World} {r_Table : (List (List (List Int)))} {v_r_Table : Value} {set : Int} (r_r_Table : (Ty.sl (Ty.sl (Ty.sl (Ty.i .i64)))).rep w v_r_Table r_Table) (r_set : InR .i64 set) {res : Int} (h : p_spec_l05From r_Table set  = some res) :
    Ret Tryd.prog 41 #[(Value.agg #[v_r_Table]), (Value.int .i64 set)] w (fun v w' => v = Value.int .i64 res ∧ InR .i64 res ∧ Ext w w') := by
  unfold p_spec_l05From at h
  have hS0 : St w w [] := St.start w
  refine Ret.start (fn := Tryd.f41) Tryd.func41 rfl 17 rfl rfl ?_
  refine W.seq (W.region ?_)
  refine WL.box hS0 rfl (cs := [v_r_Table]) rfl rfl ?_
  intro b1 wd2 hS3 he4 hx5
  replace hS3 : St w wd2 [bx b1 [v_r_Table]] := hS3
  have hx6 := St.boxAt hS3 0 rfl
  have hE7 : Ext w wd2 := hS3.ext
  have hS8 : St wd2 wd2 [] := St.start wd2
  refine WL.val (Value.int .i64 (0 : Int)) _ (op_assign rfl) rfl ?_
  refine WL.nil ?_
  refine W.seq (W.seq (W.region ?_))
  refine WL.val (Value.agg #[v_r_Table]) _ (op_loadBox st_28 rfl (BoxAt.lift hS8.ext hx6) rfl rfl) rfl ?_
  refine WL.val (Value.int .i64 set) _ (op_move rfl) rfl ?_
  obtain ⟨x9, hx10, h⟩ := bs h
  refine WL.call _ (op_call fn_64 (args2 rfl rfl)) (c_spec_l05Spread (Ty.lift _ (Ext.trans hE7 hS8.ext) r_r_Table) r_set hx10) rfl ?_
  rintro _ wd12 ⟨rfl, hr11, he13⟩
  have hS15 := St.extend hS8 he13
  replace hS15 : St wd2 wd12 [] := hS15
  refine WL.val (Value.int .i64 x9) _ (op_assign rfl) rfl ?_
  refine WL.nil ?_
  show W _ _ _ _ _ _
  obtain ⟨res16, hres17, h⟩ := bs h
  refine W.blockLoop (fun fq wq => ∃ s, res16 = Res.fin s ∧ fq 1 = Value.int .i64 s.1 ∧ InR .i64 s.1 ∧ St wd2 wq []) ?_ ?_
  · refine W.whileC (fun (s : Int × Int) fq wq => fq 1 = Value.int .i64 s.1 ∧ InR .i64 s.1 ∧ fq 2 = (Value.pointer (some ⟨b1, 0, none⟩)) ∧ fq 5 = Value.int .i64 s.2 ∧ InR .i64 s.2 ∧ St wd2 wq []) hres17 ⟨rfl, r_set, rfl, rfl, hr11, hS15⟩ ?_
    intro s44 ct21 f22 wd23 hb25 hI26 hbrk27 hret28
    obtain ⟨x19, x20⟩ := s44
    replace hI26 : f22 1 = Value.int .i64 x19 ∧ InR .i64 x19 ∧ f22 2 = (Value.pointer (some ⟨b1, 0, none⟩)) ∧ f22 5 = Value.int .i64 x20 ∧ InR .i64 x20 ∧ St wd2 wd23 [] := hI26
    replace hb25 : p_spec_l05From_L1 r_Table  x19 x20 = some ct21 := hb25
    unfold p_spec_l05From_L1 at hb25
    obtain ⟨hf29, hr30, hf31, hf32, hr33, hS34⟩ := hI26
    refine W.seq (W.seq (W.region ?_))
    refine WL.val (Value.int .i64 x20) _ (op_move hf32) rfl ?_
    refine WL.val (Value.int .i64 x19) _ (op_move hf29) rfl ?_
    refine WL.val (Value.bool (x20 != x19)) _ (op_neq rfl rfl) rfl ?_
    refine WL.nil ?_
    refine W.cond (x20 != x19) rfl (fun hc35 => ?_) (fun hc35 => ?_)
    · replace hb25 := ip hb25 hc35
      refine W.skip ?_
      refine W.seq ?_
      refine W.block ?_
      refine W.region ?_
      refine WL.val (Value.int .i64 x20) _ (op_move hf32) rfl ?_
      refine WL.val (Value.int .i64 x20) _ (op_assign rfl) rfl ?_
      refine WL.nil ?_
      show W _ _ _ _ _ _
      refine W.region ?_
      refine WL.val (Value.agg #[v_r_Table]) _ (op_loadBox st_28 hf31 (BoxAt.lift hS34.ext hx6) rfl rfl) rfl ?_
      refine WL.val (Value.int .i64 x20) _ (op_move rfl) rfl ?_
      obtain ⟨x37, hx38, hb25⟩ := bs hb25
      refine WL.call _ (op_call fn_64 (args2 rfl rfl)) (c_spec_l05Spread (Ty.lift _ (Ext.trans hE7 hS34.ext) r_r_Table) hr33 hx38) rfl ?_
      rintro _ wd40 ⟨rfl, hr39, he41⟩
      have hS43 := St.extend hS34 he41
      replace hS43 : St wd2 wd40 [] := hS43
      refine WL.val (Value.int .i64 x37) _ (op_assign rfl) rfl ?_
      refine WL.nil ?_
      obtain rfl := Option.some.inj hb25
      show ∃ s, _ = Ctl.next s ∧ _
      exact ⟨_, rfl, rfl, hr33, hf31, rfl, hr39, hS43⟩
    · replace hb25 := inegb hb25 hc35
      refine W.exit ?_
      obtain rfl := Option.some.inj hb25
      show _ = _ ∧ _
      exact ⟨rfl, _, hbrk27 _ rfl, hf29, hr30, hS34⟩
  · rintro f45 wd46 ⟨s48, rfl, hq47⟩
    replace h := onRes_fin h
    obtain ⟨x49, x50⟩ := s48
    replace hq47 : f45 1 = Value.int .i64 x49 ∧ InR .i64 x49 ∧ St wd2 wd46 [] := hq47
    replace h : (_ : Option _) = _ := h
    dsimp only at h
    obtain ⟨hf51, hr52, hS53⟩ := hq47
    refine W.seq (W.region ?_)
    refine WL.val (Value.int .i64 x49) _ (op_move hf51) rfl ?_
    refine WL.val (Value.int .i64 x49) _ (op_assign rfl) rfl ?_
    refine WL.nil ?_
    refine W.ret ?_
    obtain rfl := Option.some.inj h
    show FinP _ _ _ _ _ _ _
    exact FinP.ret _ (res1 rfl rfl) ⟨rfl, hr52, (Ext.trans hE7 hS53.ext)⟩

theorem c_spec_SubringFrom {w : World} {r_Table : (List (List (List Int)))} {v_r_Table : Value} {list : (List Int)} {v_list : Value} (r_r_Table : (Ty.sl (Ty.sl (Ty.sl (Ty.i .i64)))).rep w v_r_Table r_Table) (r_list : (Ty.sl (Ty.i .i64)).rep w v_list list) {res : Int × Int} (h : p_spec_SubringFrom r_Table list  = some res) :
    Ret Tryd.prog 16 #[(Value.agg #[v_r_Table]), v_list] w (fun v w' => v = (Value.tuple #[Value.int .i64 res.1, Value.int .i64 res.2]) ∧ InR .i64 res.1 ∧ InR .i64 res.2 ∧ Ext w w') := by
  unfold p_spec_SubringFrom at h
  have hS0 : St w w [] := St.start w
  refine Ret.start (fn := Tryd.f16) Tryd.func16 rfl 35 rfl rfl ?_
  refine W.seq (W.region ?_)
  refine WL.box hS0 rfl (cs := [v_r_Table]) rfl rfl ?_
  intro b1 wd2 hS3 he4 hx5
  replace hS3 : St w wd2 [bx b1 [v_r_Table]] := hS3
  have hx6 := St.boxAt hS3 0 rfl
  have hE7 : Ext w wd2 := hS3.ext
  have hS8 : St wd2 wd2 [] := St.start wd2
  refine WL.val (Value.int .i64 (0 : Int)) _ (op_assign rfl) rfl ?_
  refine WL.val (Value.int .i64 (0 : Int)) _ (op_assign rfl) rfl ?_
  refine WL.nil ?_
  refine W.seq (W.seq (W.region ?_))
  refine WL.val (Value.agg #[v_r_Table]) _ (op_loadBox st_28 rfl (BoxAt.lift hS8.ext hx6) rfl rfl) rfl ?_
  obtain ⟨x9, hx10, h⟩ := bs h
  refine WL.call _ (op_call fn_30 (args1 rfl)) (c_spec_l03Is (Ty.lift _ (Ext.trans hE7 hS8.ext) r_r_Table) hx10) rfl ?_
  rintro _ wd11 ⟨rfl, he12⟩
  have hS14 := St.extend hS8 he12
  replace hS14 : St wd2 wd11 [] := hS14
  refine WL.val (Value.bool (!x9)) _ (op_not rfl) rfl ?_
  refine WL.nil ?_
  refine W.cond (!x9) rfl (fun hc15 => ?_) (fun hc15 => ?_)
  · replace h := ip h hc15
    refine W.seq (W.region ?_)
    refine WL.val (Value.int .i64 (0 : Int)) _ (op_assign rfl) rfl ?_
    refine WL.val (Value.int .i64 (1 : Int)) _ (op_assign rfl) rfl ?_
    refine WL.nil ?_
    refine W.ret ?_
    obtain rfl := Option.some.inj h
    show FinP _ _ _ _ _ _ _
    exact FinP.ret _ (res2 rfl rfl rfl) ⟨rfl, (inL rfl), (inL rfl), (Ext.trans hE7 hS14.ext)⟩
  · replace h := inegb h hc15
    refine W.skip ?_
    refine W.seq (W.region ?_)
    refine WL.val (Value.int .i64 (1 : Int)) _ (op_assign rfl) rfl ?_
    refine WL.nil ?_
    refine W.seq (W.seq (W.region ?_))
    refine WL.val (Value.int .i64 (0 : Int)) _ (op_assign rfl) rfl ?_
    refine WL.nil ?_
    show W _ _ _ _ _ _
    obtain ⟨res17, hres18, h⟩ := bs h
    refine W.blockLoop (fun fq wq => ∃ s, res17 = Res.fin s ∧ fq 2 = (Value.pointer (some ⟨b1, 0, none⟩)) ∧ fq 6 = Value.int .i64 s ∧ InR .i64 s ∧ St wd2 wq []) ?_ ?_
    · refine W.forN (fun k (s : Int) fq wq => fq 1 = v_list ∧ fq 2 = (Value.pointer (some ⟨b1, 0, none⟩)) ∧ fq 6 = Value.int .i64 s ∧ InR .i64 s ∧ fq 7 = Value.int .i64 (k : Int) ∧ InR .i64 (k : Int) ∧ St wd2 wq []) hres18 ⟨rfl, rfl, rfl, (inL rfl), rfl, (inL rfl), hS14⟩ ?_ ?_
      · intro k19 x20 ct21 f22 wd23 hk24 hb25 hI26 hbrk27 hret28
        replace hI26 : f22 1 = v_list ∧ f22 2 = (Value.pointer (some ⟨b1, 0, none⟩)) ∧ f22 6 = Value.int .i64 x20 ∧ InR .i64 x20 ∧ f22 7 = Value.int .i64 (k19 : Int) ∧ InR .i64 (k19 : Int) ∧ St wd2 wd23 [] := hI26
        replace hb25 : p_spec_SubringFrom_L1 list r_Table k19 x20 = some ct21 := hb25
        unfold p_spec_SubringFrom_L1 at hb25
        obtain ⟨hf29, hf30, hf31, hr32, hf33, hr34, hS35⟩ := hI26
        refine W.seq (W.seq (W.region ?_))
        refine WL.val (Value.int .i64 (k19 : Int)) _ (op_move hf33) rfl ?_
        refine WL.val v_list _ (op_move hf29) rfl ?_
        have hr36 := inR_len (Ty.lift _ (Ext.trans hE7 hS35.ext) r_list)
        refine WL.val (Value.int .i64 ((list).length : Int)) _ (op_lenL sl_34 (Ty.lift _ (Ext.trans hE7 hS35.ext) r_list) rfl) rfl ?_
        refine WL.val (Value.bool (decide ((k19 : Int) < ((list).length : Int)))) _ (op_lss rfl rfl) rfl ?_
        have hl37 : (k19 : Int) < ((list).length : Int) := by omega
        refine WL.nil ?_
        refine W.condT (decide ((k19 : Int) < ((list).length : Int))) rfl (decide_eq_true hl37) ?_
        refine W.skip ?_
        refine W.seq ?_
        refine W.block ?_
        refine W.seq (W.seq ?_)
        obtain ⟨x75, hx78, hb25⟩ := bs hb25
        obtain ⟨ha76, hb77, hx78⟩ := idx_some hx78
        obtain ⟨u89, hc90, hr91⟩ := repSl.el r_list hx78
        obtain ⟨rfl, hr91⟩ := hr91
        refine W.drawR mixo 5 [] [fun _ v S w' => v = (Value.agg #[v_r_Table]), fun _ v _ _ => v = v_list, fun _ v _ _ => v = (Value.int .i64 (k19 : Int)) ∧ InR .i64 (k19 : Int), fun _ v _ _ => v = (Value.pointer (some (elA v_list ((k19 : Int)).toNat))), fun _ v _ _ => v = (Value.int .i64 x75) ∧ InR .i64 x75] (by kernel_rfl) (by kernel_rfl) ⟨pk, pk, pk, pk, pk, trivial⟩ ⟨?_, ?_, ?_, ?_, ?_, trivial⟩ ?_
        · refine ObX.op rfl fun f39 wd40 he41 hout42 hphi43 => ?_
          have hS44 := St.extend hS35 he41
          have e45 : f39 2 = (Value.pointer (some ⟨b1, 0, none⟩)) := (hout42 2 rfl).trans hf30
          exact OpX.val (Value.agg #[v_r_Table]) wd40 rfl (op_loadBox st_28 e45 (BoxAt.lift hS44.ext hx6) rfl rfl) (Ext.refl _) rfl
        · refine ObX.op rfl fun f46 wd47 he48 hout49 hphi50 => ?_
          have e52 : f46 1 = v_list := (hout49 1 rfl).trans hf29
          exact OpX.val v_list wd47 rfl (op_move e52) (Ext.refl _) rfl
        · refine ObX.op rfl fun f53 wd54 he55 hout56 hphi57 => ?_
          have e59 : f53 7 = (Value.int .i64 (k19 : Int)) := (hout56 7 rfl).trans hf33
          exact OpX.val (Value.int .i64 (k19 : Int)) wd54 rfl (op_move e59) (Ext.refl _) ⟨rfl, hr34⟩
        · refine ObX.op rfl fun f60 wd61 he62 hout63 hphi64 => ?_
          have hS65 := St.extend hS35 he62
          obtain ⟨S66, hS67, hf68⟩ := hphi64 1 18 _ rfl rfl rfl
          have e69 : f60 18 = v_list := hf68
          obtain ⟨S70, hS71, hf72⟩ := hphi64 2 19 _ rfl rfl rfl
          obtain ⟨e73, hr74⟩ := hf72
          exact OpX.val (Value.pointer (some (elA v_list ((k19 : Int)).toNat))) wd61 rfl (op_idx sl_34 (Ty.lift _ (Ext.trans hE7 hS65.ext) r_list) e69 e73 ha76 hb77) (Ext.refl _) rfl
        · refine ObX.op rfl fun f79 wd80 he81 hout82 hphi83 => ?_
          have hS84 := St.extend hS35 he81
          obtain ⟨S85, hS86, hf87⟩ := hphi83 3 20 _ rfl rfl rfl
          have e88 : f79 20 = (Value.pointer (some (elA v_list ((k19 : Int)).toNat))) := hf87
          exact OpX.val (Value.int .i64 x75) wd80 rfl (op_load one_2 e88 (Ext.cell (Ext.trans hE7 hS84.ext) hc90)) (Ext.refl _) ⟨rfl, hr91⟩
        · intro f92 wd93 Ss94 he95 hout96 hSn97 hSd98 hphi99
          show WL _ _ _ _ _ _ _
          have hS100 := St.extend hS35 he95
          have e101 : f92 17 = (Value.agg #[v_r_Table]) := hphi99 0 17 _ (by decide) rfl rfl
          obtain ⟨e102, hr103⟩ := hphi99 4 21 _ (by decide) rfl rfl
          have e104 : f92 1 = v_list := (hout96 1 rfl).trans hf29
          have e105 : f92 2 = (Value.pointer (some ⟨b1, 0, none⟩)) := (hout96 2 rfl).trans hf30
          have e106 : f92 6 = (Value.int .i64 x20) := (hout96 6 rfl).trans hf31
          have e107 : f92 7 = (Value.int .i64 (k19 : Int)) := (hout96 7 rfl).trans hf33
          obtain ⟨x108, hx109, hb25⟩ := bs hb25
          refine WL.call _ (op_call fn_40 (args2 e101 e102)) (c_spec_l03Label (Ty.lift _ (Ext.trans hE7 hS100.ext) r_r_Table) hr103 hx109) rfl ?_
          rintro _ wd110 ⟨rfl, he111⟩
          have hS113 := St.extend hS100 he111
          replace hS113 : St wd2 wd110 [] := hS113
          refine WL.val (Value.bool (!x108)) _ (op_not rfl) rfl ?_
          refine WL.nil ?_
          refine W.cond (!x108) rfl (fun hc114 => ?_) (fun hc114 => ?_)
          · replace hb25 := ip hb25 hc114
            refine W.seq (W.region ?_)
            refine WL.val (Value.int .i64 (0 : Int)) _ (op_assign rfl) rfl ?_
            refine WL.val (Value.int .i64 (2 : Int)) _ (op_assign rfl) rfl ?_
            refine WL.nil ?_
            refine W.ret ?_
            obtain rfl := Option.some.inj hb25
            obtain rfl := hret28 _ rfl
            replace h := onRes_ret h
            obtain rfl := Option.some.inj h
            show FinP _ _ _ _ _ _ _
            exact FinP.ret _ (res2 rfl rfl rfl) ⟨rfl, (inL rfl), (inL rfl), (Ext.trans hE7 hS113.ext)⟩
          · replace hb25 := inegb hb25 hc114
            refine W.skip ?_
            show W _ _ _ _ _ _
            refine W.region ?_
            refine WL.val (Value.int .i64 x20) _ (op_move e106) rfl ?_
            refine WL.val v_list _ (op_move e104) rfl ?_
            refine WL.val (Value.int .i64 (k19 : Int)) _ (op_move e107) rfl ?_
            refine WL.val (Value.pointer (some (elA v_list ((k19 : Int)).toNat))) _ (op_idx sl_34 (Ty.lift _ (Ext.trans hE7 hS113.ext) r_list) rfl rfl ha76 hb77) rfl ?_
            obtain ⟨u116, hc117, hr118⟩ := repSl.el r_list hx78
            obtain ⟨rfl, hr118⟩ := hr118
            refine WL.val (Value.int .i64 x75) _ (op_load one_2 rfl (Ext.cell (Ext.trans hE7 hS113.ext) hc117)) rfl ?_
            refine WL.val (Value.int .u64 (IntKind.u64.wrap x75)) _ (op_convert rfl it_2 it_55) rfl ?_
            obtain ⟨x119, hz120, hb25⟩ := bs hb25
            obtain ⟨h0121, hz120⟩ := shlI_some hz120
            have hr122 : InR .i64 x119 := by rw [hz120]; exact inR_wrap _ _
            refine WL.val (Value.int .i64 x119) _ (by rw [hz120]; exact op_shl rfl rfl h0121) rfl ?_
            refine WL.val (Value.int .i64 (orI .i64 x20 x119)) _ (op_or rfl rfl) rfl ?_
            refine WL.val (Value.int .i64 (orI .i64 x20 x119)) _ (op_assign rfl) rfl ?_
            refine WL.nil ?_
            show W _ _ _ _ _ _
            refine W.region ?_
            refine WL.val (Value.int .i64 (k19 : Int)) _ (op_move e107) rfl ?_
            refine WL.val (Value.int .i64 (w64 ((k19 : Int) + (1 : Int)))) _ (op_add rfl rfl) rfl ?_
            refine WL.val (Value.int .i64 (w64 ((k19 : Int) + (1 : Int)))) _ (op_assign rfl) rfl ?_
            refine WL.nil ?_
            obtain rfl := Option.some.inj hb25
            show ∃ s, _ = Ctl.next s ∧ _
            exact ⟨_, rfl, e104, e105, rfl, (inR_wrap _ _), (ctr_next hl37 hr36), (ctr_rng hl37 hr36), hS113⟩
      · intro x129 f124 wd125 hs126 hI127
        replace hI127 : f124 1 = v_list ∧ f124 2 = (Value.pointer (some ⟨b1, 0, none⟩)) ∧ f124 6 = Value.int .i64 x129 ∧ InR .i64 x129 ∧ f124 7 = Value.int .i64 (((list).length : Nat) : Int) ∧ InR .i64 (((list).length : Nat) : Int) ∧ St wd2 wd125 [] := hI127
        obtain ⟨hf130, hf131, hf132, hr133, hf134, hr135, hS136⟩ := hI127
        refine W.seq (W.seq (W.region ?_))
        refine WL.val (Value.int .i64 (((list).length : Nat) : Int)) _ (op_move hf134) rfl ?_
        refine WL.val v_list _ (op_move hf130) rfl ?_
        have hr137 := inR_len (Ty.lift _ (Ext.trans hE7 hS136.ext) r_list)
        refine WL.val (Value.int .i64 ((list).length : Int)) _ (op_lenL sl_34 (Ty.lift _ (Ext.trans hE7 hS136.ext) r_list) rfl) rfl ?_
        refine WL.val (Value.bool (decide ((((list).length : Nat) : Int) < ((list).length : Int)))) _ (op_lss rfl rfl) rfl ?_
        have hl138 : ¬ (((list).length : Nat) : Int) < ((list).length : Int) := by omega
        refine WL.nil ?_
        refine W.condF (decide ((((list).length : Nat) : Int) < ((list).length : Int))) rfl (decide_eq_false hl138) ?_
        refine W.exit ?_
        show _ = _ ∧ _
        exact ⟨rfl, _, hs126, hf131, hf132, hr133, hS136⟩
    · rintro f139 wd140 ⟨x143, rfl, hq141⟩
      replace h := onRes_fin h
      replace hq141 : f139 2 = (Value.pointer (some ⟨b1, 0, none⟩)) ∧ f139 6 = Value.int .i64 x143 ∧ InR .i64 x143 ∧ St wd2 wd140 [] := hq141
      obtain ⟨hf144, hf145, hr146, hS147⟩ := hq141
      refine W.seq (W.region ?_)
      refine WL.val (Value.agg #[v_r_Table]) _ (op_loadBox st_28 hf144 (BoxAt.lift hS147.ext hx6) rfl rfl) rfl ?_
      refine WL.val (Value.int .i64 x143) _ (op_move hf145) rfl ?_
      obtain ⟨x148, hx149, h⟩ := bs h
      refine WL.call _ (op_call fn_41 (args2 rfl rfl)) (c_spec_l05From (Ty.lift _ (Ext.trans hE7 hS147.ext) r_r_Table) hr146 hx149) rfl ?_
      rintro _ wd151 ⟨rfl, hr150, he152⟩
      have hS154 := St.extend hS147 he152
      replace hS154 : St wd2 wd151 [] := hS154
      refine WL.val (Value.int .i64 x148) _ (op_assign rfl) rfl ?_
      refine WL.val (Value.int .i64 (0 : Int)) _ (op_assign rfl) rfl ?_
      refine WL.nil ?_
      refine W.ret ?_
      obtain rfl := Option.some.inj h
      show FinP _ _ _ _ _ _ _
      exact FinP.ret _ (res2 rfl rfl rfl) ⟨rfl, hr150, (inL rfl), (Ext.trans hE7 hS154.ext)⟩

theorem c_impl_Ring_isLabel {w : World} {r_Table : (List (List (List Int)))} {v_r_Table : Value} {i : Int} (r_r_Table : (Ty.sl (Ty.sl (Ty.sl (Ty.i .i64)))).rep w v_r_Table r_Table) (r_i : InR .i64 i) {res : Bool} (h : p_impl_Ring_isLabel r_Table i  = some res) :
    Ret Tryd.prog 42 #[(Value.agg #[v_r_Table]), (Value.int .i64 i)] w (fun v w' => v = Value.bool res ∧ Ext w w') := by
  unfold p_impl_Ring_isLabel at h
  have hS0 : St w w [] := St.start w
  refine Ret.start (fn := Tryd.f42) Tryd.func42 rfl 11 rfl rfl ?_
  refine W.seq (W.region ?_)
  refine WL.box hS0 rfl (cs := [v_r_Table]) rfl rfl ?_
  intro b1 wd2 hS3 he4 hx5
  replace hS3 : St w wd2 [bx b1 [v_r_Table]] := hS3
  have hx6 := St.boxAt hS3 0 rfl
  have hE7 : Ext w wd2 := hS3.ext
  have hS8 : St wd2 wd2 [] := St.start wd2
  refine WL.val (Value.bool false) _ (op_assign rfl) rfl ?_
  refine WL.nil ?_
  refine W.seq (W.region ?_)
  refine WL.val (Value.int .i64 i) _ (op_move rfl) rfl ?_
  refine WL.val (Value.pointer (some ⟨b1, 0, none⟩)) _ (op_fieldAddr fd_28_0 rfl) rfl ?_
  refine WL.val v_r_Table _ (op_load one_22 rfl (BoxAt.cell (BoxAt.lift hS8.ext hx6) rfl)) rfl ?_
  have hr9 := inR_len (Ty.lift _ (Ext.trans hE7 hS8.ext) r_r_Table)
  refine WL.val (Value.int .i64 ((r_Table).length : Int)) _ (op_lenL sl_22 (Ty.lift _ (Ext.trans hE7 hS8.ext) r_r_Table) rfl) rfl ?_
  refine WL.val (Value.int .i64 (w64 (((r_Table).length : Int) - (1 : Int)))) _ (op_sub rfl rfl) rfl ?_
  obtain ⟨x10, hx11, h⟩ := bs h
  refine WL.call _ (op_call fn_65 (args3 rfl rfl rfl)) (c_impl_within r_i (inL rfl) (inR_wrap _ _) hx11) rfl ?_
  rintro _ wd12 ⟨rfl, he13⟩
  have hS15 := St.extend hS8 he13
  replace hS15 : St wd2 wd12 [] := hS15
  refine WL.val (Value.bool x10) _ (op_assign rfl) rfl ?_
  refine WL.nil ?_
  refine W.ret ?_
  obtain rfl := Option.some.inj h
  show FinP _ _ _ _ _ _ _
  exact FinP.ret _ (res1 rfl rfl) ⟨rfl, (Ext.trans hE7 hS15.ext)⟩

theorem c_impl_SubringFrom {w : World} {r_Table : (List (List (List Int)))} {v_r_Table : Value} {list : (List Int)} {v_list : Value} (tb : TabAt w) (r_r_Table : (Ty.sl (Ty.sl (Ty.sl (Ty.i .i64)))).rep w v_r_Table r_Table) (r_list : (Ty.sl (Ty.i .i64)).rep w v_list list) {res : Int × Int} (h : p_impl_SubringFrom r_Table list  = some res) :
    Ret Tryd.prog 18 #[(Value.agg #[v_r_Table]), v_list] w (fun v w' => v = (Value.tuple #[Value.int .i64 res.1, Value.int .i64 res.2]) ∧ InR .i64 res.1 ∧ InR .i64 res.2 ∧ Ext w w') := by
  unfold p_impl_SubringFrom at h
  have hS0 : St w w [] := St.start w
  refine Ret.start (fn := Tryd.f18) Tryd.func18 rfl 30 rfl rfl ?_
  refine W.seq (W.region ?_)
  refine WL.box hS0 rfl (cs := [v_r_Table]) rfl rfl ?_
  intro b1 wd2 hS3 he4 hx5
  replace hS3 : St w wd2 [bx b1 [v_r_Table]] := hS3
  have hx6 := St.boxAt hS3 0 rfl
  have hE7 : Ext w wd2 := hS3.ext
  have hS8 : St wd2 wd2 [] := St.start wd2
  refine WL.val (Value.int .i64 (0 : Int)) _ (op_assign rfl) rfl ?_
  refine WL.val (Value.int .i64 (0 : Int)) _ (op_assign rfl) rfl ?_
  refine WL.nil ?_
  refine W.seq (W.seq (W.region ?_))
  refine WL.val (Value.agg #[v_r_Table]) _ (op_loadBox st_28 rfl (BoxAt.lift hS8.ext hx6) rfl rfl) rfl ?_
  obtain ⟨x9, hx10, h⟩ := bs h
  refine WL.call _ (op_call fn_33 (args1 rfl)) (c_impl_IsRing (Ty.lift _ (Ext.trans hE7 hS8.ext) r_r_Table) hx10) rfl ?_
  rintro _ wd11 ⟨rfl, he12⟩
  have hS14 := St.extend hS8 he12
  replace hS14 : St wd2 wd11 [] := hS14
  refine WL.val (Value.bool (!x9)) _ (op_not rfl) rfl ?_
  refine WL.nil ?_
  refine W.cond (!x9) rfl (fun hc15 => ?_) (fun hc15 => ?_)
  · replace h := ip h hc15
    refine W.seq (W.region ?_)
    refine WL.val (Value.int .i64 (0 : Int)) _ (op_assign rfl) rfl ?_
    refine WL.val (Value.int .i64 (1 : Int)) _ (op_assign rfl) rfl ?_
    refine WL.nil ?_
    refine W.ret ?_
    obtain rfl := Option.some.inj h
    show FinP _ _ _ _ _ _ _
    exact FinP.ret _ (res2 rfl rfl rfl) ⟨rfl, (inL rfl), (inL rfl), (Ext.trans hE7 hS14.ext)⟩
  · replace h := inegb h hc15
    refine W.skip ?_
    refine W.seq (W.region ?_)
    refine WL.val (Value.int .i64 (0 : Int)) _ (op_assign rfl) rfl ?_
    refine WL.nil ?_
    refine W.seq (W.seq (W.region ?_))
    refine WL.val v_list _ (op_move rfl) rfl ?_
    have hr17 := inR_len (Ty.lift _ (Ext.trans hE7 hS14.ext) r_list)
    refine WL.val (Value.int .i64 ((list).length : Int)) _ (op_lenL sl_34 (Ty.lift _ (Ext.trans hE7 hS14.ext) r_list) rfl) rfl ?_
    refine WL.val (Value.int .i64 (0 : Int)) _ (op_move rfl) rfl ?_
    refine WL.nil ?_
    show W _ _ _ _ _ _
    obtain ⟨res18, hres19, h⟩ := bs h
    refine W.blockLoop (fun fq wq => ∃ s, res18 = Res.fin s ∧ fq 2 = (Value.pointer (some ⟨b1, 0, none⟩)) ∧ fq 6 = Value.int .i64 s ∧ InR .i64 s ∧ St wd2 wq []) ?_ ?_
    · refine W.forN (fun k (s : Int) fq wq => fq 2 = (Value.pointer (some ⟨b1, 0, none⟩)) ∧ fq 6 = Value.int .i64 s ∧ InR .i64 s ∧ fq 12 = v_list ∧ fq 13 = (Value.int .i64 ((list).length : Int)) ∧ fq 14 = Value.int .i64 (k : Int) ∧ InR .i64 (k : Int) ∧ St wd2 wq []) hres19 ⟨rfl, rfl, (inL rfl), rfl, rfl, rfl, (inL rfl), hS14⟩ ?_ ?_
      · intro k20 x21 ct22 f23 wd24 hk25 hb26 hI27 hbrk28 hret29
        replace hI27 : f23 2 = (Value.pointer (some ⟨b1, 0, none⟩)) ∧ f23 6 = Value.int .i64 x21 ∧ InR .i64 x21 ∧ f23 12 = v_list ∧ f23 13 = (Value.int .i64 ((list).length : Int)) ∧ f23 14 = Value.int .i64 (k20 : Int) ∧ InR .i64 (k20 : Int) ∧ St wd2 wd24 [] := hI27
        replace hb26 : p_impl_SubringFrom_L1 list r_Table k20 x21 = some ct22 := hb26
        unfold p_impl_SubringFrom_L1 at hb26
        obtain ⟨hf30, hf31, hr32, hf33, hf34, hf35, hr36, hS37⟩ := hI27
        refine W.seq (W.region ?_)
        refine WL.val (Value.bool (decide ((k20 : Int) < ((list).length : Int)))) _ (op_lss hf35 hf34) rfl ?_
        have hl38 : (k20 : Int) < ((list).length : Int) := by omega
        refine WL.nil ?_
        refine W.seq ?_
        refine W.condT (decide ((k20 : Int) < ((list).length : Int))) rfl (decide_eq_true hl38) ?_
        refine W.skip ?_
        refine W.seq ?_
        refine W.block ?_
        refine W.seq (W.region ?_)
        obtain ⟨x40, hx43, hb26⟩ := bs hb26
        obtain ⟨ha41, hb42, hx43⟩ := idx_some hx43
        refine WL.val (Value.pointer (some (elA v_list ((k20 : Int)).toNat))) _ (op_idx sl_34 (Ty.lift _ (Ext.trans hE7 hS37.ext) r_list) hf33 hf35 ha41 hb42) rfl ?_
        obtain ⟨u44, hc45, hr46⟩ := repSl.el r_list hx43
        obtain ⟨rfl, hr46⟩ := hr46
        refine WL.val (Value.int .i64 x40) _ (op_load one_2 rfl (Ext.cell (Ext.trans hE7 hS37.ext) hc45)) rfl ?_
        refine WL.val (Value.int .i64 x40) _ (op_assign rfl) rfl ?_
        refine WL.nil ?_
        refine W.seq (W.seq (W.region ?_))
        refine WL.val (Value.agg #[v_r_Table]) _ (op_loadBox st_28 hf30 (BoxAt.lift hS37.ext hx6) rfl rfl) rfl ?_
        refine WL.val (Value.int .i64 x40) _ (op_move rfl) rfl ?_
        obtain ⟨x47, hx48, hb26⟩ := bs hb26
        refine WL.call _ (op_call fn_42 (args2 rfl rfl)) (c_impl_Ring_isLabel (Ty.lift _ (Ext.trans hE7 hS37.ext) r_r_Table) hr46 hx48) rfl ?_
        rintro _ wd49 ⟨rfl, he50⟩
        have hS52 := St.extend hS37 he50
        replace hS52 : St wd2 wd49 [] := hS52
        refine WL.val (Value.bool (!x47)) _ (op_not rfl) rfl ?_
        refine WL.nil ?_
        refine W.cond (!x47) rfl (fun hc53 => ?_) (fun hc53 => ?_)
        · replace hb26 := ip hb26 hc53
          refine W.seq (W.region ?_)
          refine WL.val (Value.int .i64 (0 : Int)) _ (op_assign rfl) rfl ?_
          refine WL.val (Value.int .i64 (2 : Int)) _ (op_assign rfl) rfl ?_
          refine WL.nil ?_
          refine W.ret ?_
          obtain rfl := Option.some.inj hb26
          obtain rfl := hret29 _ rfl
          replace h := onRes_ret h
          obtain rfl := Option.some.inj h
          show FinP _ _ _ _ _ _ _
          exact FinP.ret _ (res2 rfl rfl rfl) ⟨rfl, (inL rfl), (inL rfl), (Ext.trans hE7 hS52.ext)⟩
        · replace hb26 := inegb hb26 hc53
          refine W.skip ?_
          show W _ _ _ _ _ _
          refine W.region ?_
          refine WL.val (Value.int .i64 x21) _ (op_move hf31) rfl ?_
          refine WL.val (Value.int .i64 x40) _ (op_move rfl) rfl ?_
          obtain ⟨x55, hz56, hb26⟩ := bs hb26
          obtain ⟨h057, hz56⟩ := shlI_some hz56
          have hr58 : InR .i64 x55 := by rw [hz56]; exact inR_wrap _ _
          refine WL.val (Value.int .i64 x55) _ (by rw [hz56]; exact op_shl rfl rfl h057) rfl ?_
          refine WL.val (Value.int .i64 (orI .i64 x21 x55)) _ (op_or rfl rfl) rfl ?_
          refine WL.val (Value.int .i64 (orI .i64 x21 x55)) _ (op_assign rfl) rfl ?_
          refine WL.nil ?_
          show W _ _ _ _ _ _
          refine W.region ?_
          refine WL.val (Value.int .i64 (w64 ((k20 : Int) + (1 : Int)))) _ (op_add hf35 rfl) rfl ?_
          refine WL.val (Value.int .i64 (w64 ((k20 : Int) + (1 : Int)))) _ (op_move rfl) rfl ?_
          refine WL.nil ?_
          obtain rfl := Option.some.inj hb26
          show ∃ s, _ = Ctl.next s ∧ _
          exact ⟨_, rfl, hf30, rfl, (inR_wrap _ _), hf33, hf34, (ctr_next hl38 hr17), (ctr_rng hl38 hr17), hS52⟩
      · intro x65 f60 wd61 hs62 hI63
        replace hI63 : f60 2 = (Value.pointer (some ⟨b1, 0, none⟩)) ∧ f60 6 = Value.int .i64 x65 ∧ InR .i64 x65 ∧ f60 12 = v_list ∧ f60 13 = (Value.int .i64 ((list).length : Int)) ∧ f60 14 = Value.int .i64 (((list).length : Nat) : Int) ∧ InR .i64 (((list).length : Nat) : Int) ∧ St wd2 wd61 [] := hI63
        obtain ⟨hf66, hf67, hr68, hf69, hf70, hf71, hr72, hS73⟩ := hI63
        refine W.seq (W.region ?_)
        refine WL.val (Value.bool (decide ((((list).length : Nat) : Int) < ((list).length : Int)))) _ (op_lss hf71 hf70) rfl ?_
        have hl74 : ¬ (((list).length : Nat) : Int) < ((list).length : Int) := by omega
        refine WL.nil ?_
        refine W.seq ?_
        refine W.condF (decide ((((list).length : Nat) : Int) < ((list).length : Int))) rfl (decide_eq_false hl74) ?_
        refine W.exit ?_
        show _ = _ ∧ _
        exact ⟨rfl, _, hs62, hf66, hf67, hr68, hS73⟩
    · rintro f75 wd76 ⟨x79, rfl, hq77⟩
      replace h := onRes_fin h
      replace hq77 : f75 2 = (Value.pointer (some ⟨b1, 0, none⟩)) ∧ f75 6 = Value.int .i64 x79 ∧ InR .i64 x79 ∧ St wd2 wd76 [] := hq77
      obtain ⟨hf80, hf81, hr82, hS83⟩ := hq77
      refine W.seq (W.region ?_)
      refine WL.val (Value.agg #[v_r_Table]) _ (op_loadBox st_28 hf80 (BoxAt.lift hS83.ext hx6) rfl rfl) rfl ?_
      refine WL.val (Value.int .i64 x79) _ (op_move hf81) rfl ?_
      obtain ⟨x84, hx85, h⟩ := bs h
      refine WL.call _ (op_call fn_39 (args2 rfl rfl)) (c_impl_Ring_closed (tb.ext (Ext.trans hE7 hS83.ext)) (Ty.lift _ (Ext.trans hE7 hS83.ext) r_r_Table) hr82 hx85) rfl ?_
      rintro _ wd87 ⟨rfl, hr86, he88⟩
      have hS90 := St.extend hS83 he88
      replace hS90 : St wd2 wd87 [] := hS90
      refine WL.val (Value.int .i64 x84) _ (op_assign rfl) rfl ?_
      refine WL.val (Value.int .i64 (0 : Int)) _ (op_assign rfl) rfl ?_
      refine WL.nil ?_
      refine W.ret ?_
      obtain rfl := Option.some.inj h
      show FinP _ _ _ _ _ _ _
      exact FinP.ret _ (res2 rfl rfl rfl) ⟨rfl, hr86, (inL rfl), (Ext.trans hE7 hS90.ext)⟩

theorem c_laws_FnExactSubringFrom {w : World} {aR_Table : (List (List (List Int)))} {v_aR_Table : Value} {aList : (List Int)} {v_aList : Value} (tb : TabAt w) (r_aR_Table : (Ty.sl (Ty.sl (Ty.sl (Ty.i .i64)))).rep w v_aR_Table aR_Table) (r_aList : (Ty.sl (Ty.i .i64)).rep w v_aList aList) {res : Bool} (h : p_laws_FnExactSubringFrom aR_Table aList  = some res) :
    Ret Tryd.prog 5 #[(Value.agg #[v_aR_Table]), v_aList] w (fun v w' => v = Value.bool res ∧ Ext w w') := by
  unfold p_laws_FnExactSubringFrom at h
  have hS0 : St w w [] := St.start w
  refine Ret.start (fn := Tryd.f5) Tryd.func5 rfl 56 rfl rfl ?_
  refine W.seq (W.region ?_)
  refine WL.box hS0 rfl (cs := [v_aR_Table]) rfl rfl ?_
  intro b1 wd2 hS3 he4 hx5
  replace hS3 : St w wd2 [bx b1 [v_aR_Table]] := hS3
  have hx6 := St.boxAt hS3 0 rfl
  have hE7 : Ext w wd2 := hS3.ext
  have hS8 : St wd2 wd2 [] := St.start wd2
  refine WL.val (Value.bool false) _ (op_assign rfl) rfl ?_
  refine WL.nil ?_
  refine W.seq (W.seq (W.region ?_))
  refine WL.val v_aList _ (op_move rfl) rfl ?_
  have hr9 := inR_len (Ty.lift _ (Ext.trans hE7 hS8.ext) r_aList)
  refine WL.val (Value.int .i64 ((aList).length : Int)) _ (op_lenL sl_34 (Ty.lift _ (Ext.trans hE7 hS8.ext) r_aList) rfl) rfl ?_
  refine WL.val (Value.bool (decide (((aList).length : Int) > (1048576 : Int)))) _ (op_gtr rfl rfl) rfl ?_
  refine WL.nil ?_
  refine W.cond (decide (((aList).length : Int) > (1048576 : Int))) rfl (fun hc10 => ?_) (fun hc10 => ?_)
  · replace h := ip h hc10
    refine W.seq (W.region ?_)
    refine WL.val (Value.bool true) _ (op_assign rfl) rfl ?_
    refine WL.nil ?_
    refine W.ret ?_
    obtain rfl := Option.some.inj h
    show FinP _ _ _ _ _ _ _
    exact FinP.ret _ (res1 rfl rfl) ⟨rfl, (Ext.trans hE7 hS8.ext)⟩
  · replace h := inegb h hc10
    refine W.skip ?_
    refine W.seq (W.region ?_)
    refine WL.val (Value.int .i64 (1048576 : Int)) _ (op_assign rfl) rfl ?_
    refine WL.nil ?_
    refine W.seq (W.region ?_)
    refine WL.val (Value.agg #[v_aR_Table]) _ (op_loadBox st_24 rfl (BoxAt.lift hS8.ext hx6) rfl rfl) rfl ?_
    refine WL.val (Value.int .i64 (1048576 : Int)) _ (op_move rfl) rfl ?_
    obtain ⟨x12, hx13, h⟩ := bs h
    refine WL.call _ (op_call fn_9 (args2 rfl rfl)) (c_laws_szRing (Ty.lift _ (Ext.trans hE7 hS8.ext) r_aR_Table) (inL rfl) hx13) rfl ?_
    rintro _ wd15 ⟨rfl, hr14, he16⟩
    have hS18 := St.extend hS8 he16
    replace hS18 : St wd2 wd15 [] := hS18
    refine WL.val (Value.int .i64 x12) _ (op_assign rfl) rfl ?_
    refine WL.nil ?_
    refine W.seq (W.seq (W.region ?_))
    refine WL.val (Value.int .i64 x12) _ (op_move rfl) rfl ?_
    refine WL.val (Value.bool (decide (x12 < (0 : Int)))) _ (op_lss rfl rfl) rfl ?_
    refine WL.nil ?_
    refine W.cond (decide (x12 < (0 : Int))) rfl (fun hc19 => ?_) (fun hc19 => ?_)
    · replace h := ip h hc19
      refine W.seq (W.region ?_)
      refine WL.val (Value.bool true) _ (op_assign rfl) rfl ?_
      refine WL.nil ?_
      refine W.ret ?_
      obtain rfl := Option.some.inj h
      show FinP _ _ _ _ _ _ _
      exact FinP.ret _ (res1 rfl rfl) ⟨rfl, (Ext.trans hE7 hS18.ext)⟩
    · replace h := inegb h hc19
      refine W.skip ?_
      refine W.seq (W.region ?_)
      refine WL.val (Value.agg #[v_aR_Table]) _ (op_loadBox st_24 rfl (BoxAt.lift hS18.ext hx6) rfl rfl) rfl ?_
      obtain ⟨x21, hx22, h⟩ := bs h
      refine WL.call _ (op_call fn_11 (args1 rfl)) (c_laws_toRing (Ty.lift _ (Ext.trans hE7 hS18.ext) r_aR_Table) hx22) rfl ?_
      rintro _ wd24 ⟨u23, rfl, he25, hs26⟩
      have hS27 := St.join hS18 he25 hs26
      replace hS27 : St wd2 wd24 [(Ty.sl (Ty.sl (Ty.sl (Ty.i .i64)))).at u23 x21] := hS27
      have hb28 := St.rep (t := (Ty.sl (Ty.sl (Ty.sl (Ty.i .i64))))) hS27 0 rfl
      have hE29 : Ext w wd24 := (Ext.trans hE7 hS27.ext)
      have hE30 : Ext wd2 wd24 := hS27.ext
      have hS31 : St wd24 wd24 [] := St.start wd24
      refine WL.val v_aList _ (op_move rfl) rfl ?_
      obtain ⟨x32, hx33, h⟩ := bs h
      refine WL.call _ (op_call fn_17 (args1 rfl)) (c_laws_toInt64S (Ty.lift _ (Ext.trans hE29 hS31.ext) r_aList) hx33) rfl ?_
      rintro u34 wd35 ⟨_, rfl, he36, hs37⟩
      have hS38 := St.join hS31 he36 hs37
      replace hS38 : St wd24 wd35 [(Ty.sl (Ty.i .i64)).at u34 x32] := hS38
      have hb39 := St.rep (t := (Ty.sl (Ty.i .i64))) hS38 0 rfl
      have hE40 : Ext w wd35 := (Ext.trans hE29 hS38.ext)
      have hE41 : Ext wd2 wd35 := (Ext.trans hE30 hS38.ext)
      have hE42 : Ext wd24 wd35 := hS38.ext
      have hS43 : St wd35 wd35 [] := St.start wd35
      obtain ⟨x44, hx45, h⟩ := bs h
      refine WL.call _ (op_call fn_16 (args2 rfl rfl)) (c_spec_SubringFrom (Ty.lift _ (Ext.trans hE42 hS43.ext) hb28) (Ty.lift _ hS43.ext hb39) hx45) rfl ?_
      rintro _ wd48 ⟨rfl, hr46, hr47, he49⟩
      have hS51 := St.extend hS43 he49
      replace hS51 : St wd35 wd48 [] := hS51
      refine WL.val (Value.tuple #[(Value.int .i64 x44.1), (Value.int .i64 x44.2)]) _ (op_move rfl) rfl ?_
      refine WL.val (Value.int .i64 x44.1) _ (op_extract rfl rfl) rfl ?_
      refine WL.val (Value.int .i64 x44.2) _ (op_extract rfl rfl) rfl ?_
      refine WL.val (Value.int .i64 x44.1) _ (op_assign rfl) rfl ?_
      refine WL.val (Value.int .i64 x44.2) _ (op_assign rfl) rfl ?_
      refine WL.nil ?_
      refine W.seq (W.region ?_)
      refine WL.val (Value.agg #[v_aR_Table]) _ (op_loadBox st_24 rfl (BoxAt.lift (Ext.trans hE41 hS51.ext) hx6) rfl rfl) rfl ?_
      obtain ⟨x52, hx53, h⟩ := bs h
      refine WL.call _ (op_call fn_11 (args1 rfl)) (c_laws_toRing (Ty.lift _ (Ext.trans hE40 hS51.ext) r_aR_Table) hx53) rfl ?_
      rintro _ wd55 ⟨u54, rfl, he56, hs57⟩
      have hS58 := St.join hS51 he56 hs57
      replace hS58 : St wd35 wd55 [(Ty.sl (Ty.sl (Ty.sl (Ty.i .i64)))).at u54 x52] := hS58
      refine WL.alloc hS58 ze_28 (cs := [(Value.slice none 0 0)]) rfl rfl ?_
      intro b59 wd60 hS61 he62
      replace hS61 : St wd35 wd60 [(Ty.sl (Ty.sl (Ty.sl (Ty.i .i64)))).at u54 x52, bx b59 [(Value.slice none 0 0)]] := hS61
      refine WL.storeBox [u54] hS61 (k := 1) rfl rfl rfl (us := [u54]) rfl sz_28 rfl rfl (all_rep (St.rep (t := (Ty.sl (Ty.sl (Ty.sl (Ty.i .i64))))) hS61 0 rfl) all_nil) rfl ?_
      intro wd63 hS64
      replace hS64 : St wd35 wd63 [(Ty.sl (Ty.sl (Ty.sl (Ty.i .i64)))).at u54 x52, bx b59 [u54]] := hS64
      refine WL.nil ?_
      refine W.seq (W.region ?_)
      refine WL.val v_aList _ (op_move rfl) rfl ?_
      obtain ⟨x65, hx66, h⟩ := bs h
      refine WL.call _ (op_call fn_17 (args1 rfl)) (c_laws_toInt64S (Ty.lift _ (Ext.trans hE40 hS64.ext) r_aList) hx66) rfl ?_
      rintro u67 wd68 ⟨_, rfl, he69, hs70⟩
      have hS71 := St.join hS64 he69 hs70
      replace hS71 : St wd35 wd68 [(Ty.sl (Ty.sl (Ty.sl (Ty.i .i64)))).at u54 x52, bx b59 [u54], (Ty.sl (Ty.i .i64)).at u67 x65] := hS71
      refine WL.val u67 _ (op_assign rfl) rfl ?_
      refine WL.nil ?_
      refine W.seq (W.region ?_)
      refine WL.val (Value.agg #[u54]) _ (op_loadBox st_28 rfl (St.boxAt hS71 1 rfl) rfl rfl) rfl ?_
      refine WL.val u67 _ (op_move rfl) rfl ?_
      obtain ⟨x72, hx73, h⟩ := bs h
      refine WL.call _ (op_call fn_18 (args2 rfl rfl)) (c_impl_SubringFrom (tb.ext (Ext.trans hE40 hS71.ext)) (St.rep (t := (Ty.sl (Ty.sl (Ty.sl (Ty.i .i64))))) hS71 0 rfl) (St.rep (t := (Ty.sl (Ty.i .i64))) hS71 2 rfl) hx73) rfl ?_
      rintro _ wd76 ⟨rfl, hr74, hr75, he77⟩
      have hS79 := St.extend hS71 he77
      replace hS79 : St wd35 wd76 [(Ty.sl (Ty.sl (Ty.sl (Ty.i .i64)))).at u54 x52, bx b59 [u54], (Ty.sl (Ty.i .i64)).at u67 x65] := hS79
      refine WL.val (Value.tuple #[(Value.int .i64 x72.1), (Value.int .i64 x72.2)]) _ (op_move rfl) rfl ?_
      refine WL.val (Value.int .i64 x72.1) _ (op_extract rfl rfl) rfl ?_
      refine WL.val (Value.int .i64 x72.2) _ (op_extract rfl rfl) rfl ?_
      refine WL.val (Value.int .i64 x72.1) _ (op_assign rfl) rfl ?_
      refine WL.val (Value.int .i64 x72.2) _ (op_assign rfl) rfl ?_
      refine WL.nil ?_
      refine W.seq (W.seq (W.region ?_))
      refine WL.val (Value.int .i64 x72.1) _ (op_move rfl) rfl ?_
      refine WL.val (Value.int .i64 x44.1) _ (op_move rfl) rfl ?_
      refine WL.val (Value.bool (x72.1 != x44.1)) _ (op_neq rfl rfl) rfl ?_
      refine WL.val (Value.bool (x72.1 != x44.1)) _ (op_move rfl) rfl ?_
      refine WL.cut 4 (fun fq wq => fq 1 = v_aList ∧ fq 2 = (Value.pointer (some ⟨b1, 0, none⟩)) ∧ fq 8 = (Value.pointer (some ⟨b59, 0, none⟩)) ∧ fq 9 = u67 ∧ fq 45 = (Value.bool ((x72.1 != x44.1) || (x72.2 != x44.2))) ∧ St wd35 wq [(Ty.sl (Ty.sl (Ty.sl (Ty.i .i64)))).at u54 x52, bx b59 [u54], (Ty.sl (Ty.i .i64)).at u67 x65]) ?_ ?_
      · rcases Bool.eq_false_or_eq_true (x72.1 != x44.1) with hc80 | hc80
        · refine WL.gskip rfl (bool_of rfl hc80) rfl ?_
          refine WL.gskip rfl (bool_of rfl hc80) rfl ?_
          refine WL.gskip rfl (bool_of rfl hc80) rfl ?_
          refine WL.val (Value.bool true) _ (op_pick_t (evb_of rfl hc80) rfl) rfl ?_
          refine WL.nil ?_
          exact ⟨rfl, rfl, rfl, rfl, rfl, (orT hc80), hS79⟩
        · refine WL.grun rfl (bool_of rfl hc80) ?_
          refine WL.val (Value.int .i64 x72.2) _ (op_move rfl) rfl ?_
          refine WL.grun rfl (bool_of rfl hc80) ?_
          refine WL.val (Value.int .i64 x44.2) _ (op_move rfl) rfl ?_
          refine WL.grun rfl (bool_of rfl hc80) ?_
          refine WL.val (Value.bool (x72.2 != x44.2)) _ (op_neq rfl rfl) rfl ?_
          refine WL.val (Value.bool (x72.2 != x44.2)) _ (op_pick_f (evb_of rfl hc80) rfl) rfl ?_
          refine WL.nil ?_
          exact ⟨rfl, rfl, rfl, rfl, rfl, (orF hc80), hS79⟩
      · intro f81 wd82 hq83
        obtain ⟨hf84, hf85, hf86, hf87, hf88, hS89⟩ := hq83
        refine WL.nil ?_
        refine W.cond ((x72.1 != x44.1) || (x72.2 != x44.2)) hf88 (fun hc90 => ?_) (fun hc90 => ?_)
        · replace h := ip h hc90
          refine W.seq (W.region ?_)
          refine WL.val (Value.bool false) _ (op_assign rfl) rfl ?_
          refine WL.nil ?_
          refine W.ret ?_
          obtain rfl := Option.some.inj h
          show FinP _ _ _ _ _ _ _
          exact FinP.ret _ (res1 rfl rfl) ⟨rfl, (Ext.trans hE40 hS89.ext)⟩
        · replace h := inegb h hc90
          refine W.skip ?_
          refine W.seq (W.seq ?_)
          obtain ⟨x116, hx117, h⟩ := bs h
          refine W.drawR mixo 3 [] [fun _ v S w' => v = (Value.agg #[u54]), fun _ v S w' => v = (Value.agg #[v_aR_Table]), fun _ v S w' => ∃ (uu0 : Value), v = (Value.agg #[uu0]) ∧ SepS S w' [(Ty.sl (Ty.sl (Ty.sl (Ty.i .i64)))).at uu0 x116]] (by kernel_rfl) (by kernel_rfl) ⟨pk, pk, ⟨fun _ _ _ _ _ he ⟨uu0, h0, r0⟩ => ⟨uu0, h0, SepS.extend he r0⟩, fun _ _ _ _ _ _ h => h⟩, trivial⟩ ⟨?_, ?_, ?_, trivial⟩ ?_
          · refine ObX.op rfl fun f92 wd93 he94 hout95 hphi96 => ?_
            have hS97 := St.extend hS89 he94
            have e98 : f92 8 = (Value.pointer (some ⟨b59, 0, none⟩)) := (hout95 8 rfl).trans hf86
            exact OpX.val (Value.agg #[u54]) wd93 rfl (op_loadBox st_28 e98 (St.boxAt hS97 1 rfl) rfl rfl) (Ext.refl _) rfl
          · refine ObX.op rfl fun f99 wd100 he101 hout102 hphi103 => ?_
            have hS104 := St.extend hS89 he101
            have e105 : f99 2 = (Value.pointer (some ⟨b1, 0, none⟩)) := (hout102 2 rfl).trans hf85
            exact OpX.val (Value.agg #[v_aR_Table]) wd100 rfl (op_loadBox st_24 e105 (BoxAt.lift (Ext.trans hE41 hS104.ext) hx6) rfl rfl) (Ext.refl _) rfl
          · refine ObX.op rfl fun f106 wd107 he108 hout109 hphi110 => ?_
            have hS111 := St.extend hS89 he108
            obtain ⟨S112, hS113, hf114⟩ := hphi110 1 47 _ rfl rfl rfl
            have e115 : f106 47 = (Value.agg #[v_aR_Table]) := hf114
            refine OpX.call rfl (op_call fn_11 (args1 e115)) (Ret.mono (c_laws_toRing (Ty.lift _ (Ext.trans hE40 hS111.ext) r_aR_Table) hx117) ?_)
            rintro _ wd119 ⟨u118, rfl, he120, hs121⟩
            exact ⟨he120, _, newS _ _, ⟨u118, rfl, (Sep.new hs121)⟩⟩
          · intro f122 wd123 Ss124 he125 hout126 hSn127 hSd128 hphi129
            show WL _ _ _ _ _ _ _
            have e131 : f122 46 = (Value.agg #[u54]) := hphi129 0 46 _ (by decide) rfl rfl
            obtain ⟨u133, e132, e132s⟩ := hphi129 2 48 _ (by decide) rfl rfl
            have e134 : f122 1 = v_aList := (hout126 1 rfl).trans hf84
            have e135 : f122 9 = u67 := (hout126 9 rfl).trans hf87
            have hS136 := St.joinS hS89 he125 hSn127 (SepS.consS hSd128 rfl e132s SepS.nilS)
            replace hS136 : St wd35 wd123 [(Ty.sl (Ty.sl (Ty.sl (Ty.i .i64)))).at u54 x52, bx b59 [u54], (Ty.sl (Ty.i .i64)).at u67 x65, (Ty.sl (Ty.sl (Ty.sl (Ty.i .i64)))).at u133 x116] := hS136
            obtain ⟨x137, hx138, h⟩ := bs h
            refine WL.call _ (op_call fn_13 (args2 e131 e132)) (c_laws_eqRing (St.rep (t := (Ty.sl (Ty.sl (Ty.sl (Ty.i .i64))))) hS136 0 rfl) (St.rep (t := (Ty.sl (Ty.sl (Ty.sl (Ty.i .i64))))) hS136 3 rfl) hx138) rfl ?_
            rintro _ wd139 ⟨rfl, he140⟩
            have hS142 := St.extend hS136 he140
            replace hS142 : St wd35 wd139 [(Ty.sl (Ty.sl (Ty.sl (Ty.i .i64)))).at u54 x52, bx b59 [u54], (Ty.sl (Ty.i .i64)).at u67 x65, (Ty.sl (Ty.sl (Ty.sl (Ty.i .i64)))).at u133 x116] := hS142
            refine WL.val (Value.bool (!x137)) _ (op_not rfl) rfl ?_
            refine WL.nil ?_
            refine W.cond (!x137) rfl (fun hc143 => ?_) (fun hc143 => ?_)
            · replace h := ip h hc143
              refine W.seq (W.region ?_)
              refine WL.val (Value.bool false) _ (op_assign rfl) rfl ?_
              refine WL.nil ?_
              refine W.ret ?_
              obtain rfl := Option.some.inj h
              show FinP _ _ _ _ _ _ _
              exact FinP.ret _ (res1 rfl rfl) ⟨rfl, (Ext.trans hE40 hS142.ext)⟩
            · replace h := inegb h hc143
              refine W.skip ?_
              refine W.seq (W.seq (W.region ?_))
              refine WL.val u67 _ (op_move e135) rfl ?_
              refine WL.val v_aList _ (op_move e134) rfl ?_
              obtain ⟨x145, hx146, h⟩ := bs h
              refine WL.call _ (op_call fn_17 (args1 rfl)) (c_laws_toInt64S (Ty.lift _ (Ext.trans hE40 hS142.ext) r_aList) hx146) rfl ?_
              rintro u147 wd148 ⟨_, rfl, he149, hs150⟩
              have hS151 := St.join hS142 he149 hs150
              replace hS151 : St wd35 wd148 [(Ty.sl (Ty.sl (Ty.sl (Ty.i .i64)))).at u54 x52, bx b59 [u54], (Ty.sl (Ty.i .i64)).at u67 x65, (Ty.sl (Ty.sl (Ty.sl (Ty.i .i64)))).at u133 x116, (Ty.sl (Ty.i .i64)).at u147 x145] := hS151
              obtain ⟨x152, hx153, h⟩ := bs h
              refine WL.call _ (op_call fn_19 (args2 rfl rfl)) (c_laws_eqInt64S (St.rep (t := (Ty.sl (Ty.i .i64))) hS151 2 rfl) (St.rep (t := (Ty.sl (Ty.i .i64))) hS151 4 rfl) hx153) rfl ?_
              rintro _ wd154 ⟨rfl, he155⟩
              have hS157 := St.extend hS151 he155
              replace hS157 : St wd35 wd154 [(Ty.sl (Ty.sl (Ty.sl (Ty.i .i64)))).at u54 x52, bx b59 [u54], (Ty.sl (Ty.i .i64)).at u67 x65, (Ty.sl (Ty.sl (Ty.sl (Ty.i .i64)))).at u133 x116, (Ty.sl (Ty.i .i64)).at u147 x145] := hS157
              refine WL.val (Value.bool (!x152)) _ (op_not rfl) rfl ?_
              refine WL.nil ?_
              refine W.cond (!x152) rfl (fun hc158 => ?_) (fun hc158 => ?_)
              · replace h := ip h hc158
                refine W.seq (W.region ?_)
                refine WL.val (Value.bool false) _ (op_assign rfl) rfl ?_
                refine WL.nil ?_
                refine W.ret ?_
                obtain rfl := Option.some.inj h
                show FinP _ _ _ _ _ _ _
                exact FinP.ret _ (res1 rfl rfl) ⟨rfl, (Ext.trans hE40 hS157.ext)⟩
              · replace h := inegb h hc158
                refine W.skip ?_
                refine W.seq (W.region ?_)
                refine WL.val (Value.bool true) _ (op_assign rfl) rfl ?_
                refine WL.nil ?_
                refine W.ret ?_
                obtain rfl := Option.some.inj h
                show FinP _ _ _ _ _ _ _
                exact FinP.ret _ (res1 rfl rfl) ⟨rfl, (Ext.trans hE40 hS157.ext)⟩

end Go.VG
