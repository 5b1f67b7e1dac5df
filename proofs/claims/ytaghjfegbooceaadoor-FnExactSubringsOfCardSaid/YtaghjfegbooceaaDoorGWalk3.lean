/- The walks, part 3: each Go function returns what its plain twin returns. No condition beyond what each names. -/
import Derived.Test.YtaghjfegbooceaaDoorGWalk2
set_option linter.all false
namespace Go.VG
open Go.Proofs
attribute [local irreducible] W WL Sep FinP

theorem c_laws_eqInt64S {w : World} {a : (List Int)} {v_a : Value} {b : (List Int)} {v_b : Value} (r_a : (Ty.sl (Ty.i .i64)).rep w v_a a) (r_b : (Ty.sl (Ty.i .i64)).rep w v_b b) {res : Bool} (h : p_laws_eqInt64S a b  = some res) :
    Ret Tryd.prog 17 #[v_a, v_b] w (fun v w' => v = Value.bool res ∧ Ext w w') := by
  unfold p_laws_eqInt64S at h
  have hS0 : St w w [] := St.start w
  refine Ret.start (fn := Tryd.f17) Tryd.func17 rfl 26 rfl rfl ?_
  refine W.seq (W.region ?_)
  refine WL.val (Value.bool false) _ (op_assign rfl) rfl ?_
  refine WL.nil ?_
  refine W.seq (W.seq (W.region ?_))
  refine WL.val v_a _ (op_move rfl) rfl ?_
  have hr1 := inR_len (Ty.lift _ hS0.ext r_a)
  refine WL.val (Value.int .i64 ((a).length : Int)) _ (op_lenL sl_33 (Ty.lift _ hS0.ext r_a) rfl) rfl ?_
  refine WL.val v_b _ (op_move rfl) rfl ?_
  have hr2 := inR_len (Ty.lift _ hS0.ext r_b)
  refine WL.val (Value.int .i64 ((b).length : Int)) _ (op_lenL sl_33 (Ty.lift _ hS0.ext r_b) rfl) rfl ?_
  refine WL.val (Value.bool (((a).length : Int) != ((b).length : Int))) _ (op_neq rfl rfl) rfl ?_
  refine WL.nil ?_
  refine W.cond (((a).length : Int) != ((b).length : Int)) rfl (fun hc3 => ?_) (fun hc3 => ?_)
  · replace h := ip h hc3
    refine W.seq (W.region ?_)
    refine WL.val (Value.bool false) _ (op_assign rfl) rfl ?_
    refine WL.nil ?_
    refine W.ret ?_
    obtain rfl := Option.some.inj h
    show FinP _ _ _ _ _ _ _
    exact FinP.ret _ (res1 rfl rfl) ⟨rfl, hS0.ext⟩
  · replace h := inegb h hc3
    refine W.skip ?_
    refine W.seq (W.seq (W.region ?_))
    refine WL.val (Value.int .i64 (0 : Int)) _ (op_assign rfl) rfl ?_
    refine WL.nil ?_
    show W _ _ _ _ _ _
    obtain ⟨res5, hres6, h⟩ := bs h
    refine W.blockLoop (fun fq wq => ∃ s, res5 = Res.fin s ∧ St w wq []) ?_ ?_
    · refine W.forN (fun k (s : Unit) fq wq => fq 0 = v_a ∧ fq 1 = v_b ∧ fq 5 = Value.int .i64 (k : Int) ∧ InR .i64 (k : Int) ∧ St w wq []) hres6 ⟨rfl, rfl, rfl, (inL rfl), hS0⟩ ?_ ?_
      · intro k7 s134 ct8 f9 wd10 hk11 hb12 hI13 hbrk14 hret15
        obtain ⟨⟩ := s134
        replace hI13 : f9 0 = v_a ∧ f9 1 = v_b ∧ f9 5 = Value.int .i64 (k7 : Int) ∧ InR .i64 (k7 : Int) ∧ St w wd10 [] := hI13
        replace hb12 : p_laws_eqInt64S_L1 a b k7  = some ct8 := hb12
        unfold p_laws_eqInt64S_L1 at hb12
        obtain ⟨hf16, hf17, hf18, hr19, hS20⟩ := hI13
        refine W.seq (W.seq (W.region ?_))
        refine WL.val (Value.int .i64 (k7 : Int)) _ (op_move hf18) rfl ?_
        refine WL.val v_a _ (op_move hf16) rfl ?_
        have hr21 := inR_len (Ty.lift _ hS20.ext r_a)
        refine WL.val (Value.int .i64 ((a).length : Int)) _ (op_lenL sl_33 (Ty.lift _ hS20.ext r_a) rfl) rfl ?_
        refine WL.val (Value.bool (decide ((k7 : Int) < ((a).length : Int)))) _ (op_lss rfl rfl) rfl ?_
        have hl22 : (k7 : Int) < ((a).length : Int) := by omega
        refine WL.nil ?_
        refine W.condT (decide ((k7 : Int) < ((a).length : Int))) rfl (decide_eq_true hl22) ?_
        refine W.skip ?_
        refine W.seq ?_
        refine W.block ?_
        refine W.seq ?_
        obtain ⟨x53, hx56, hb12⟩ := bs hb12
        obtain ⟨ha54, hb55, hx56⟩ := idx_some hx56
        obtain ⟨u67, hc68, hr69⟩ := repSl.el r_a hx56
        obtain ⟨rfl, hr69⟩ := hr69
        obtain ⟨x99, hx102, hb12⟩ := bs hb12
        obtain ⟨ha100, hb101, hx102⟩ := idx_some hx102
        obtain ⟨u113, hc114, hr115⟩ := repSl.el r_b hx102
        obtain ⟨rfl, hr115⟩ := hr115
        refine W.drawR mixo 8 [] [fun _ v _ _ => v = v_a, fun _ v _ _ => v = (Value.int .i64 (k7 : Int)) ∧ InR .i64 (k7 : Int), fun _ v _ _ => v = (Value.pointer (some (elA v_a ((k7 : Int)).toNat))), fun _ v _ _ => v = (Value.int .i64 x53) ∧ InR .i64 x53, fun _ v _ _ => v = v_b, fun _ v _ _ => v = (Value.int .i64 (k7 : Int)) ∧ InR .i64 (k7 : Int), fun _ v _ _ => v = (Value.pointer (some (elA v_b ((k7 : Int)).toNat))), fun _ v _ _ => v = (Value.int .i64 x99) ∧ InR .i64 x99] (by kernel_rfl) (by kernel_rfl) ⟨pk, pk, pk, pk, pk, pk, pk, pk, trivial⟩ ⟨?_, ?_, ?_, ?_, ?_, ?_, ?_, ?_, trivial⟩ ?_
        · refine ObX.op rfl fun f24 wd25 he26 hout27 hphi28 => ?_
          have e30 : f24 0 = v_a := (hout27 0 rfl).trans hf16
          exact OpX.val v_a wd25 rfl (op_move e30) (Ext.refl _) rfl
        · refine ObX.op rfl fun f31 wd32 he33 hout34 hphi35 => ?_
          have e37 : f31 5 = (Value.int .i64 (k7 : Int)) := (hout34 5 rfl).trans hf18
          exact OpX.val (Value.int .i64 (k7 : Int)) wd32 rfl (op_move e37) (Ext.refl _) ⟨rfl, hr19⟩
        · refine ObX.op rfl fun f38 wd39 he40 hout41 hphi42 => ?_
          have hS43 := St.extend hS20 he40
          obtain ⟨S44, hS45, hf46⟩ := hphi42 0 17 _ rfl rfl rfl
          have e47 : f38 17 = v_a := hf46
          obtain ⟨S48, hS49, hf50⟩ := hphi42 1 18 _ rfl rfl rfl
          obtain ⟨e51, hr52⟩ := hf50
          exact OpX.val (Value.pointer (some (elA v_a ((k7 : Int)).toNat))) wd39 rfl (op_idx sl_33 (Ty.lift _ hS43.ext r_a) e47 e51 ha54 hb55) (Ext.refl _) rfl
        · refine ObX.op rfl fun f57 wd58 he59 hout60 hphi61 => ?_
          have hS62 := St.extend hS20 he59
          obtain ⟨S63, hS64, hf65⟩ := hphi61 2 19 _ rfl rfl rfl
          have e66 : f57 19 = (Value.pointer (some (elA v_a ((k7 : Int)).toNat))) := hf65
          exact OpX.val (Value.int .i64 x53) wd58 rfl (op_load one_2 e66 (Ext.cell hS62.ext hc68)) (Ext.refl _) ⟨rfl, hr69⟩
        · refine ObX.op rfl fun f70 wd71 he72 hout73 hphi74 => ?_
          have e76 : f70 1 = v_b := (hout73 1 rfl).trans hf17
          exact OpX.val v_b wd71 rfl (op_move e76) (Ext.refl _) rfl
        · refine ObX.op rfl fun f77 wd78 he79 hout80 hphi81 => ?_
          have e83 : f77 5 = (Value.int .i64 (k7 : Int)) := (hout80 5 rfl).trans hf18
          exact OpX.val (Value.int .i64 (k7 : Int)) wd78 rfl (op_move e83) (Ext.refl _) ⟨rfl, hr19⟩
        · refine ObX.op rfl fun f84 wd85 he86 hout87 hphi88 => ?_
          have hS89 := St.extend hS20 he86
          obtain ⟨S90, hS91, hf92⟩ := hphi88 4 21 _ rfl rfl rfl
          have e93 : f84 21 = v_b := hf92
          obtain ⟨S94, hS95, hf96⟩ := hphi88 5 22 _ rfl rfl rfl
          obtain ⟨e97, hr98⟩ := hf96
          exact OpX.val (Value.pointer (some (elA v_b ((k7 : Int)).toNat))) wd85 rfl (op_idx sl_33 (Ty.lift _ hS89.ext r_b) e93 e97 ha100 hb101) (Ext.refl _) rfl
        · refine ObX.op rfl fun f103 wd104 he105 hout106 hphi107 => ?_
          have hS108 := St.extend hS20 he105
          obtain ⟨S109, hS110, hf111⟩ := hphi107 6 23 _ rfl rfl rfl
          have e112 : f103 23 = (Value.pointer (some (elA v_b ((k7 : Int)).toNat))) := hf111
          exact OpX.val (Value.int .i64 x99) wd104 rfl (op_load one_2 e112 (Ext.cell hS108.ext hc114)) (Ext.refl _) ⟨rfl, hr115⟩
        · intro f116 wd117 Ss118 he119 hout120 hSn121 hSd122 hphi123
          show WL _ _ _ _ _ _ _
          have hS124 := St.extend hS20 he119
          obtain ⟨e125, hr126⟩ := hphi123 3 20 _ (by decide) rfl rfl
          obtain ⟨e127, hr128⟩ := hphi123 7 24 _ (by decide) rfl rfl
          have e129 : f116 0 = v_a := (hout120 0 rfl).trans hf16
          have e130 : f116 1 = v_b := (hout120 1 rfl).trans hf17
          have e131 : f116 5 = (Value.int .i64 (k7 : Int)) := (hout120 5 rfl).trans hf18
          refine WL.val (Value.bool (x53 != x99)) _ (op_neq e125 e127) rfl ?_
          refine WL.nil ?_
          refine W.cond (x53 != x99) rfl (fun hc132 => ?_) (fun hc132 => ?_)
          · replace hb12 := ip hb12 hc132
            refine W.seq (W.region ?_)
            refine WL.val (Value.bool false) _ (op_assign rfl) rfl ?_
            refine WL.nil ?_
            refine W.ret ?_
            obtain rfl := Option.some.inj hb12
            obtain rfl := hret15 _ rfl
            replace h := onRes_ret h
            obtain rfl := Option.some.inj h
            show FinP _ _ _ _ _ _ _
            exact FinP.ret _ (res1 rfl rfl) ⟨rfl, hS124.ext⟩
          · replace hb12 := inegb hb12 hc132
            refine W.skip ?_
            show W _ _ _ _ _ _
            refine W.region ?_
            refine WL.val (Value.int .i64 (k7 : Int)) _ (op_move e131) rfl ?_
            refine WL.val (Value.int .i64 (w64 ((k7 : Int) + (1 : Int)))) _ (op_add rfl rfl) rfl ?_
            refine WL.val (Value.int .i64 (w64 ((k7 : Int) + (1 : Int)))) _ (op_assign rfl) rfl ?_
            refine WL.nil ?_
            obtain rfl := Option.some.inj hb12
            show ∃ s, _ = Ctl.next s ∧ _
            exact ⟨_, rfl, e129, e130, (ctr_next hl22 hr21), (ctr_rng hl22 hr21), hS124⟩
      · intro s139 f135 wd136 hs137 hI138
        obtain ⟨⟩ := s139
        replace hI138 : f135 0 = v_a ∧ f135 1 = v_b ∧ f135 5 = Value.int .i64 (((a).length : Nat) : Int) ∧ InR .i64 (((a).length : Nat) : Int) ∧ St w wd136 [] := hI138
        obtain ⟨hf140, hf141, hf142, hr143, hS144⟩ := hI138
        refine W.seq (W.seq (W.region ?_))
        refine WL.val (Value.int .i64 (((a).length : Nat) : Int)) _ (op_move hf142) rfl ?_
        refine WL.val v_a _ (op_move hf140) rfl ?_
        have hr145 := inR_len (Ty.lift _ hS144.ext r_a)
        refine WL.val (Value.int .i64 ((a).length : Int)) _ (op_lenL sl_33 (Ty.lift _ hS144.ext r_a) rfl) rfl ?_
        refine WL.val (Value.bool (decide ((((a).length : Nat) : Int) < ((a).length : Int)))) _ (op_lss rfl rfl) rfl ?_
        have hl146 : ¬ (((a).length : Nat) : Int) < ((a).length : Int) := by omega
        refine WL.nil ?_
        refine W.condF (decide ((((a).length : Nat) : Int) < ((a).length : Int))) rfl (decide_eq_false hl146) ?_
        refine W.exit ?_
        show _ = _ ∧ _
        exact ⟨rfl, _, hs137, hS144⟩
    · rintro f147 wd148 ⟨s150, rfl, hq149⟩
      replace h := onRes_fin h
      obtain ⟨⟩ := s150
      replace hq149 : St w wd148 [] := hq149
      have hS151 := hq149
      refine W.seq (W.region ?_)
      refine WL.val (Value.bool true) _ (op_assign rfl) rfl ?_
      refine WL.nil ?_
      refine W.ret ?_
      obtain rfl := Option.some.inj h
      show FinP _ _ _ _ _ _ _
      exact FinP.ret _ (res1 rfl rfl) ⟨rfl, hS151.ext⟩

theorem c_laws_eqInt64SS {w : World} {a : (List (List Int))} {v_a : Value} {b : (List (List Int))} {v_b : Value} (r_a : (Ty.sl (Ty.sl (Ty.i .i64))).rep w v_a a) (r_b : (Ty.sl (Ty.sl (Ty.i .i64))).rep w v_b b) {res : Bool} (h : p_laws_eqInt64SS a b  = some res) :
    Ret Tryd.prog 24 #[v_a, v_b] w (fun v w' => v = Value.bool res ∧ Ext w w') := by
  unfold p_laws_eqInt64SS at h
  have hS0 : St w w [] := St.start w
  refine Ret.start (fn := Tryd.f24) Tryd.func24 rfl 27 rfl rfl ?_
  refine W.seq (W.region ?_)
  refine WL.val (Value.bool false) _ (op_assign rfl) rfl ?_
  refine WL.nil ?_
  refine W.seq (W.seq (W.region ?_))
  refine WL.val v_a _ (op_move rfl) rfl ?_
  have hr1 := inR_len (Ty.lift _ hS0.ext r_a)
  refine WL.val (Value.int .i64 ((a).length : Int)) _ (op_lenL sl_41 (Ty.lift _ hS0.ext r_a) rfl) rfl ?_
  refine WL.val v_b _ (op_move rfl) rfl ?_
  have hr2 := inR_len (Ty.lift _ hS0.ext r_b)
  refine WL.val (Value.int .i64 ((b).length : Int)) _ (op_lenL sl_41 (Ty.lift _ hS0.ext r_b) rfl) rfl ?_
  refine WL.val (Value.bool (((a).length : Int) != ((b).length : Int))) _ (op_neq rfl rfl) rfl ?_
  refine WL.nil ?_
  refine W.cond (((a).length : Int) != ((b).length : Int)) rfl (fun hc3 => ?_) (fun hc3 => ?_)
  · replace h := ip h hc3
    refine W.seq (W.region ?_)
    refine WL.val (Value.bool false) _ (op_assign rfl) rfl ?_
    refine WL.nil ?_
    refine W.ret ?_
    obtain rfl := Option.some.inj h
    show FinP _ _ _ _ _ _ _
    exact FinP.ret _ (res1 rfl rfl) ⟨rfl, hS0.ext⟩
  · replace h := inegb h hc3
    refine W.skip ?_
    refine W.seq (W.seq (W.region ?_))
    refine WL.val (Value.int .i64 (0 : Int)) _ (op_assign rfl) rfl ?_
    refine WL.nil ?_
    show W _ _ _ _ _ _
    obtain ⟨res5, hres6, h⟩ := bs h
    refine W.blockLoop (fun fq wq => ∃ s, res5 = Res.fin s ∧ St w wq []) ?_ ?_
    · refine W.forN (fun k (s : Unit) fq wq => fq 0 = v_a ∧ fq 1 = v_b ∧ fq 5 = Value.int .i64 (k : Int) ∧ InR .i64 (k : Int) ∧ St w wq []) hres6 ⟨rfl, rfl, rfl, (inL rfl), hS0⟩ ?_ ?_
      · intro k7 s138 ct8 f9 wd10 hk11 hb12 hI13 hbrk14 hret15
        obtain ⟨⟩ := s138
        replace hI13 : f9 0 = v_a ∧ f9 1 = v_b ∧ f9 5 = Value.int .i64 (k7 : Int) ∧ InR .i64 (k7 : Int) ∧ St w wd10 [] := hI13
        replace hb12 : p_laws_eqInt64SS_L1 a b k7  = some ct8 := hb12
        unfold p_laws_eqInt64SS_L1 at hb12
        obtain ⟨hf16, hf17, hf18, hr19, hS20⟩ := hI13
        refine W.seq (W.seq (W.region ?_))
        refine WL.val (Value.int .i64 (k7 : Int)) _ (op_move hf18) rfl ?_
        refine WL.val v_a _ (op_move hf16) rfl ?_
        have hr21 := inR_len (Ty.lift _ hS20.ext r_a)
        refine WL.val (Value.int .i64 ((a).length : Int)) _ (op_lenL sl_41 (Ty.lift _ hS20.ext r_a) rfl) rfl ?_
        refine WL.val (Value.bool (decide ((k7 : Int) < ((a).length : Int)))) _ (op_lss rfl rfl) rfl ?_
        have hl22 : (k7 : Int) < ((a).length : Int) := by omega
        refine WL.nil ?_
        refine W.condT (decide ((k7 : Int) < ((a).length : Int))) rfl (decide_eq_true hl22) ?_
        refine W.skip ?_
        refine W.seq ?_
        refine W.block ?_
        refine W.seq ?_
        obtain ⟨x53, hx56, hb12⟩ := bs hb12
        obtain ⟨ha54, hb55, hx56⟩ := idx_some hx56
        obtain ⟨u67, hc68, hr69⟩ := repSl.el r_a hx56
        obtain ⟨x99, hx102, hb12⟩ := bs hb12
        obtain ⟨ha100, hb101, hx102⟩ := idx_some hx102
        obtain ⟨u113, hc114, hr115⟩ := repSl.el r_b hx102
        refine W.drawR mixo 8 [] [fun _ v _ _ => v = v_a, fun _ v _ _ => v = (Value.int .i64 (k7 : Int)) ∧ InR .i64 (k7 : Int), fun _ v _ _ => v = (Value.pointer (some (elA v_a ((k7 : Int)).toNat))), fun _ v _ _ => v = u67, fun _ v _ _ => v = v_b, fun _ v _ _ => v = (Value.int .i64 (k7 : Int)) ∧ InR .i64 (k7 : Int), fun _ v _ _ => v = (Value.pointer (some (elA v_b ((k7 : Int)).toNat))), fun _ v _ _ => v = u113] (by kernel_rfl) (by kernel_rfl) ⟨pk, pk, pk, pk, pk, pk, pk, pk, trivial⟩ ⟨?_, ?_, ?_, ?_, ?_, ?_, ?_, ?_, trivial⟩ ?_
        · refine ObX.op rfl fun f24 wd25 he26 hout27 hphi28 => ?_
          have e30 : f24 0 = v_a := (hout27 0 rfl).trans hf16
          exact OpX.val v_a wd25 rfl (op_move e30) (Ext.refl _) rfl
        · refine ObX.op rfl fun f31 wd32 he33 hout34 hphi35 => ?_
          have e37 : f31 5 = (Value.int .i64 (k7 : Int)) := (hout34 5 rfl).trans hf18
          exact OpX.val (Value.int .i64 (k7 : Int)) wd32 rfl (op_move e37) (Ext.refl _) ⟨rfl, hr19⟩
        · refine ObX.op rfl fun f38 wd39 he40 hout41 hphi42 => ?_
          have hS43 := St.extend hS20 he40
          obtain ⟨S44, hS45, hf46⟩ := hphi42 0 17 _ rfl rfl rfl
          have e47 : f38 17 = v_a := hf46
          obtain ⟨S48, hS49, hf50⟩ := hphi42 1 18 _ rfl rfl rfl
          obtain ⟨e51, hr52⟩ := hf50
          exact OpX.val (Value.pointer (some (elA v_a ((k7 : Int)).toNat))) wd39 rfl (op_idx sl_41 (Ty.lift _ hS43.ext r_a) e47 e51 ha54 hb55) (Ext.refl _) rfl
        · refine ObX.op rfl fun f57 wd58 he59 hout60 hphi61 => ?_
          have hS62 := St.extend hS20 he59
          obtain ⟨S63, hS64, hf65⟩ := hphi61 2 19 _ rfl rfl rfl
          have e66 : f57 19 = (Value.pointer (some (elA v_a ((k7 : Int)).toNat))) := hf65
          exact OpX.val u67 wd58 rfl (op_load one_33 e66 (Ext.cell hS62.ext hc68)) (Ext.refl _) rfl
        · refine ObX.op rfl fun f70 wd71 he72 hout73 hphi74 => ?_
          have e76 : f70 1 = v_b := (hout73 1 rfl).trans hf17
          exact OpX.val v_b wd71 rfl (op_move e76) (Ext.refl _) rfl
        · refine ObX.op rfl fun f77 wd78 he79 hout80 hphi81 => ?_
          have e83 : f77 5 = (Value.int .i64 (k7 : Int)) := (hout80 5 rfl).trans hf18
          exact OpX.val (Value.int .i64 (k7 : Int)) wd78 rfl (op_move e83) (Ext.refl _) ⟨rfl, hr19⟩
        · refine ObX.op rfl fun f84 wd85 he86 hout87 hphi88 => ?_
          have hS89 := St.extend hS20 he86
          obtain ⟨S90, hS91, hf92⟩ := hphi88 4 21 _ rfl rfl rfl
          have e93 : f84 21 = v_b := hf92
          obtain ⟨S94, hS95, hf96⟩ := hphi88 5 22 _ rfl rfl rfl
          obtain ⟨e97, hr98⟩ := hf96
          exact OpX.val (Value.pointer (some (elA v_b ((k7 : Int)).toNat))) wd85 rfl (op_idx sl_41 (Ty.lift _ hS89.ext r_b) e93 e97 ha100 hb101) (Ext.refl _) rfl
        · refine ObX.op rfl fun f103 wd104 he105 hout106 hphi107 => ?_
          have hS108 := St.extend hS20 he105
          obtain ⟨S109, hS110, hf111⟩ := hphi107 6 23 _ rfl rfl rfl
          have e112 : f103 23 = (Value.pointer (some (elA v_b ((k7 : Int)).toNat))) := hf111
          exact OpX.val u113 wd104 rfl (op_load one_33 e112 (Ext.cell hS108.ext hc114)) (Ext.refl _) rfl
        · intro f116 wd117 Ss118 he119 hout120 hSn121 hSd122 hphi123
          show WL _ _ _ _ _ _ _
          have hS124 := St.extend hS20 he119
          have e125 : f116 20 = u67 := hphi123 3 20 _ (by decide) rfl rfl
          have e126 : f116 24 = u113 := hphi123 7 24 _ (by decide) rfl rfl
          have e127 : f116 0 = v_a := (hout120 0 rfl).trans hf16
          have e128 : f116 1 = v_b := (hout120 1 rfl).trans hf17
          have e129 : f116 5 = (Value.int .i64 (k7 : Int)) := (hout120 5 rfl).trans hf18
          obtain ⟨x130, hx131, hb12⟩ := bs hb12
          refine WL.call _ (op_call fn_17 (args2 e125 e126)) (c_laws_eqInt64S (Ty.lift _ hS124.ext hr69) (Ty.lift _ hS124.ext hr115) hx131) rfl ?_
          rintro _ wd132 ⟨rfl, he133⟩
          have hS135 := St.extend hS124 he133
          replace hS135 : St w wd132 [] := hS135
          refine WL.val (Value.bool (!x130)) _ (op_not rfl) rfl ?_
          refine WL.nil ?_
          refine W.cond (!x130) rfl (fun hc136 => ?_) (fun hc136 => ?_)
          · replace hb12 := ip hb12 hc136
            refine W.seq (W.region ?_)
            refine WL.val (Value.bool false) _ (op_assign rfl) rfl ?_
            refine WL.nil ?_
            refine W.ret ?_
            obtain rfl := Option.some.inj hb12
            obtain rfl := hret15 _ rfl
            replace h := onRes_ret h
            obtain rfl := Option.some.inj h
            show FinP _ _ _ _ _ _ _
            exact FinP.ret _ (res1 rfl rfl) ⟨rfl, hS135.ext⟩
          · replace hb12 := inegb hb12 hc136
            refine W.skip ?_
            show W _ _ _ _ _ _
            refine W.region ?_
            refine WL.val (Value.int .i64 (k7 : Int)) _ (op_move e129) rfl ?_
            refine WL.val (Value.int .i64 (w64 ((k7 : Int) + (1 : Int)))) _ (op_add rfl rfl) rfl ?_
            refine WL.val (Value.int .i64 (w64 ((k7 : Int) + (1 : Int)))) _ (op_assign rfl) rfl ?_
            refine WL.nil ?_
            obtain rfl := Option.some.inj hb12
            show ∃ s, _ = Ctl.next s ∧ _
            exact ⟨_, rfl, e127, e128, (ctr_next hl22 hr21), (ctr_rng hl22 hr21), hS135⟩
      · intro s143 f139 wd140 hs141 hI142
        obtain ⟨⟩ := s143
        replace hI142 : f139 0 = v_a ∧ f139 1 = v_b ∧ f139 5 = Value.int .i64 (((a).length : Nat) : Int) ∧ InR .i64 (((a).length : Nat) : Int) ∧ St w wd140 [] := hI142
        obtain ⟨hf144, hf145, hf146, hr147, hS148⟩ := hI142
        refine W.seq (W.seq (W.region ?_))
        refine WL.val (Value.int .i64 (((a).length : Nat) : Int)) _ (op_move hf146) rfl ?_
        refine WL.val v_a _ (op_move hf144) rfl ?_
        have hr149 := inR_len (Ty.lift _ hS148.ext r_a)
        refine WL.val (Value.int .i64 ((a).length : Int)) _ (op_lenL sl_41 (Ty.lift _ hS148.ext r_a) rfl) rfl ?_
        refine WL.val (Value.bool (decide ((((a).length : Nat) : Int) < ((a).length : Int)))) _ (op_lss rfl rfl) rfl ?_
        have hl150 : ¬ (((a).length : Nat) : Int) < ((a).length : Int) := by omega
        refine WL.nil ?_
        refine W.condF (decide ((((a).length : Nat) : Int) < ((a).length : Int))) rfl (decide_eq_false hl150) ?_
        refine W.exit ?_
        show _ = _ ∧ _
        exact ⟨rfl, _, hs141, hS148⟩
    · rintro f151 wd152 ⟨s154, rfl, hq153⟩
      replace h := onRes_fin h
      obtain ⟨⟩ := s154
      replace hq153 : St w wd152 [] := hq153
      have hS155 := hq153
      refine W.seq (W.region ?_)
      refine WL.val (Value.bool true) _ (op_assign rfl) rfl ?_
      refine WL.nil ?_
      refine W.ret ?_
      obtain rfl := Option.some.inj h
      show FinP _ _ _ _ _ _ _
      exact FinP.ret _ (res1 rfl rfl) ⟨rfl, hS155.ext⟩

theorem c_laws_eqInt64SSS {w : World} {a : (List (List (List Int)))} {v_a : Value} {b : (List (List (List Int)))} {v_b : Value} (r_a : (Ty.sl (Ty.sl (Ty.sl (Ty.i .i64)))).rep w v_a a) (r_b : (Ty.sl (Ty.sl (Ty.sl (Ty.i .i64)))).rep w v_b b) {res : Bool} (h : p_laws_eqInt64SSS a b  = some res) :
    Ret Tryd.prog 37 #[v_a, v_b] w (fun v w' => v = Value.bool res ∧ Ext w w') := by
  unfold p_laws_eqInt64SSS at h
  have hS0 : St w w [] := St.start w
  refine Ret.start (fn := Tryd.f37) Tryd.func37 rfl 27 rfl rfl ?_
  refine W.seq (W.region ?_)
  refine WL.val (Value.bool false) _ (op_assign rfl) rfl ?_
  refine WL.nil ?_
  refine W.seq (W.seq (W.region ?_))
  refine WL.val v_a _ (op_move rfl) rfl ?_
  have hr1 := inR_len (Ty.lift _ hS0.ext r_a)
  refine WL.val (Value.int .i64 ((a).length : Int)) _ (op_lenL sl_22 (Ty.lift _ hS0.ext r_a) rfl) rfl ?_
  refine WL.val v_b _ (op_move rfl) rfl ?_
  have hr2 := inR_len (Ty.lift _ hS0.ext r_b)
  refine WL.val (Value.int .i64 ((b).length : Int)) _ (op_lenL sl_22 (Ty.lift _ hS0.ext r_b) rfl) rfl ?_
  refine WL.val (Value.bool (((a).length : Int) != ((b).length : Int))) _ (op_neq rfl rfl) rfl ?_
  refine WL.nil ?_
  refine W.cond (((a).length : Int) != ((b).length : Int)) rfl (fun hc3 => ?_) (fun hc3 => ?_)
  · replace h := ip h hc3
    refine W.seq (W.region ?_)
    refine WL.val (Value.bool false) _ (op_assign rfl) rfl ?_
    refine WL.nil ?_
    refine W.ret ?_
    obtain rfl := Option.some.inj h
    show FinP _ _ _ _ _ _ _
    exact FinP.ret _ (res1 rfl rfl) ⟨rfl, hS0.ext⟩
  · replace h := inegb h hc3
    refine W.skip ?_
    refine W.seq (W.seq (W.region ?_))
    refine WL.val (Value.int .i64 (0 : Int)) _ (op_assign rfl) rfl ?_
    refine WL.nil ?_
    show W _ _ _ _ _ _
    obtain ⟨res5, hres6, h⟩ := bs h
    refine W.blockLoop (fun fq wq => ∃ s, res5 = Res.fin s ∧ St w wq []) ?_ ?_
    · refine W.forN (fun k (s : Unit) fq wq => fq 0 = v_a ∧ fq 1 = v_b ∧ fq 5 = Value.int .i64 (k : Int) ∧ InR .i64 (k : Int) ∧ St w wq []) hres6 ⟨rfl, rfl, rfl, (inL rfl), hS0⟩ ?_ ?_
      · intro k7 s138 ct8 f9 wd10 hk11 hb12 hI13 hbrk14 hret15
        obtain ⟨⟩ := s138
        replace hI13 : f9 0 = v_a ∧ f9 1 = v_b ∧ f9 5 = Value.int .i64 (k7 : Int) ∧ InR .i64 (k7 : Int) ∧ St w wd10 [] := hI13
        replace hb12 : p_laws_eqInt64SSS_L1 a b k7  = some ct8 := hb12
        unfold p_laws_eqInt64SSS_L1 at hb12
        obtain ⟨hf16, hf17, hf18, hr19, hS20⟩ := hI13
        refine W.seq (W.seq (W.region ?_))
        refine WL.val (Value.int .i64 (k7 : Int)) _ (op_move hf18) rfl ?_
        refine WL.val v_a _ (op_move hf16) rfl ?_
        have hr21 := inR_len (Ty.lift _ hS20.ext r_a)
        refine WL.val (Value.int .i64 ((a).length : Int)) _ (op_lenL sl_22 (Ty.lift _ hS20.ext r_a) rfl) rfl ?_
        refine WL.val (Value.bool (decide ((k7 : Int) < ((a).length : Int)))) _ (op_lss rfl rfl) rfl ?_
        have hl22 : (k7 : Int) < ((a).length : Int) := by omega
        refine WL.nil ?_
        refine W.condT (decide ((k7 : Int) < ((a).length : Int))) rfl (decide_eq_true hl22) ?_
        refine W.skip ?_
        refine W.seq ?_
        refine W.block ?_
        refine W.seq ?_
        obtain ⟨x53, hx56, hb12⟩ := bs hb12
        obtain ⟨ha54, hb55, hx56⟩ := idx_some hx56
        obtain ⟨u67, hc68, hr69⟩ := repSl.el r_a hx56
        obtain ⟨x99, hx102, hb12⟩ := bs hb12
        obtain ⟨ha100, hb101, hx102⟩ := idx_some hx102
        obtain ⟨u113, hc114, hr115⟩ := repSl.el r_b hx102
        refine W.drawR mixo 8 [] [fun _ v _ _ => v = v_a, fun _ v _ _ => v = (Value.int .i64 (k7 : Int)) ∧ InR .i64 (k7 : Int), fun _ v _ _ => v = (Value.pointer (some (elA v_a ((k7 : Int)).toNat))), fun _ v _ _ => v = u67, fun _ v _ _ => v = v_b, fun _ v _ _ => v = (Value.int .i64 (k7 : Int)) ∧ InR .i64 (k7 : Int), fun _ v _ _ => v = (Value.pointer (some (elA v_b ((k7 : Int)).toNat))), fun _ v _ _ => v = u113] (by kernel_rfl) (by kernel_rfl) ⟨pk, pk, pk, pk, pk, pk, pk, pk, trivial⟩ ⟨?_, ?_, ?_, ?_, ?_, ?_, ?_, ?_, trivial⟩ ?_
        · refine ObX.op rfl fun f24 wd25 he26 hout27 hphi28 => ?_
          have e30 : f24 0 = v_a := (hout27 0 rfl).trans hf16
          exact OpX.val v_a wd25 rfl (op_move e30) (Ext.refl _) rfl
        · refine ObX.op rfl fun f31 wd32 he33 hout34 hphi35 => ?_
          have e37 : f31 5 = (Value.int .i64 (k7 : Int)) := (hout34 5 rfl).trans hf18
          exact OpX.val (Value.int .i64 (k7 : Int)) wd32 rfl (op_move e37) (Ext.refl _) ⟨rfl, hr19⟩
        · refine ObX.op rfl fun f38 wd39 he40 hout41 hphi42 => ?_
          have hS43 := St.extend hS20 he40
          obtain ⟨S44, hS45, hf46⟩ := hphi42 0 17 _ rfl rfl rfl
          have e47 : f38 17 = v_a := hf46
          obtain ⟨S48, hS49, hf50⟩ := hphi42 1 18 _ rfl rfl rfl
          obtain ⟨e51, hr52⟩ := hf50
          exact OpX.val (Value.pointer (some (elA v_a ((k7 : Int)).toNat))) wd39 rfl (op_idx sl_22 (Ty.lift _ hS43.ext r_a) e47 e51 ha54 hb55) (Ext.refl _) rfl
        · refine ObX.op rfl fun f57 wd58 he59 hout60 hphi61 => ?_
          have hS62 := St.extend hS20 he59
          obtain ⟨S63, hS64, hf65⟩ := hphi61 2 19 _ rfl rfl rfl
          have e66 : f57 19 = (Value.pointer (some (elA v_a ((k7 : Int)).toNat))) := hf65
          exact OpX.val u67 wd58 rfl (op_load one_41 e66 (Ext.cell hS62.ext hc68)) (Ext.refl _) rfl
        · refine ObX.op rfl fun f70 wd71 he72 hout73 hphi74 => ?_
          have e76 : f70 1 = v_b := (hout73 1 rfl).trans hf17
          exact OpX.val v_b wd71 rfl (op_move e76) (Ext.refl _) rfl
        · refine ObX.op rfl fun f77 wd78 he79 hout80 hphi81 => ?_
          have e83 : f77 5 = (Value.int .i64 (k7 : Int)) := (hout80 5 rfl).trans hf18
          exact OpX.val (Value.int .i64 (k7 : Int)) wd78 rfl (op_move e83) (Ext.refl _) ⟨rfl, hr19⟩
        · refine ObX.op rfl fun f84 wd85 he86 hout87 hphi88 => ?_
          have hS89 := St.extend hS20 he86
          obtain ⟨S90, hS91, hf92⟩ := hphi88 4 21 _ rfl rfl rfl
          have e93 : f84 21 = v_b := hf92
          obtain ⟨S94, hS95, hf96⟩ := hphi88 5 22 _ rfl rfl rfl
          obtain ⟨e97, hr98⟩ := hf96
          exact OpX.val (Value.pointer (some (elA v_b ((k7 : Int)).toNat))) wd85 rfl (op_idx sl_22 (Ty.lift _ hS89.ext r_b) e93 e97 ha100 hb101) (Ext.refl _) rfl
        · refine ObX.op rfl fun f103 wd104 he105 hout106 hphi107 => ?_
          have hS108 := St.extend hS20 he105
          obtain ⟨S109, hS110, hf111⟩ := hphi107 6 23 _ rfl rfl rfl
          have e112 : f103 23 = (Value.pointer (some (elA v_b ((k7 : Int)).toNat))) := hf111
          exact OpX.val u113 wd104 rfl (op_load one_41 e112 (Ext.cell hS108.ext hc114)) (Ext.refl _) rfl
        · intro f116 wd117 Ss118 he119 hout120 hSn121 hSd122 hphi123
          show WL _ _ _ _ _ _ _
          have hS124 := St.extend hS20 he119
          have e125 : f116 20 = u67 := hphi123 3 20 _ (by decide) rfl rfl
          have e126 : f116 24 = u113 := hphi123 7 24 _ (by decide) rfl rfl
          have e127 : f116 0 = v_a := (hout120 0 rfl).trans hf16
          have e128 : f116 1 = v_b := (hout120 1 rfl).trans hf17
          have e129 : f116 5 = (Value.int .i64 (k7 : Int)) := (hout120 5 rfl).trans hf18
          obtain ⟨x130, hx131, hb12⟩ := bs hb12
          refine WL.call _ (op_call fn_24 (args2 e125 e126)) (c_laws_eqInt64SS (Ty.lift _ hS124.ext hr69) (Ty.lift _ hS124.ext hr115) hx131) rfl ?_
          rintro _ wd132 ⟨rfl, he133⟩
          have hS135 := St.extend hS124 he133
          replace hS135 : St w wd132 [] := hS135
          refine WL.val (Value.bool (!x130)) _ (op_not rfl) rfl ?_
          refine WL.nil ?_
          refine W.cond (!x130) rfl (fun hc136 => ?_) (fun hc136 => ?_)
          · replace hb12 := ip hb12 hc136
            refine W.seq (W.region ?_)
            refine WL.val (Value.bool false) _ (op_assign rfl) rfl ?_
            refine WL.nil ?_
            refine W.ret ?_
            obtain rfl := Option.some.inj hb12
            obtain rfl := hret15 _ rfl
            replace h := onRes_ret h
            obtain rfl := Option.some.inj h
            show FinP _ _ _ _ _ _ _
            exact FinP.ret _ (res1 rfl rfl) ⟨rfl, hS135.ext⟩
          · replace hb12 := inegb hb12 hc136
            refine W.skip ?_
            show W _ _ _ _ _ _
            refine W.region ?_
            refine WL.val (Value.int .i64 (k7 : Int)) _ (op_move e129) rfl ?_
            refine WL.val (Value.int .i64 (w64 ((k7 : Int) + (1 : Int)))) _ (op_add rfl rfl) rfl ?_
            refine WL.val (Value.int .i64 (w64 ((k7 : Int) + (1 : Int)))) _ (op_assign rfl) rfl ?_
            refine WL.nil ?_
            obtain rfl := Option.some.inj hb12
            show ∃ s, _ = Ctl.next s ∧ _
            exact ⟨_, rfl, e127, e128, (ctr_next hl22 hr21), (ctr_rng hl22 hr21), hS135⟩
      · intro s143 f139 wd140 hs141 hI142
        obtain ⟨⟩ := s143
        replace hI142 : f139 0 = v_a ∧ f139 1 = v_b ∧ f139 5 = Value.int .i64 (((a).length : Nat) : Int) ∧ InR .i64 (((a).length : Nat) : Int) ∧ St w wd140 [] := hI142
        obtain ⟨hf144, hf145, hf146, hr147, hS148⟩ := hI142
        refine W.seq (W.seq (W.region ?_))
        refine WL.val (Value.int .i64 (((a).length : Nat) : Int)) _ (op_move hf146) rfl ?_
        refine WL.val v_a _ (op_move hf144) rfl ?_
        have hr149 := inR_len (Ty.lift _ hS148.ext r_a)
        refine WL.val (Value.int .i64 ((a).length : Int)) _ (op_lenL sl_22 (Ty.lift _ hS148.ext r_a) rfl) rfl ?_
        refine WL.val (Value.bool (decide ((((a).length : Nat) : Int) < ((a).length : Int)))) _ (op_lss rfl rfl) rfl ?_
        have hl150 : ¬ (((a).length : Nat) : Int) < ((a).length : Int) := by omega
        refine WL.nil ?_
        refine W.condF (decide ((((a).length : Nat) : Int) < ((a).length : Int))) rfl (decide_eq_false hl150) ?_
        refine W.exit ?_
        show _ = _ ∧ _
        exact ⟨rfl, _, hs141, hS148⟩
    · rintro f151 wd152 ⟨s154, rfl, hq153⟩
      replace h := onRes_fin h
      obtain ⟨⟩ := s154
      replace hq153 : St w wd152 [] := hq153
      have hS155 := hq153
      refine W.seq (W.region ?_)
      refine WL.val (Value.bool true) _ (op_assign rfl) rfl ?_
      refine WL.nil ?_
      refine W.ret ?_
      obtain rfl := Option.some.inj h
      show FinP _ _ _ _ _ _ _
      exact FinP.ret _ (res1 rfl rfl) ⟨rfl, hS155.ext⟩

theorem c_laws_eqRing {w : World} {a_Table : (List (List (List Int)))} {v_a_Table : Value} {b_Table : (List (List (List Int)))} {v_b_Table : Value} (r_a_Table : (Ty.sl (Ty.sl (Ty.sl (Ty.i .i64)))).rep w v_a_Table a_Table) (r_b_Table : (Ty.sl (Ty.sl (Ty.sl (Ty.i .i64)))).rep w v_b_Table b_Table) {res : Bool} (h : p_laws_eqRing a_Table b_Table  = some res) :
    Ret Tryd.prog 12 #[(Value.agg #[v_a_Table]), (Value.agg #[v_b_Table])] w (fun v w' => v = Value.bool res ∧ Ext w w') := by
  unfold p_laws_eqRing at h
  have hS0 : St w w [] := St.start w
  refine Ret.start (fn := Tryd.f12) Tryd.func12 rfl 11 rfl rfl ?_
  refine W.seq (W.region ?_)
  refine WL.box hS0 rfl (cs := [v_a_Table]) rfl rfl ?_
  intro b1 wd2 hS3 he4 hx5
  replace hS3 : St w wd2 [bx b1 [v_a_Table]] := hS3
  have hx6 := St.boxAt hS3 0 rfl
  have hE7 : Ext w wd2 := hS3.ext
  have hS8 : St wd2 wd2 [] := St.start wd2
  refine WL.box hS8 rfl (cs := [v_b_Table]) rfl rfl ?_
  intro b9 wd10 hS11 he12 hx13
  replace hS11 : St wd2 wd10 [bx b9 [v_b_Table]] := hS11
  have hx14 := St.boxAt hS11 0 rfl
  have hE15 : Ext w wd10 := (Ext.trans hE7 hS11.ext)
  have hE16 : Ext wd2 wd10 := hS11.ext
  have hS17 : St wd10 wd10 [] := St.start wd10
  refine WL.val (Value.bool false) _ (op_assign rfl) rfl ?_
  refine WL.nil ?_
  refine W.seq (W.seq (W.region ?_))
  refine WL.val (Value.pointer (some ⟨b1, 0, none⟩)) _ (op_fieldAddr fd_26_0 rfl) rfl ?_
  refine WL.val v_a_Table _ (op_load one_22 rfl (BoxAt.cell (BoxAt.lift (Ext.trans hE16 hS17.ext) hx6) rfl)) rfl ?_
  refine WL.val (Value.pointer (some ⟨b9, 0, none⟩)) _ (op_fieldAddr fd_26_0 rfl) rfl ?_
  refine WL.val v_b_Table _ (op_load one_22 rfl (BoxAt.cell (BoxAt.lift hS17.ext hx14) rfl)) rfl ?_
  obtain ⟨x18, hx19, h⟩ := bs h
  refine WL.call _ (op_call fn_37 (args2 rfl rfl)) (c_laws_eqInt64SSS (Ty.lift _ (Ext.trans hE15 hS17.ext) r_a_Table) (Ty.lift _ (Ext.trans hE15 hS17.ext) r_b_Table) hx19) rfl ?_
  rintro _ wd20 ⟨rfl, he21⟩
  have hS23 := St.extend hS17 he21
  replace hS23 : St wd10 wd20 [] := hS23
  refine WL.val (Value.bool (!x18)) _ (op_not rfl) rfl ?_
  refine WL.nil ?_
  refine W.cond (!x18) rfl (fun hc24 => ?_) (fun hc24 => ?_)
  · replace h := ip h hc24
    refine W.seq (W.region ?_)
    refine WL.val (Value.bool false) _ (op_assign rfl) rfl ?_
    refine WL.nil ?_
    refine W.ret ?_
    obtain rfl := Option.some.inj h
    show FinP _ _ _ _ _ _ _
    exact FinP.ret _ (res1 rfl rfl) ⟨rfl, (Ext.trans hE15 hS23.ext)⟩
  · replace h := inegb h hc24
    refine W.skip ?_
    refine W.seq (W.region ?_)
    refine WL.val (Value.bool true) _ (op_assign rfl) rfl ?_
    refine WL.nil ?_
    refine W.ret ?_
    obtain rfl := Option.some.inj h
    show FinP _ _ _ _ _ _ _
    exact FinP.ret _ (res1 rfl rfl) ⟨rfl, (Ext.trans hE15 hS23.ext)⟩

theorem c_laws_markInt64S {w : World} {a : (List Int)} {v_a : Value} {k1 : Int} {w0 : World} {R : Ent} (hS0 : St w0 w [(Ty.sl (Ty.i .i64)).at v_a a, R]) (r_k1 : InR .i64 k1) {res : Int × (List Int)} (h : p_laws_markInt64S a k1  = some res) :
    Ret Tryd.prog 18 #[v_a, (Value.int .i64 k1)] w (fun v w' => v = Value.int .i64 res.1 ∧ InR .i64 res.1 ∧ St w0 w' [(Ty.sl (Ty.i .i64)).at v_a res.2, R]) := by
  unfold p_laws_markInt64S at h
  refine Ret.start (fn := Tryd.f18) Tryd.func18 rfl 19 rfl rfl ?_
  refine W.seq (W.region ?_)
  refine WL.val (Value.int .i64 (0 : Int)) _ (op_assign rfl) rfl ?_
  refine WL.nil ?_
  refine W.seq (W.seq (W.region ?_))
  refine WL.val (Value.int .i64 (0 : Int)) _ (op_assign rfl) rfl ?_
  refine WL.nil ?_
  show W _ _ _ _ _ _
  obtain ⟨res1, hres2, h⟩ := bs h
  refine W.blockLoop (fun fq wq => ∃ s, res1 = Res.fin s ∧ fq 1 = Value.int .i64 s.2 ∧ InR .i64 s.2 ∧ (s.1).length = (a).length ∧ St w0 wq [(Ty.sl (Ty.i .i64)).at v_a s.1, R]) ?_ ?_
  · refine W.forN (fun k (s : (List Int) × Int) fq wq => fq 0 = v_a ∧ fq 1 = Value.int .i64 s.2 ∧ InR .i64 s.2 ∧ fq 5 = Value.int .i64 (k : Int) ∧ InR .i64 (k : Int) ∧ (s.1).length = (a).length ∧ St w0 wq [(Ty.sl (Ty.i .i64)).at v_a s.1, R]) hres2 ⟨rfl, rfl, r_k1, rfl, (inL rfl), rfl, hS0⟩ ?_ ?_
    · intro k3 s30 ct6 f7 wd8 hk9 hb10 hI11 hbrk12 hret13
      obtain ⟨x4, x5⟩ := s30
      replace hI11 : f7 0 = v_a ∧ f7 1 = Value.int .i64 x5 ∧ InR .i64 x5 ∧ f7 5 = Value.int .i64 (k3 : Int) ∧ InR .i64 (k3 : Int) ∧ (x4).length = (a).length ∧ St w0 wd8 [(Ty.sl (Ty.i .i64)).at v_a x4, R] := hI11
      replace hb10 : p_laws_markInt64S_L1  k3 x4 x5 = some ct6 := hb10
      unfold p_laws_markInt64S_L1 at hb10
      obtain ⟨hf14, hf15, hr16, hf17, hr18, hL19, hS20⟩ := hI11
      refine W.seq (W.seq (W.region ?_))
      refine WL.val (Value.int .i64 (k3 : Int)) _ (op_move hf17) rfl ?_
      refine WL.val v_a _ (op_move hf14) rfl ?_
      have hr21 := inR_len (St.rep (t := (Ty.sl (Ty.i .i64))) hS20 0 rfl)
      refine WL.val (Value.int .i64 ((x4).length : Int)) _ (op_lenL sl_33 (St.rep (t := (Ty.sl (Ty.i .i64))) hS20 0 rfl) rfl) rfl ?_
      refine WL.val (Value.bool (decide ((k3 : Int) < ((x4).length : Int)))) _ (op_lss rfl rfl) rfl ?_
      have hl22 : (k3 : Int) < ((x4).length : Int) := by omega
      refine WL.nil ?_
      refine W.condT (decide ((k3 : Int) < ((x4).length : Int))) rfl (decide_eq_true hl22) ?_
      refine W.skip ?_
      refine W.seq ?_
      refine W.block ?_
      refine W.seq (W.region ?_)
      refine WL.val v_a _ (op_move hf14) rfl ?_
      refine WL.val (Value.int .i64 (k3 : Int)) _ (op_move hf17) rfl ?_
      refine WL.val (Value.int .i64 x5) _ (op_move hf15) rfl ?_
      obtain ⟨x24, hx27, hb10⟩ := bs hb10
      obtain ⟨ha25, hb26, hx27⟩ := idx_some hx27
      refine WL.val (Value.pointer (some (elA v_a ((k3 : Int)).toNat))) _ (op_idx sl_33 (St.rep (t := (Ty.sl (Ty.i .i64))) hS20 0 rfl) rfl rfl ha25 hb26) rfl ?_
      refine WL.storeEl (flat_i .i64) hS20 (k := 0) rfl sz_2 rfl rfl (lt_of_idx ha25 hb26) ⟨rfl, hr16⟩ ?_
      intro wd28 hS29
      replace hS29 : St w0 wd28 [(Ty.sl (Ty.i .i64)).at v_a ((x4).set ((k3 : Int)).toNat x5), R] := hS29
      refine WL.nil ?_
      show W _ _ _ _ _ _
      refine W.region ?_
      refine WL.val (Value.int .i64 x5) _ (op_move hf15) rfl ?_
      refine WL.val (Value.int .i64 (w64 (x5 + (1 : Int)))) _ (op_add rfl rfl) rfl ?_
      refine WL.val (Value.int .i64 (w64 (x5 + (1 : Int)))) _ (op_assign rfl) rfl ?_
      refine WL.nil ?_
      show W _ _ _ _ _ _
      refine W.region ?_
      refine WL.val (Value.int .i64 (k3 : Int)) _ (op_move hf17) rfl ?_
      refine WL.val (Value.int .i64 (w64 ((k3 : Int) + (1 : Int)))) _ (op_add rfl rfl) rfl ?_
      refine WL.val (Value.int .i64 (w64 ((k3 : Int) + (1 : Int)))) _ (op_assign rfl) rfl ?_
      refine WL.nil ?_
      obtain rfl := Option.some.inj hb10
      show ∃ s, _ = Ctl.next s ∧ _
      exact ⟨_, rfl, hf14, rfl, (inR_wrap _ _), (ctr_next hl22 hr21), (ctr_rng hl22 hr21), (by first | exact hL19 | (simp only [List.length_set]; exact hL19)), hS29⟩
    · intro s35 f31 wd32 hs33 hI34
      obtain ⟨x36, x37⟩ := s35
      replace hI34 : f31 0 = v_a ∧ f31 1 = Value.int .i64 x37 ∧ InR .i64 x37 ∧ f31 5 = Value.int .i64 (((a).length : Nat) : Int) ∧ InR .i64 (((a).length : Nat) : Int) ∧ (x36).length = (a).length ∧ St w0 wd32 [(Ty.sl (Ty.i .i64)).at v_a x36, R] := hI34
      obtain ⟨hf38, hf39, hr40, hf41, hr42, hL43, hS44⟩ := hI34
      refine W.seq (W.seq (W.region ?_))
      refine WL.val (Value.int .i64 (((a).length : Nat) : Int)) _ (op_move hf41) rfl ?_
      refine WL.val v_a _ (op_move hf38) rfl ?_
      have hr45 := inR_len (St.rep (t := (Ty.sl (Ty.i .i64))) hS44 0 rfl)
      refine WL.val (Value.int .i64 ((x36).length : Int)) _ (op_lenL sl_33 (St.rep (t := (Ty.sl (Ty.i .i64))) hS44 0 rfl) rfl) rfl ?_
      refine WL.val (Value.bool (decide ((((a).length : Nat) : Int) < ((x36).length : Int)))) _ (op_lss rfl rfl) rfl ?_
      have hl46 : ¬ (((a).length : Nat) : Int) < ((x36).length : Int) := by omega
      refine WL.nil ?_
      refine W.condF (decide ((((a).length : Nat) : Int) < ((x36).length : Int))) rfl (decide_eq_false hl46) ?_
      refine W.exit ?_
      show _ = _ ∧ _
      exact ⟨rfl, _, hs33, hf39, hr40, (by first | exact hL43 | (simp only [List.length_set]; exact hL43)), hS44⟩
  · rintro f47 wd48 ⟨s50, rfl, hq49⟩
    replace h := onRes_fin h
    obtain ⟨x51, x52⟩ := s50
    replace hq49 : f47 1 = Value.int .i64 x52 ∧ InR .i64 x52 ∧ (x51).length = (a).length ∧ St w0 wd48 [(Ty.sl (Ty.i .i64)).at v_a x51, R] := hq49
    replace h : (_ : Option _) = _ := h
    dsimp only at h
    obtain ⟨hf53, hr54, hL55, hS56⟩ := hq49
    refine W.seq (W.region ?_)
    refine WL.val (Value.int .i64 x52) _ (op_move hf53) rfl ?_
    refine WL.val (Value.int .i64 x52) _ (op_assign rfl) rfl ?_
    refine WL.nil ?_
    refine W.ret ?_
    obtain rfl := Option.some.inj h
    show FinP _ _ _ _ _ _ _
    exact FinP.ret _ (res1 rfl rfl) ⟨rfl, hr54, (St.pick hS56 [0, 1] rfl)⟩

theorem c_laws_markInt64SS {w : World} {a : (List (List Int))} {v_a : Value} {k1 : Int} {w0 : World} {R : Ent} (hS0 : St w0 w [(Ty.sl (Ty.sl (Ty.i .i64))).at v_a a, R]) (r_k1 : InR .i64 k1) {res : Int × (List (List Int))} (h : p_laws_markInt64SS a k1  = some res) :
    Ret Tryd.prog 25 #[v_a, (Value.int .i64 k1)] w (fun v w' => v = Value.int .i64 res.1 ∧ InR .i64 res.1 ∧ St w0 w' [(Ty.sl (Ty.sl (Ty.i .i64))).at v_a res.2, R]) := by
  unfold p_laws_markInt64SS at h
  refine Ret.start (fn := Tryd.f25) Tryd.func25 rfl 19 rfl rfl ?_
  refine W.seq (W.region ?_)
  refine WL.val (Value.int .i64 (0 : Int)) _ (op_assign rfl) rfl ?_
  refine WL.nil ?_
  refine W.seq (W.seq (W.region ?_))
  refine WL.val (Value.int .i64 (0 : Int)) _ (op_assign rfl) rfl ?_
  refine WL.nil ?_
  show W _ _ _ _ _ _
  obtain ⟨res1, hres2, h⟩ := bs h
  refine W.blockLoop (fun fq wq => ∃ s, res1 = Res.fin s ∧ fq 1 = Value.int .i64 s.2 ∧ InR .i64 s.2 ∧ (s.1).length = (a).length ∧ St w0 wq [(Ty.sl (Ty.sl (Ty.i .i64))).at v_a s.1, R]) ?_ ?_
  · refine W.forN (fun k (s : (List (List Int)) × Int) fq wq => fq 0 = v_a ∧ fq 1 = Value.int .i64 s.2 ∧ InR .i64 s.2 ∧ fq 5 = Value.int .i64 (k : Int) ∧ InR .i64 (k : Int) ∧ (s.1).length = (a).length ∧ St w0 wq [(Ty.sl (Ty.sl (Ty.i .i64))).at v_a s.1, R]) hres2 ⟨rfl, rfl, r_k1, rfl, (inL rfl), rfl, hS0⟩ ?_ ?_
    · intro k3 s40 ct6 f7 wd8 hk9 hb10 hI11 hbrk12 hret13
      obtain ⟨x4, x5⟩ := s40
      replace hI11 : f7 0 = v_a ∧ f7 1 = Value.int .i64 x5 ∧ InR .i64 x5 ∧ f7 5 = Value.int .i64 (k3 : Int) ∧ InR .i64 (k3 : Int) ∧ (x4).length = (a).length ∧ St w0 wd8 [(Ty.sl (Ty.sl (Ty.i .i64))).at v_a x4, R] := hI11
      replace hb10 : p_laws_markInt64SS_L1  k3 x4 x5 = some ct6 := hb10
      unfold p_laws_markInt64SS_L1 at hb10
      obtain ⟨hf14, hf15, hr16, hf17, hr18, hL19, hS20⟩ := hI11
      refine W.seq (W.seq (W.region ?_))
      refine WL.val (Value.int .i64 (k3 : Int)) _ (op_move hf17) rfl ?_
      refine WL.val v_a _ (op_move hf14) rfl ?_
      have hr21 := inR_len (St.rep (t := (Ty.sl (Ty.sl (Ty.i .i64)))) hS20 0 rfl)
      refine WL.val (Value.int .i64 ((x4).length : Int)) _ (op_lenL sl_41 (St.rep (t := (Ty.sl (Ty.sl (Ty.i .i64)))) hS20 0 rfl) rfl) rfl ?_
      refine WL.val (Value.bool (decide ((k3 : Int) < ((x4).length : Int)))) _ (op_lss rfl rfl) rfl ?_
      have hl22 : (k3 : Int) < ((x4).length : Int) := by omega
      refine WL.nil ?_
      refine W.condT (decide ((k3 : Int) < ((x4).length : Int))) rfl (decide_eq_true hl22) ?_
      refine W.skip ?_
      refine W.seq ?_
      refine W.block ?_
      refine W.region ?_
      refine WL.val v_a _ (op_move hf14) rfl ?_
      refine WL.val (Value.int .i64 (k3 : Int)) _ (op_move hf17) rfl ?_
      obtain ⟨x24, hx27, hb10⟩ := bs hb10
      obtain ⟨ha25, hb26, hx27⟩ := idx_some hx27
      refine WL.val (Value.pointer (some (elA v_a ((k3 : Int)).toNat))) _ (op_idx sl_41 (St.rep (t := (Ty.sl (Ty.sl (Ty.i .i64)))) hS20 0 rfl) rfl rfl ha25 hb26) rfl ?_
      obtain ⟨u28, hc29, hr30⟩ := repSl.el (St.rep (t := (Ty.sl (Ty.sl (Ty.i .i64)))) hS20 0 rfl) hx27
      refine WL.val u28 _ (op_load one_33 rfl hc29) rfl ?_
      refine WL.val (Value.int .i64 x5) _ (op_move hf15) rfl ?_
      have hS31 := St.unrow (k := 0) hS20 rfl hx27 hc29
      replace hS31 : St w0 wd8 [holeAt (Ty.sl (Ty.i .i64)) v_a x4 ((k3 : Int)).toNat u28, R, (Ty.sl (Ty.i .i64)).at u28 x24] := hS31
      obtain ⟨x32, hx33, hb10⟩ := bs hb10
      have hS34 := St.fold [(Ty.sl (Ty.i .i64)).at u28 x24] [holeAt (Ty.sl (Ty.i .i64)) v_a x4 ((k3 : Int)).toNat u28, R] (St.pick hS31 [2, 0, 1] rfl)
      refine WL.call _ (op_call fn_18 (args2 rfl rfl)) (c_laws_markInt64S hS34 hr16 hx33) rfl ?_
      rintro _ wd37 ⟨rfl, hr38, hS35⟩
      have hS36 := St.pick (St.unfold [(Ty.sl (Ty.i .i64)).at u28 x32.2] [holeAt (Ty.sl (Ty.i .i64)) v_a x4 ((k3 : Int)).toNat u28, R] hS35) [1, 2, 0] rfl
      replace hS36 : St w0 wd37 [holeAt (Ty.sl (Ty.i .i64)) v_a x4 ((k3 : Int)).toNat u28, R, (Ty.sl (Ty.i .i64)).at u28 x32.2] := hS36
      have hS39 := St.rerow (k := 0) (k2 := 2) hS36 rfl rfl rfl
      replace hS39 : St w0 wd37 [(Ty.sl (Ty.sl (Ty.i .i64))).at v_a ((x4).set ((k3 : Int)).toNat x32.2), R, emp] := hS39
      refine WL.val (Value.int .i64 x32.1) _ (op_assign rfl) rfl ?_
      refine WL.nil ?_
      show W _ _ _ _ _ _
      refine W.region ?_
      refine WL.val (Value.int .i64 (k3 : Int)) _ (op_move hf17) rfl ?_
      refine WL.val (Value.int .i64 (w64 ((k3 : Int) + (1 : Int)))) _ (op_add rfl rfl) rfl ?_
      refine WL.val (Value.int .i64 (w64 ((k3 : Int) + (1 : Int)))) _ (op_assign rfl) rfl ?_
      refine WL.nil ?_
      obtain rfl := Option.some.inj hb10
      show ∃ s, _ = Ctl.next s ∧ _
      exact ⟨_, rfl, hf14, rfl, hr38, (ctr_next hl22 hr21), (ctr_rng hl22 hr21), (by first | exact hL19 | (simp only [List.length_set]; exact hL19)), (St.pick hS39 [0, 1] rfl)⟩
    · intro s45 f41 wd42 hs43 hI44
      obtain ⟨x46, x47⟩ := s45
      replace hI44 : f41 0 = v_a ∧ f41 1 = Value.int .i64 x47 ∧ InR .i64 x47 ∧ f41 5 = Value.int .i64 (((a).length : Nat) : Int) ∧ InR .i64 (((a).length : Nat) : Int) ∧ (x46).length = (a).length ∧ St w0 wd42 [(Ty.sl (Ty.sl (Ty.i .i64))).at v_a x46, R] := hI44
      obtain ⟨hf48, hf49, hr50, hf51, hr52, hL53, hS54⟩ := hI44
      refine W.seq (W.seq (W.region ?_))
      refine WL.val (Value.int .i64 (((a).length : Nat) : Int)) _ (op_move hf51) rfl ?_
      refine WL.val v_a _ (op_move hf48) rfl ?_
      have hr55 := inR_len (St.rep (t := (Ty.sl (Ty.sl (Ty.i .i64)))) hS54 0 rfl)
      refine WL.val (Value.int .i64 ((x46).length : Int)) _ (op_lenL sl_41 (St.rep (t := (Ty.sl (Ty.sl (Ty.i .i64)))) hS54 0 rfl) rfl) rfl ?_
      refine WL.val (Value.bool (decide ((((a).length : Nat) : Int) < ((x46).length : Int)))) _ (op_lss rfl rfl) rfl ?_
      have hl56 : ¬ (((a).length : Nat) : Int) < ((x46).length : Int) := by omega
      refine WL.nil ?_
      refine W.condF (decide ((((a).length : Nat) : Int) < ((x46).length : Int))) rfl (decide_eq_false hl56) ?_
      refine W.exit ?_
      show _ = _ ∧ _
      exact ⟨rfl, _, hs43, hf49, hr50, (by first | exact hL53 | (simp only [List.length_set]; exact hL53)), hS54⟩
  · rintro f57 wd58 ⟨s60, rfl, hq59⟩
    replace h := onRes_fin h
    obtain ⟨x61, x62⟩ := s60
    replace hq59 : f57 1 = Value.int .i64 x62 ∧ InR .i64 x62 ∧ (x61).length = (a).length ∧ St w0 wd58 [(Ty.sl (Ty.sl (Ty.i .i64))).at v_a x61, R] := hq59
    replace h : (_ : Option _) = _ := h
    dsimp only at h
    obtain ⟨hf63, hr64, hL65, hS66⟩ := hq59
    refine W.seq (W.region ?_)
    refine WL.val (Value.int .i64 x62) _ (op_move hf63) rfl ?_
    refine WL.val (Value.int .i64 x62) _ (op_assign rfl) rfl ?_
    refine WL.nil ?_
    refine W.ret ?_
    obtain rfl := Option.some.inj h
    show FinP _ _ _ _ _ _ _
    exact FinP.ret _ (res1 rfl rfl) ⟨rfl, hr64, (St.pick hS66 [0, 1] rfl)⟩

theorem c_laws_markInt64SSS {w : World} {a : (List (List (List Int)))} {v_a : Value} {k1 : Int} {w0 : World} {R : Ent} (hS0 : St w0 w [(Ty.sl (Ty.sl (Ty.sl (Ty.i .i64)))).at v_a a, R]) (r_k1 : InR .i64 k1) {res : Int × (List (List (List Int)))} (h : p_laws_markInt64SSS a k1  = some res) :
    Ret Tryd.prog 38 #[v_a, (Value.int .i64 k1)] w (fun v w' => v = Value.int .i64 res.1 ∧ InR .i64 res.1 ∧ St w0 w' [(Ty.sl (Ty.sl (Ty.sl (Ty.i .i64)))).at v_a res.2, R]) := by
  unfold p_laws_markInt64SSS at h
  refine Ret.start (fn := Tryd.f38) Tryd.func38 rfl 19 rfl rfl ?_
  refine W.seq (W.region ?_)
  refine WL.val (Value.int .i64 (0 : Int)) _ (op_assign rfl) rfl ?_
  refine WL.nil ?_
  refine W.seq (W.seq (W.region ?_))
  refine WL.val (Value.int .i64 (0 : Int)) _ (op_assign rfl) rfl ?_
  refine WL.nil ?_
  show W _ _ _ _ _ _
  obtain ⟨res1, hres2, h⟩ := bs h
  refine W.blockLoop (fun fq wq => ∃ s, res1 = Res.fin s ∧ fq 1 = Value.int .i64 s.2 ∧ InR .i64 s.2 ∧ (s.1).length = (a).length ∧ St w0 wq [(Ty.sl (Ty.sl (Ty.sl (Ty.i .i64)))).at v_a s.1, R]) ?_ ?_
  · refine W.forN (fun k (s : (List (List (List Int))) × Int) fq wq => fq 0 = v_a ∧ fq 1 = Value.int .i64 s.2 ∧ InR .i64 s.2 ∧ fq 5 = Value.int .i64 (k : Int) ∧ InR .i64 (k : Int) ∧ (s.1).length = (a).length ∧ St w0 wq [(Ty.sl (Ty.sl (Ty.sl (Ty.i .i64)))).at v_a s.1, R]) hres2 ⟨rfl, rfl, r_k1, rfl, (inL rfl), rfl, hS0⟩ ?_ ?_
    · intro k3 s40 ct6 f7 wd8 hk9 hb10 hI11 hbrk12 hret13
      obtain ⟨x4, x5⟩ := s40
      replace hI11 : f7 0 = v_a ∧ f7 1 = Value.int .i64 x5 ∧ InR .i64 x5 ∧ f7 5 = Value.int .i64 (k3 : Int) ∧ InR .i64 (k3 : Int) ∧ (x4).length = (a).length ∧ St w0 wd8 [(Ty.sl (Ty.sl (Ty.sl (Ty.i .i64)))).at v_a x4, R] := hI11
      replace hb10 : p_laws_markInt64SSS_L1  k3 x4 x5 = some ct6 := hb10
      unfold p_laws_markInt64SSS_L1 at hb10
      obtain ⟨hf14, hf15, hr16, hf17, hr18, hL19, hS20⟩ := hI11
      refine W.seq (W.seq (W.region ?_))
      refine WL.val (Value.int .i64 (k3 : Int)) _ (op_move hf17) rfl ?_
      refine WL.val v_a _ (op_move hf14) rfl ?_
      have hr21 := inR_len (St.rep (t := (Ty.sl (Ty.sl (Ty.sl (Ty.i .i64))))) hS20 0 rfl)
      refine WL.val (Value.int .i64 ((x4).length : Int)) _ (op_lenL sl_22 (St.rep (t := (Ty.sl (Ty.sl (Ty.sl (Ty.i .i64))))) hS20 0 rfl) rfl) rfl ?_
      refine WL.val (Value.bool (decide ((k3 : Int) < ((x4).length : Int)))) _ (op_lss rfl rfl) rfl ?_
      have hl22 : (k3 : Int) < ((x4).length : Int) := by omega
      refine WL.nil ?_
      refine W.condT (decide ((k3 : Int) < ((x4).length : Int))) rfl (decide_eq_true hl22) ?_
      refine W.skip ?_
      refine W.seq ?_
      refine W.block ?_
      refine W.region ?_
      refine WL.val v_a _ (op_move hf14) rfl ?_
      refine WL.val (Value.int .i64 (k3 : Int)) _ (op_move hf17) rfl ?_
      obtain ⟨x24, hx27, hb10⟩ := bs hb10
      obtain ⟨ha25, hb26, hx27⟩ := idx_some hx27
      refine WL.val (Value.pointer (some (elA v_a ((k3 : Int)).toNat))) _ (op_idx sl_22 (St.rep (t := (Ty.sl (Ty.sl (Ty.sl (Ty.i .i64))))) hS20 0 rfl) rfl rfl ha25 hb26) rfl ?_
      obtain ⟨u28, hc29, hr30⟩ := repSl.el (St.rep (t := (Ty.sl (Ty.sl (Ty.sl (Ty.i .i64))))) hS20 0 rfl) hx27
      refine WL.val u28 _ (op_load one_41 rfl hc29) rfl ?_
      refine WL.val (Value.int .i64 x5) _ (op_move hf15) rfl ?_
      have hS31 := St.unrow (k := 0) hS20 rfl hx27 hc29
      replace hS31 : St w0 wd8 [holeAt (Ty.sl (Ty.sl (Ty.i .i64))) v_a x4 ((k3 : Int)).toNat u28, R, (Ty.sl (Ty.sl (Ty.i .i64))).at u28 x24] := hS31
      obtain ⟨x32, hx33, hb10⟩ := bs hb10
      have hS34 := St.fold [(Ty.sl (Ty.sl (Ty.i .i64))).at u28 x24] [holeAt (Ty.sl (Ty.sl (Ty.i .i64))) v_a x4 ((k3 : Int)).toNat u28, R] (St.pick hS31 [2, 0, 1] rfl)
      refine WL.call _ (op_call fn_25 (args2 rfl rfl)) (c_laws_markInt64SS hS34 hr16 hx33) rfl ?_
      rintro _ wd37 ⟨rfl, hr38, hS35⟩
      have hS36 := St.pick (St.unfold [(Ty.sl (Ty.sl (Ty.i .i64))).at u28 x32.2] [holeAt (Ty.sl (Ty.sl (Ty.i .i64))) v_a x4 ((k3 : Int)).toNat u28, R] hS35) [1, 2, 0] rfl
      replace hS36 : St w0 wd37 [holeAt (Ty.sl (Ty.sl (Ty.i .i64))) v_a x4 ((k3 : Int)).toNat u28, R, (Ty.sl (Ty.sl (Ty.i .i64))).at u28 x32.2] := hS36
      have hS39 := St.rerow (k := 0) (k2 := 2) hS36 rfl rfl rfl
      replace hS39 : St w0 wd37 [(Ty.sl (Ty.sl (Ty.sl (Ty.i .i64)))).at v_a ((x4).set ((k3 : Int)).toNat x32.2), R, emp] := hS39
      refine WL.val (Value.int .i64 x32.1) _ (op_assign rfl) rfl ?_
      refine WL.nil ?_
      show W _ _ _ _ _ _
      refine W.region ?_
      refine WL.val (Value.int .i64 (k3 : Int)) _ (op_move hf17) rfl ?_
      refine WL.val (Value.int .i64 (w64 ((k3 : Int) + (1 : Int)))) _ (op_add rfl rfl) rfl ?_
      refine WL.val (Value.int .i64 (w64 ((k3 : Int) + (1 : Int)))) _ (op_assign rfl) rfl ?_
      refine WL.nil ?_
      obtain rfl := Option.some.inj hb10
      show ∃ s, _ = Ctl.next s ∧ _
      exact ⟨_, rfl, hf14, rfl, hr38, (ctr_next hl22 hr21), (ctr_rng hl22 hr21), (by first | exact hL19 | (simp only [List.length_set]; exact hL19)), (St.pick hS39 [0, 1] rfl)⟩
    · intro s45 f41 wd42 hs43 hI44
      obtain ⟨x46, x47⟩ := s45
      replace hI44 : f41 0 = v_a ∧ f41 1 = Value.int .i64 x47 ∧ InR .i64 x47 ∧ f41 5 = Value.int .i64 (((a).length : Nat) : Int) ∧ InR .i64 (((a).length : Nat) : Int) ∧ (x46).length = (a).length ∧ St w0 wd42 [(Ty.sl (Ty.sl (Ty.sl (Ty.i .i64)))).at v_a x46, R] := hI44
      obtain ⟨hf48, hf49, hr50, hf51, hr52, hL53, hS54⟩ := hI44
      refine W.seq (W.seq (W.region ?_))
      refine WL.val (Value.int .i64 (((a).length : Nat) : Int)) _ (op_move hf51) rfl ?_
      refine WL.val v_a _ (op_move hf48) rfl ?_
      have hr55 := inR_len (St.rep (t := (Ty.sl (Ty.sl (Ty.sl (Ty.i .i64))))) hS54 0 rfl)
      refine WL.val (Value.int .i64 ((x46).length : Int)) _ (op_lenL sl_22 (St.rep (t := (Ty.sl (Ty.sl (Ty.sl (Ty.i .i64))))) hS54 0 rfl) rfl) rfl ?_
      refine WL.val (Value.bool (decide ((((a).length : Nat) : Int) < ((x46).length : Int)))) _ (op_lss rfl rfl) rfl ?_
      have hl56 : ¬ (((a).length : Nat) : Int) < ((x46).length : Int) := by omega
      refine WL.nil ?_
      refine W.condF (decide ((((a).length : Nat) : Int) < ((x46).length : Int))) rfl (decide_eq_false hl56) ?_
      refine W.exit ?_
      show _ = _ ∧ _
      exact ⟨rfl, _, hs43, hf49, hr50, (by first | exact hL53 | (simp only [List.length_set]; exact hL53)), hS54⟩
  · rintro f57 wd58 ⟨s60, rfl, hq59⟩
    replace h := onRes_fin h
    obtain ⟨x61, x62⟩ := s60
    replace hq59 : f57 1 = Value.int .i64 x62 ∧ InR .i64 x62 ∧ (x61).length = (a).length ∧ St w0 wd58 [(Ty.sl (Ty.sl (Ty.sl (Ty.i .i64)))).at v_a x61, R] := hq59
    replace h : (_ : Option _) = _ := h
    dsimp only at h
    obtain ⟨hf63, hr64, hL65, hS66⟩ := hq59
    refine W.seq (W.region ?_)
    refine WL.val (Value.int .i64 x62) _ (op_move hf63) rfl ?_
    refine WL.val (Value.int .i64 x62) _ (op_assign rfl) rfl ?_
    refine WL.nil ?_
    refine W.ret ?_
    obtain rfl := Option.some.inj h
    show FinP _ _ _ _ _ _ _
    exact FinP.ret _ (res1 rfl rfl) ⟨rfl, hr64, (St.pick hS66 [0, 1] rfl)⟩

theorem c_laws_markRing {w : World} {a_Table : (List (List (List Int)))} {v_a_Table : Value} {k1 : Int} {w0 : World} {R : Ent} (hS0 : St w0 w [(Ty.sl (Ty.sl (Ty.sl (Ty.i .i64)))).at v_a_Table a_Table, R]) (r_k1 : InR .i64 k1) {res : Int × (List (List (List Int)))} (h : p_laws_markRing a_Table k1  = some res) :
    Ret Tryd.prog 13 #[(Value.agg #[v_a_Table]), (Value.int .i64 k1)] w (fun v w' => v = Value.int .i64 res.1 ∧ InR .i64 res.1 ∧ St w0 w' [(Ty.sl (Ty.sl (Ty.sl (Ty.i .i64)))).at v_a_Table res.2, R]) := by
  unfold p_laws_markRing at h
  refine Ret.start (fn := Tryd.f13) Tryd.func13 rfl 10 rfl rfl ?_
  refine W.seq (W.region ?_)
  refine WL.box hS0 rfl (cs := [v_a_Table]) rfl rfl ?_
  intro b1 wd2 hS3 he4 hx5
  replace hS3 : St w0 wd2 [(Ty.sl (Ty.sl (Ty.sl (Ty.i .i64)))).at v_a_Table a_Table, R, bx b1 [v_a_Table]] := hS3
  refine WL.val (Value.int .i64 (0 : Int)) _ (op_assign rfl) rfl ?_
  refine WL.nil ?_
  refine W.seq (W.region ?_)
  refine WL.val (Value.pointer (some ⟨b1, 0, none⟩)) _ (op_fieldAddr fd_26_0 rfl) rfl ?_
  refine WL.val v_a_Table _ (op_load one_22 rfl (BoxAt.cell (St.boxAt hS3 2 rfl) rfl)) rfl ?_
  refine WL.val (Value.int .i64 k1) _ (op_move rfl) rfl ?_
  obtain ⟨x6, hx7, h⟩ := bs h
  have hS8 := St.fold [(Ty.sl (Ty.sl (Ty.sl (Ty.i .i64)))).at v_a_Table a_Table] [R, bx b1 [v_a_Table]] (St.pick hS3 [0, 1, 2] rfl)
  refine WL.call _ (op_call fn_38 (args2 rfl rfl)) (c_laws_markInt64SSS hS8 r_k1 hx7) rfl ?_
  rintro _ wd11 ⟨rfl, hr12, hS9⟩
  have hS10 := St.pick (St.unfold [(Ty.sl (Ty.sl (Ty.sl (Ty.i .i64)))).at v_a_Table x6.2] [R, bx b1 [v_a_Table]] hS9) [0, 1, 2] rfl
  replace hS10 : St w0 wd11 [(Ty.sl (Ty.sl (Ty.sl (Ty.i .i64)))).at v_a_Table x6.2, R, bx b1 [v_a_Table]] := hS10
  refine WL.val (Value.int .i64 x6.1) _ (op_assign rfl) rfl ?_
  refine WL.nil ?_
  refine W.seq (W.region ?_)
  refine WL.val (Value.int .i64 x6.1) _ (op_move rfl) rfl ?_
  refine WL.val (Value.int .i64 x6.1) _ (op_assign rfl) rfl ?_
  refine WL.nil ?_
  refine W.ret ?_
  obtain rfl := Option.some.inj h
  show FinP _ _ _ _ _ _ _
  exact FinP.ret _ (res1 rfl rfl) ⟨rfl, hr12, (St.pick hS10 [0, 1] rfl)⟩

theorem c_laws_heldInt64S {w : World} {a : (List Int)} {v_a : Value} {k1 : Int} (r_a : (Ty.sl (Ty.i .i64)).rep w v_a a) (r_k1 : InR .i64 k1) {res : Int} (h : p_laws_heldInt64S a k1  = some res) :
    Ret Tryd.prog 19 #[v_a, (Value.int .i64 k1)] w (fun v w' => v = Value.int .i64 res ∧ InR .i64 res ∧ Ext w w') := by
  unfold p_laws_heldInt64S at h
  have hS0 : St w w [] := St.start w
  refine Ret.start (fn := Tryd.f19) Tryd.func19 rfl 21 rfl rfl ?_
  refine W.seq (W.region ?_)
  refine WL.val (Value.int .i64 (0 : Int)) _ (op_assign rfl) rfl ?_
  refine WL.nil ?_
  refine W.seq (W.seq (W.region ?_))
  refine WL.val (Value.int .i64 (0 : Int)) _ (op_assign rfl) rfl ?_
  refine WL.nil ?_
  show W _ _ _ _ _ _
  obtain ⟨res1, hres2, h⟩ := bs h
  refine W.blockLoop (fun fq wq => ∃ s, res1 = Res.fin s ∧ fq 1 = Value.int .i64 s ∧ InR .i64 s ∧ St w wq []) ?_ ?_
  · refine W.forN (fun k (s : Int) fq wq => fq 0 = v_a ∧ fq 1 = Value.int .i64 s ∧ InR .i64 s ∧ fq 5 = Value.int .i64 (k : Int) ∧ InR .i64 (k : Int) ∧ St w wq []) hres2 ⟨rfl, rfl, r_k1, rfl, (inL rfl), hS0⟩ ?_ ?_
    · intro k3 x4 ct5 f6 wd7 hk8 hb9 hI10 hbrk11 hret12
      replace hI10 : f6 0 = v_a ∧ f6 1 = Value.int .i64 x4 ∧ InR .i64 x4 ∧ f6 5 = Value.int .i64 (k3 : Int) ∧ InR .i64 (k3 : Int) ∧ St w wd7 [] := hI10
      replace hb9 : p_laws_heldInt64S_L1 a k3 x4 = some ct5 := hb9
      unfold p_laws_heldInt64S_L1 at hb9
      obtain ⟨hf13, hf14, hr15, hf16, hr17, hS18⟩ := hI10
      refine W.seq (W.seq (W.region ?_))
      refine WL.val (Value.int .i64 (k3 : Int)) _ (op_move hf16) rfl ?_
      refine WL.val v_a _ (op_move hf13) rfl ?_
      have hr19 := inR_len (Ty.lift _ hS18.ext r_a)
      refine WL.val (Value.int .i64 ((a).length : Int)) _ (op_lenL sl_33 (Ty.lift _ hS18.ext r_a) rfl) rfl ?_
      refine WL.val (Value.bool (decide ((k3 : Int) < ((a).length : Int)))) _ (op_lss rfl rfl) rfl ?_
      have hl20 : (k3 : Int) < ((a).length : Int) := by omega
      refine WL.nil ?_
      refine W.condT (decide ((k3 : Int) < ((a).length : Int))) rfl (decide_eq_true hl20) ?_
      refine W.skip ?_
      refine W.seq ?_
      refine W.block ?_
      refine W.seq (W.seq (W.region ?_))
      refine WL.val v_a _ (op_move hf13) rfl ?_
      refine WL.val (Value.int .i64 (k3 : Int)) _ (op_move hf16) rfl ?_
      obtain ⟨x22, hx25, hb9⟩ := bs hb9
      obtain ⟨ha23, hb24, hx25⟩ := idx_some hx25
      refine WL.val (Value.pointer (some (elA v_a ((k3 : Int)).toNat))) _ (op_idx sl_33 (Ty.lift _ hS18.ext r_a) rfl rfl ha23 hb24) rfl ?_
      obtain ⟨u26, hc27, hr28⟩ := repSl.el r_a hx25
      obtain ⟨rfl, hr28⟩ := hr28
      refine WL.val (Value.int .i64 x22) _ (op_load one_2 rfl (Ext.cell hS18.ext hc27)) rfl ?_
      refine WL.val (Value.int .i64 x4) _ (op_move hf14) rfl ?_
      refine WL.val (Value.bool (x22 != x4)) _ (op_neq rfl rfl) rfl ?_
      refine WL.nil ?_
      refine W.cond (x22 != x4) rfl (fun hc29 => ?_) (fun hc29 => ?_)
      · replace hb9 := ip hb9 hc29
        refine W.seq (W.region ?_)
        refine WL.val (Value.int .i64 (-1 : Int)) _ (op_assign rfl) rfl ?_
        refine WL.nil ?_
        refine W.ret ?_
        obtain rfl := Option.some.inj hb9
        obtain rfl := hret12 _ rfl
        replace h := onRes_ret h
        obtain rfl := Option.some.inj h
        show FinP _ _ _ _ _ _ _
        exact FinP.ret _ (res1 rfl rfl) ⟨rfl, (inR_i64.2 (show (-9223372036854775808 : Int) ≤ -1 ∧ (-1 : Int) ≤ 9223372036854775807 from by decide)), hS18.ext⟩
      · replace hb9 := inegb hb9 hc29
        refine W.skip ?_
        show W _ _ _ _ _ _
        refine W.region ?_
        refine WL.val (Value.int .i64 x4) _ (op_move hf14) rfl ?_
        refine WL.val (Value.int .i64 (w64 (x4 + (1 : Int)))) _ (op_add rfl rfl) rfl ?_
        refine WL.val (Value.int .i64 (w64 (x4 + (1 : Int)))) _ (op_assign rfl) rfl ?_
        refine WL.nil ?_
        show W _ _ _ _ _ _
        refine W.region ?_
        refine WL.val (Value.int .i64 (k3 : Int)) _ (op_move hf16) rfl ?_
        refine WL.val (Value.int .i64 (w64 ((k3 : Int) + (1 : Int)))) _ (op_add rfl rfl) rfl ?_
        refine WL.val (Value.int .i64 (w64 ((k3 : Int) + (1 : Int)))) _ (op_assign rfl) rfl ?_
        refine WL.nil ?_
        obtain rfl := Option.some.inj hb9
        show ∃ s, _ = Ctl.next s ∧ _
        exact ⟨_, rfl, hf13, rfl, (inR_wrap _ _), (ctr_next hl20 hr19), (ctr_rng hl20 hr19), hS18⟩
    · intro x37 f32 wd33 hs34 hI35
      replace hI35 : f32 0 = v_a ∧ f32 1 = Value.int .i64 x37 ∧ InR .i64 x37 ∧ f32 5 = Value.int .i64 (((a).length : Nat) : Int) ∧ InR .i64 (((a).length : Nat) : Int) ∧ St w wd33 [] := hI35
      obtain ⟨hf38, hf39, hr40, hf41, hr42, hS43⟩ := hI35
      refine W.seq (W.seq (W.region ?_))
      refine WL.val (Value.int .i64 (((a).length : Nat) : Int)) _ (op_move hf41) rfl ?_
      refine WL.val v_a _ (op_move hf38) rfl ?_
      have hr44 := inR_len (Ty.lift _ hS43.ext r_a)
      refine WL.val (Value.int .i64 ((a).length : Int)) _ (op_lenL sl_33 (Ty.lift _ hS43.ext r_a) rfl) rfl ?_
      refine WL.val (Value.bool (decide ((((a).length : Nat) : Int) < ((a).length : Int)))) _ (op_lss rfl rfl) rfl ?_
      have hl45 : ¬ (((a).length : Nat) : Int) < ((a).length : Int) := by omega
      refine WL.nil ?_
      refine W.condF (decide ((((a).length : Nat) : Int) < ((a).length : Int))) rfl (decide_eq_false hl45) ?_
      refine W.exit ?_
      show _ = _ ∧ _
      exact ⟨rfl, _, hs34, hf39, hr40, hS43⟩
  · rintro f46 wd47 ⟨x50, rfl, hq48⟩
    replace h := onRes_fin h
    replace hq48 : f46 1 = Value.int .i64 x50 ∧ InR .i64 x50 ∧ St w wd47 [] := hq48
    obtain ⟨hf51, hr52, hS53⟩ := hq48
    refine W.seq (W.region ?_)
    refine WL.val (Value.int .i64 x50) _ (op_move hf51) rfl ?_
    refine WL.val (Value.int .i64 x50) _ (op_assign rfl) rfl ?_
    refine WL.nil ?_
    refine W.ret ?_
    obtain rfl := Option.some.inj h
    show FinP _ _ _ _ _ _ _
    exact FinP.ret _ (res1 rfl rfl) ⟨rfl, hr52, hS53.ext⟩

theorem c_spec_l05Subrings {w : World} {r_Table : (List (List (List Int)))} {v_r_Table : Value} (r_r_Table : (Ty.sl (Ty.sl (Ty.sl (Ty.i .i64)))).rep w v_r_Table r_Table) {res : (List Int)} (h : p_spec_l05Subrings r_Table  = some res) :
    Ret Tryd.prog 50 #[(Value.agg #[v_r_Table])] w (fun v w' => ∃ (u0 : Value), v = u0 ∧ Ext w w' ∧ Sep w.heap.size w' [(Ty.sl (Ty.i .i64)).at u0 res]) := by
  unfold p_spec_l05Subrings at h
  have hS0 : St w w [] := St.start w
  refine Ret.start (fn := Tryd.f50) Tryd.func50 rfl 20 rfl rfl ?_
  refine W.seq (W.region ?_)
  refine WL.box hS0 rfl (cs := [v_r_Table]) rfl rfl ?_
  intro b1 wd2 hS3 he4 hx5
  replace hS3 : St w wd2 [bx b1 [v_r_Table]] := hS3
  have hx6 := St.boxAt hS3 0 rfl
  have hE7 : Ext w wd2 := hS3.ext
  have hS8 : St wd2 wd2 [] := St.start wd2
  refine WL.val (Value.slice none 0 0) _ (op_assign rfl) rfl ?_
  refine WL.nil ?_
  refine W.seq (W.region ?_)
  refine WL.lit0 (t := (Ty.i .i64)) hS8 sl_33 rfl rfl ?_
  intro u9 wd10 hS11 he12
  replace hS11 : St wd2 wd10 [(Ty.sl (Ty.i .i64)).at u9 ([] : (List Int))] := hS11
  refine WL.val u9 _ (op_assign rfl) rfl ?_
  refine WL.nil ?_
  refine W.seq (W.seq (W.region ?_))
  refine WL.val (Value.int .i64 (1 : Int)) _ (op_assign rfl) rfl ?_
  refine WL.nil ?_
  show W _ _ _ _ _ _
  obtain ⟨res13, hres14, h⟩ := bs h
  refine W.blockLoop (fun fq wq => ∃ s, res13 = Res.fin s ∧ ∃ (uu0 : Value), fq 3 = uu0 ∧ St wd2 wq [(Ty.sl (Ty.i .i64)).at uu0 s.1]) ?_ ?_
  · refine W.whileC (fun (s : (List Int) × Int) fq wq => ∃ (uu0 : Value), fq 1 = (Value.pointer (some ⟨b1, 0, none⟩)) ∧ fq 3 = uu0 ∧ fq 4 = Value.int .i64 s.2 ∧ InR .i64 s.2 ∧ St wd2 wq [(Ty.sl (Ty.i .i64)).at uu0 s.1]) hres14 ⟨u9, rfl, rfl, rfl, (inL rfl), hS11⟩ ?_
    intro s68 ct18 f19 wd20 hb22 hI23 hbrk24 hret25
    obtain ⟨x16, x17⟩ := s68
    replace hI23 : ∃ (uu0 : Value), f19 1 = (Value.pointer (some ⟨b1, 0, none⟩)) ∧ f19 3 = uu0 ∧ f19 4 = Value.int .i64 x17 ∧ InR .i64 x17 ∧ St wd2 wd20 [(Ty.sl (Ty.i .i64)).at uu0 x16] := hI23
    replace hb22 : p_spec_l05Subrings_L1 r_Table  x16 x17 = some ct18 := hb22
    unfold p_spec_l05Subrings_L1 at hb22
    obtain ⟨u26, hf27, hf28, hf29, hr30, hS31⟩ := hI23
    refine W.seq (W.seq (W.region ?_))
    refine WL.val (Value.int .i64 x17) _ (op_move hf29) rfl ?_
    refine WL.val (Value.agg #[v_r_Table]) _ (op_loadBox st_26 hf27 (BoxAt.lift hS31.ext hx6) rfl rfl) rfl ?_
    obtain ⟨x32, hx33, hb22⟩ := bs hb22
    refine WL.call _ (op_call fn_54 (args1 rfl)) (c_spec_l05All (Ty.lift _ (Ext.trans hE7 hS31.ext) r_r_Table) hx33) rfl ?_
    rintro _ wd35 ⟨rfl, hr34, he36⟩
    have hS38 := St.extend hS31 he36
    replace hS38 : St wd2 wd35 [(Ty.sl (Ty.i .i64)).at u26 x16] := hS38
    refine WL.val (Value.bool (decide (x17 ≤ x32))) _ (op_leq rfl rfl) rfl ?_
    refine WL.nil ?_
    refine W.cond (decide (x17 ≤ x32)) rfl (fun hc39 => ?_) (fun hc39 => ?_)
    · replace hb22 := ip hb22 hc39
      refine W.skip ?_
      refine W.seq ?_
      refine W.block ?_
      refine W.seq (W.region ?_)
      refine WL.val (Value.agg #[v_r_Table]) _ (op_loadBox st_26 hf27 (BoxAt.lift hS38.ext hx6) rfl rfl) rfl ?_
      refine WL.val (Value.int .i64 x17) _ (op_move hf29) rfl ?_
      obtain ⟨x41, hx42, hb22⟩ := bs hb22
      refine WL.call _ (op_call fn_31 (args2 rfl rfl)) (c_spec_l05Is (Ty.lift _ (Ext.trans hE7 hS38.ext) r_r_Table) hr30 hx42) rfl ?_
      rintro _ wd43 ⟨rfl, he44⟩
      have hS46 := St.extend hS38 he44
      replace hS46 : St wd2 wd43 [(Ty.sl (Ty.i .i64)).at u26 x16] := hS46
      refine WL.nil ?_
      show W _ _ _ _ _ _
      obtain ⟨x47, hj48, hb22⟩ := bs hb22
      refine W.cutCode (fun fq wq => ∃ (uu0 : Value), fq 1 = (Value.pointer (some ⟨b1, 0, none⟩)) ∧ fq 3 = uu0 ∧ fq 4 = (Value.int .i64 x17) ∧ St wd2 wq [(Ty.sl (Ty.i .i64)).at uu0 x47]) ?_ ?_
      · refine W.cond x41 rfl (fun hc49 => ?_) (fun hc49 => ?_)
        · replace hj48 := ip hj48 hc49
          refine W.region ?_
          refine WL.val u26 _ (op_move hf28) rfl ?_
          refine WL.val (Value.int .i64 x17) _ (op_move hf29) rfl ?_
          refine WL.litFlat (t := (Ty.i .i64)) (flat_i .i64) [(Value.int .i64 x17)] [x17] hS46 sl_33 rfl rfl (fillL rfl ⟨rfl, rfl, rfl, trivial⟩) rfl rfl (litL ⟨⟨rfl, hr30⟩, trivial⟩) rfl ?_
          intro u50 wd51 hS52 he53
          replace hS52 : St wd2 wd51 [(Ty.sl (Ty.i .i64)).at u26 x16, (Ty.sl (Ty.i .i64)).at u50 ([x17] : (List Int))] := hS52
          obtain ⟨x54, hx55, hj48⟩ := bs hj48
          refine WL.append (flat_i .i64) hS52 (k := 0) rfl sl_33 rfl rfl rfl rfl (St.rep (t := (Ty.sl (Ty.i .i64))) hS52 1 rfl) hx55 rfl ?_
          intro u56 wd57 hS58 hz59
          replace hS58 : St wd2 wd57 [(Ty.sl (Ty.i .i64)).at u56 x54, (Ty.sl (Ty.i .i64)).at u50 ([x17] : (List Int))] := hS58
          refine WL.val u56 _ (op_assign rfl) rfl ?_
          refine WL.nil ?_
          obtain rfl := Option.some.inj hj48
          exact ⟨u56, hf27, rfl, hf29, (St.pick hS58 [0] rfl)⟩
        · replace hj48 := inegb hj48 hc49
          refine W.skip ?_
          obtain rfl := Option.some.inj hj48
          exact ⟨u26, hf27, hf28, hf29, hS46⟩
      · intro f60 wd61 hq62
        obtain ⟨u63, hf64, hf65, hf66, hS67⟩ := hq62
        show W _ _ _ _ _ _
        refine W.region ?_
        refine WL.val (Value.int .i64 x17) _ (op_move hf66) rfl ?_
        refine WL.val (Value.int .i64 (w64 (x17 + (2 : Int)))) _ (op_add rfl rfl) rfl ?_
        refine WL.val (Value.int .i64 (w64 (x17 + (2 : Int)))) _ (op_assign rfl) rfl ?_
        refine WL.nil ?_
        obtain rfl := Option.some.inj hb22
        show ∃ s, _ = Ctl.next s ∧ _
        exact ⟨_, rfl, u63, hf64, hf65, rfl, (inR_wrap _ _), hS67⟩
    · replace hb22 := inegb hb22 hc39
      refine W.exit ?_
      obtain rfl := Option.some.inj hb22
      show _ = _ ∧ _
      exact ⟨rfl, _, hbrk24 _ rfl, u26, hf28, hS38⟩
  · rintro f69 wd70 ⟨s72, rfl, hq71⟩
    replace h := onRes_fin h
    obtain ⟨x73, x74⟩ := s72
    replace hq71 : ∃ (uu0 : Value), f69 3 = uu0 ∧ St wd2 wd70 [(Ty.sl (Ty.i .i64)).at uu0 x73] := hq71
    replace h : (_ : Option _) = _ := h
    dsimp only at h
    obtain ⟨u75, hf76, hS77⟩ := hq71
    refine W.seq (W.region ?_)
    refine WL.val u75 _ (op_move hf76) rfl ?_
    refine WL.val u75 _ (op_assign rfl) rfl ?_
    refine WL.nil ?_
    refine W.ret ?_
    obtain rfl := Option.some.inj h
    show FinP _ _ _ _ _ _ _
    exact FinP.ret _ (res1 rfl rfl) ⟨u75, rfl, (Ext.trans hE7 hS77.ext), (St.out (St.pick hS77 [0] rfl) (hE7))⟩

theorem c_spec_SubringsOf {w : World} {r_Table : (List (List (List Int)))} {v_r_Table : Value} (r_r_Table : (Ty.sl (Ty.sl (Ty.sl (Ty.i .i64)))).rep w v_r_Table r_Table) {res : (List Int) × Int} (h : p_spec_SubringsOf r_Table  = some res) :
    Ret Tryd.prog 27 #[(Value.agg #[v_r_Table])] w (fun v w' => ∃ (u0 : Value), v = (Value.tuple #[u0, Value.int .i64 res.2]) ∧ InR .i64 res.2 ∧ Ext w w' ∧ Sep w.heap.size w' [(Ty.sl (Ty.i .i64)).at u0 res.1]) := by
  unfold p_spec_SubringsOf at h
  have hS0 : St w w [] := St.start w
  refine Ret.start (fn := Tryd.f27) Tryd.func27 rfl 9 rfl rfl ?_
  refine W.seq (W.region ?_)
  refine WL.box hS0 rfl (cs := [v_r_Table]) rfl rfl ?_
  intro b1 wd2 hS3 he4 hx5
  replace hS3 : St w wd2 [bx b1 [v_r_Table]] := hS3
  have hx6 := St.boxAt hS3 0 rfl
  have hE7 : Ext w wd2 := hS3.ext
  have hS8 : St wd2 wd2 [] := St.start wd2
  refine WL.val (Value.slice none 0 0) _ (op_assign rfl) rfl ?_
  refine WL.val (Value.int .i64 (0 : Int)) _ (op_assign rfl) rfl ?_
  refine WL.nil ?_
  refine W.seq (W.seq (W.region ?_))
  refine WL.val (Value.agg #[v_r_Table]) _ (op_loadBox st_26 rfl (BoxAt.lift hS8.ext hx6) rfl rfl) rfl ?_
  obtain ⟨x9, hx10, h⟩ := bs h
  refine WL.call _ (op_call fn_40 (args1 rfl)) (c_spec_l03Is (Ty.lift _ (Ext.trans hE7 hS8.ext) r_r_Table) hx10) rfl ?_
  rintro _ wd11 ⟨rfl, he12⟩
  have hS14 := St.extend hS8 he12
  replace hS14 : St wd2 wd11 [] := hS14
  refine WL.val (Value.bool (!x9)) _ (op_not rfl) rfl ?_
  refine WL.nil ?_
  refine W.cond (!x9) rfl (fun hc15 => ?_) (fun hc15 => ?_)
  · replace h := ip h hc15
    refine W.seq (W.region ?_)
    refine WL.val (Value.slice none 0 0) _ (op_assign rfl) rfl ?_
    refine WL.val (Value.int .i64 (1 : Int)) _ (op_assign rfl) rfl ?_
    refine WL.nil ?_
    refine W.ret ?_
    obtain rfl := Option.some.inj h
    show FinP _ _ _ _ _ _ _
    exact FinP.ret _ (res2 rfl rfl rfl) ⟨(Value.slice none 0 0), rfl, (inL rfl), (Ext.trans hE7 hS14.ext), (St.out (St.pick (St.addNil (Ty.i .i64) hS14) [0] rfl) (hE7))⟩
  · replace h := inegb h hc15
    refine W.skip ?_
    refine W.seq (W.region ?_)
    refine WL.val (Value.agg #[v_r_Table]) _ (op_loadBox st_26 rfl (BoxAt.lift hS14.ext hx6) rfl rfl) rfl ?_
    obtain ⟨x17, hx18, h⟩ := bs h
    refine WL.call _ (op_call fn_50 (args1 rfl)) (c_spec_l05Subrings (Ty.lift _ (Ext.trans hE7 hS14.ext) r_r_Table) hx18) rfl ?_
    rintro u19 wd20 ⟨_, rfl, he21, hs22⟩
    have hS23 := St.join hS14 he21 hs22
    replace hS23 : St wd2 wd20 [(Ty.sl (Ty.i .i64)).at u19 x17] := hS23
    refine WL.val u19 _ (op_assign rfl) rfl ?_
    refine WL.val (Value.int .i64 (0 : Int)) _ (op_assign rfl) rfl ?_
    refine WL.nil ?_
    refine W.ret ?_
    obtain rfl := Option.some.inj h
    show FinP _ _ _ _ _ _ _
    exact FinP.ret _ (res2 rfl rfl rfl) ⟨u19, rfl, (inL rfl), (Ext.trans hE7 hS23.ext), (St.out (St.pick hS23 [0] rfl) (hE7))⟩

theorem c_impl_isClosed {w : World} {supports : (List (List Int))} {v_supports : Value} {dual : (List Int)} {v_dual : Value} {set : Int} (tb : TabAt w) (r_supports : (Ty.sl (Ty.sl (Ty.i .i64))).rep w v_supports supports) (r_dual : (Ty.sl (Ty.i .i64)).rep w v_dual dual) (r_set : InR .i64 set) {res : Bool} (h : p_impl_isClosed supports dual set  = some res) :
    Ret Tryd.prog 73 #[v_supports, v_dual, (Value.int .i64 set)] w (fun v w' => v = Value.bool res ∧ Ext w w') := by
  unfold p_impl_isClosed at h
  have hS0 : St w w [] := St.start w
  refine Ret.start (fn := Tryd.f73) Tryd.func73 rfl 46 rfl rfl ?_
  refine W.seq (W.region ?_)
  refine WL.val (Value.bool false) _ (op_assign rfl) rfl ?_
  refine WL.nil ?_
  refine W.seq (W.region ?_)
  refine WL.val (Value.int .i64 set) _ (op_move rfl) rfl ?_
  obtain ⟨x1, hx2, h⟩ := bs h
  refine WL.call _ (op_call fn_49 (args1 rfl)) (c_impl_labelsIn (tb.ext hS0.ext) r_set hx2) rfl ?_
  rintro u3 wd4 ⟨_, rfl, he5, hs6⟩
  have hS7 := St.join hS0 he5 hs6
  replace hS7 : St w wd4 [(Ty.sl (Ty.i .i64)).at u3 x1] := hS7
  have hb8 := St.rep (t := (Ty.sl (Ty.i .i64))) hS7 0 rfl
  have hE9 : Ext w wd4 := hS7.ext
  have hS10 : St wd4 wd4 [] := St.start wd4
  refine WL.val u3 _ (op_assign rfl) rfl ?_
  refine WL.nil ?_
  refine W.seq (W.seq (W.region ?_))
  refine WL.val u3 _ (op_move rfl) rfl ?_
  have hr11 := inR_len (Ty.lift _ hS10.ext hb8)
  refine WL.val (Value.int .i64 ((x1).length : Int)) _ (op_lenL sl_61 (Ty.lift _ hS10.ext hb8) rfl) rfl ?_
  refine WL.val (Value.int .i64 (0 : Int)) _ (op_move rfl) rfl ?_
  refine WL.nil ?_
  show W _ _ _ _ _ _
  obtain ⟨res12, hres13, h⟩ := bs h
  refine W.blockLoop (fun fq wq => ∃ s, res12 = Res.fin s ∧ St wd4 wq []) ?_ ?_
  · refine W.forN (fun k (s : Unit) fq wq => fq 0 = v_supports ∧ fq 1 = v_dual ∧ fq 2 = (Value.int .i64 set) ∧ fq 7 = u3 ∧ fq 14 = u3 ∧ fq 15 = (Value.int .i64 ((x1).length : Int)) ∧ fq 16 = Value.int .i64 (k : Int) ∧ InR .i64 (k : Int) ∧ St wd4 wq []) hres13 ⟨rfl, rfl, rfl, rfl, rfl, rfl, rfl, (inL rfl), hS10⟩ ?_ ?_
    · intro k14 s137 ct15 f16 wd17 hk18 hb19 hI20 hbrk21 hret22
      obtain ⟨⟩ := s137
      replace hI20 : f16 0 = v_supports ∧ f16 1 = v_dual ∧ f16 2 = (Value.int .i64 set) ∧ f16 7 = u3 ∧ f16 14 = u3 ∧ f16 15 = (Value.int .i64 ((x1).length : Int)) ∧ f16 16 = Value.int .i64 (k14 : Int) ∧ InR .i64 (k14 : Int) ∧ St wd4 wd17 [] := hI20
      replace hb19 : p_impl_isClosed_L1 x1 dual set supports k14  = some ct15 := hb19
      unfold p_impl_isClosed_L1 at hb19
      obtain ⟨hf23, hf24, hf25, hf26, hf27, hf28, hf29, hr30, hS31⟩ := hI20
      refine W.seq (W.region ?_)
      refine WL.val (Value.bool (decide ((k14 : Int) < ((x1).length : Int)))) _ (op_lss hf29 hf28) rfl ?_
      have hl32 : (k14 : Int) < ((x1).length : Int) := by omega
      refine WL.nil ?_
      refine W.seq ?_
      refine W.condT (decide ((k14 : Int) < ((x1).length : Int))) rfl (decide_eq_true hl32) ?_
      refine W.skip ?_
      refine W.seq ?_
      refine W.block ?_
      refine W.seq (W.region ?_)
      obtain ⟨x34, hx37, hb19⟩ := bs hb19
      obtain ⟨ha35, hb36, hx37⟩ := idx_some hx37
      refine WL.val (Value.pointer (some (elA u3 ((k14 : Int)).toNat))) _ (op_idx sl_61 (Ty.lift _ hS31.ext hb8) hf27 hf29 ha35 hb36) rfl ?_
      obtain ⟨u38, hc39, hr40⟩ := repSl.el hb8 hx37
      obtain ⟨rfl, hr40⟩ := hr40
      refine WL.val (Value.int .i64 x34) _ (op_load one_3 rfl (Ext.cell hS31.ext hc39)) rfl ?_
      refine WL.val (Value.int .i64 x34) _ (op_assign rfl) rfl ?_
      refine WL.nil ?_
      refine W.seq (W.seq (W.region ?_))
      refine WL.val (Value.int .i64 set) _ (op_move hf25) rfl ?_
      refine WL.val v_dual _ (op_move hf24) rfl ?_
      refine WL.val (Value.int .i64 x34) _ (op_move rfl) rfl ?_
      obtain ⟨x41, hx44, hb19⟩ := bs hb19
      obtain ⟨ha42, hb43, hx44⟩ := idx_some hx44
      refine WL.val (Value.pointer (some (elA v_dual (x34).toNat))) _ (op_idx sl_61 (Ty.lift _ (Ext.trans hE9 hS31.ext) r_dual) rfl rfl ha42 hb43) rfl ?_
      obtain ⟨u45, hc46, hr47⟩ := repSl.el r_dual hx44
      obtain ⟨rfl, hr47⟩ := hr47
      refine WL.val (Value.int .i64 x41) _ (op_load one_3 rfl (Ext.cell (Ext.trans hE9 hS31.ext) hc46)) rfl ?_
      obtain ⟨x48, hz49, hb19⟩ := bs hb19
      obtain ⟨h050, hz49⟩ := shrI_some hz49
      have hr51 : InR .i64 x48 := by rw [hz49]; exact inR_fdiv _ r_set
      refine WL.val (Value.int .i64 x48) _ (by rw [hz49]; exact op_shr rfl rfl h050) rfl ?_
      refine WL.val (Value.int .i64 (andI .i64 x48 (1 : Int))) _ (op_and rfl rfl) rfl ?_
      refine WL.val (Value.bool ((andI .i64 x48 (1 : Int)) == (0 : Int))) _ (op_eql rfl rfl) rfl ?_
      refine WL.nil ?_
      refine W.cond ((andI .i64 x48 (1 : Int)) == (0 : Int)) rfl (fun hc52 => ?_) (fun hc52 => ?_)
      · replace hb19 := ip hb19 hc52
        refine W.seq (W.region ?_)
        refine WL.val (Value.bool false) _ (op_assign rfl) rfl ?_
        refine WL.nil ?_
        refine W.ret ?_
        obtain rfl := Option.some.inj hb19
        obtain rfl := hret22 _ rfl
        replace h := onRes_ret h
        obtain rfl := Option.some.inj h
        show FinP _ _ _ _ _ _ _
        exact FinP.ret _ (res1 rfl rfl) ⟨rfl, (Ext.trans hE9 hS31.ext)⟩
      · replace hb19 := inegb hb19 hc52
        refine W.skip ?_
        refine W.seq (W.region ?_)
        refine WL.val u3 _ (op_move hf26) rfl ?_
        have hr54 := inR_len (Ty.lift _ hS31.ext hb8)
        refine WL.val (Value.int .i64 ((x1).length : Int)) _ (op_lenL sl_61 (Ty.lift _ hS31.ext hb8) rfl) rfl ?_
        refine WL.val (Value.int .i64 (0 : Int)) _ (op_move rfl) rfl ?_
        refine WL.nil ?_
        show W _ _ _ _ _ _
        obtain ⟨res55, hres56, hb19⟩ := bs hb19
        refine W.blockLoop (fun fq wq => ∃ s, res55 = Res.fin s ∧ fq 0 = v_supports ∧ fq 1 = v_dual ∧ fq 2 = (Value.int .i64 set) ∧ fq 7 = u3 ∧ fq 14 = u3 ∧ fq 15 = (Value.int .i64 ((x1).length : Int)) ∧ fq 16 = (Value.int .i64 (k14 : Int)) ∧ St wd4 wq []) ?_ ?_
        · refine W.forN (fun k (s : Unit) fq wq => fq 0 = v_supports ∧ fq 1 = v_dual ∧ fq 2 = (Value.int .i64 set) ∧ fq 7 = u3 ∧ fq 9 = (Value.int .i64 x34) ∧ fq 14 = u3 ∧ fq 15 = (Value.int .i64 ((x1).length : Int)) ∧ fq 16 = (Value.int .i64 (k14 : Int)) ∧ fq 28 = u3 ∧ fq 29 = (Value.int .i64 ((x1).length : Int)) ∧ fq 30 = Value.int .i64 (k : Int) ∧ InR .i64 (k : Int) ∧ St wd4 wq []) hres56 ⟨hf23, hf24, hf25, hf26, rfl, hf27, hf28, hf29, rfl, rfl, rfl, (inL rfl), hS31⟩ ?_ ?_
          · intro k57 s104 ct58 f59 wd60 hk61 hb62 hI63 hbrk64 hret65
            obtain ⟨⟩ := s104
            replace hI63 : f59 0 = v_supports ∧ f59 1 = v_dual ∧ f59 2 = (Value.int .i64 set) ∧ f59 7 = u3 ∧ f59 9 = (Value.int .i64 x34) ∧ f59 14 = u3 ∧ f59 15 = (Value.int .i64 ((x1).length : Int)) ∧ f59 16 = (Value.int .i64 (k14 : Int)) ∧ f59 28 = u3 ∧ f59 29 = (Value.int .i64 ((x1).length : Int)) ∧ f59 30 = Value.int .i64 (k57 : Int) ∧ InR .i64 (k57 : Int) ∧ St wd4 wd60 [] := hI63
            replace hb62 : p_impl_isClosed_L2 x1 supports x34 set k57  = some ct58 := hb62
            unfold p_impl_isClosed_L2 at hb62
            obtain ⟨hf66, hf67, hf68, hf69, hf70, hf71, hf72, hf73, hf74, hf75, hf76, hr77, hS78⟩ := hI63
            refine W.seq (W.region ?_)
            refine WL.val (Value.bool (decide ((k57 : Int) < ((x1).length : Int)))) _ (op_lss hf76 hf75) rfl ?_
            have hl79 : (k57 : Int) < ((x1).length : Int) := by omega
            refine WL.nil ?_
            refine W.seq ?_
            refine W.condT (decide ((k57 : Int) < ((x1).length : Int))) rfl (decide_eq_true hl79) ?_
            refine W.skip ?_
            refine W.seq ?_
            refine W.block ?_
            refine W.seq (W.region ?_)
            obtain ⟨x81, hx84, hb62⟩ := bs hb62
            obtain ⟨ha82, hb83, hx84⟩ := idx_some hx84
            refine WL.val (Value.pointer (some (elA u3 ((k57 : Int)).toNat))) _ (op_idx sl_61 (Ty.lift _ hS78.ext hb8) hf74 hf76 ha82 hb83) rfl ?_
            obtain ⟨u85, hc86, hr87⟩ := repSl.el hb8 hx84
            obtain ⟨rfl, hr87⟩ := hr87
            refine WL.val (Value.int .i64 x81) _ (op_load one_3 rfl (Ext.cell hS78.ext hc86)) rfl ?_
            refine WL.val (Value.int .i64 x81) _ (op_assign rfl) rfl ?_
            refine WL.nil ?_
            refine W.seq (W.region ?_)
            refine WL.val v_supports _ (op_move hf66) rfl ?_
            refine WL.val (Value.int .i64 x34) _ (op_move hf70) rfl ?_
            obtain ⟨x88, hx91, hb62⟩ := bs hb62
            obtain ⟨ha89, hb90, hx91⟩ := idx_some hx91
            refine WL.val (Value.pointer (some (elA v_supports (x34).toNat))) _ (op_idx sl_41 (Ty.lift _ (Ext.trans hE9 hS78.ext) r_supports) rfl rfl ha89 hb90) rfl ?_
            obtain ⟨u92, hc93, hr94⟩ := repSl.el r_supports hx91
            refine WL.val u92 _ (op_load one_33 rfl (Ext.cell (Ext.trans hE9 hS78.ext) hc93)) rfl ?_
            refine WL.val (Value.int .i64 x81) _ (op_move rfl) rfl ?_
            obtain ⟨x95, hx98, hb62⟩ := bs hb62
            obtain ⟨ha96, hb97, hx98⟩ := idx_some hx98
            refine WL.val (Value.pointer (some (elA u92 (x81).toNat))) _ (op_idx sl_33 (Ty.lift _ (Ext.trans hE9 hS78.ext) hr94) rfl rfl ha96 hb97) rfl ?_
            obtain ⟨u99, hc100, hr101⟩ := repSl.el hr94 hx98
            obtain ⟨rfl, hr101⟩ := hr101
            refine WL.val (Value.int .i64 x95) _ (op_load one_2 rfl (Ext.cell (Ext.trans hE9 hS78.ext) hc100)) rfl ?_
            refine WL.val (Value.int .i64 set) _ (op_move hf68) rfl ?_
            refine WL.val (Value.int .i64 (andNotI .i64 x95 set)) _ (op_andNot rfl rfl) rfl ?_
            refine WL.val (Value.bool ((andNotI .i64 x95 set) != (0 : Int))) _ (op_neq rfl rfl) rfl ?_
            refine WL.nil ?_
            refine W.cond ((andNotI .i64 x95 set) != (0 : Int)) rfl (fun hc102 => ?_) (fun hc102 => ?_)
            · replace hb62 := ip hb62 hc102
              refine W.seq (W.region ?_)
              refine WL.val (Value.bool false) _ (op_assign rfl) rfl ?_
              refine WL.nil ?_
              refine W.ret ?_
              obtain rfl := Option.some.inj hb62
              obtain rfl := hret65 _ rfl
              replace hb19 := onRes_ret hb19
              obtain rfl := Option.some.inj hb19
              obtain rfl := hret22 _ rfl
              replace h := onRes_ret h
              obtain rfl := Option.some.inj h
              show FinP _ _ _ _ _ _ _
              exact FinP.ret _ (res1 rfl rfl) ⟨rfl, (Ext.trans hE9 hS78.ext)⟩
            · replace hb62 := inegb hb62 hc102
              refine W.skip ?_
              show W _ _ _ _ _ _
              refine W.region ?_
              refine WL.val (Value.int .i64 (w64 ((k57 : Int) + (1 : Int)))) _ (op_add hf76 rfl) rfl ?_
              refine WL.val (Value.int .i64 (w64 ((k57 : Int) + (1 : Int)))) _ (op_move rfl) rfl ?_
              refine WL.nil ?_
              obtain rfl := Option.some.inj hb62
              show ∃ s, _ = Ctl.next s ∧ _
              exact ⟨_, rfl, hf66, hf67, hf68, hf69, hf70, hf71, hf72, hf73, hf74, hf75, (ctr_next hl79 hr54), (ctr_rng hl79 hr54), hS78⟩
          · intro s109 f105 wd106 hs107 hI108
            obtain ⟨⟩ := s109
            replace hI108 : f105 0 = v_supports ∧ f105 1 = v_dual ∧ f105 2 = (Value.int .i64 set) ∧ f105 7 = u3 ∧ f105 9 = (Value.int .i64 x34) ∧ f105 14 = u3 ∧ f105 15 = (Value.int .i64 ((x1).length : Int)) ∧ f105 16 = (Value.int .i64 (k14 : Int)) ∧ f105 28 = u3 ∧ f105 29 = (Value.int .i64 ((x1).length : Int)) ∧ f105 30 = Value.int .i64 (((x1).length : Nat) : Int) ∧ InR .i64 (((x1).length : Nat) : Int) ∧ St wd4 wd106 [] := hI108
            obtain ⟨hf110, hf111, hf112, hf113, hf114, hf115, hf116, hf117, hf118, hf119, hf120, hr121, hS122⟩ := hI108
            refine W.seq (W.region ?_)
            refine WL.val (Value.bool (decide ((((x1).length : Nat) : Int) < ((x1).length : Int)))) _ (op_lss hf120 hf119) rfl ?_
            have hl123 : ¬ (((x1).length : Nat) : Int) < ((x1).length : Int) := by omega
            refine WL.nil ?_
            refine W.seq ?_
            refine W.condF (decide ((((x1).length : Nat) : Int) < ((x1).length : Int))) rfl (decide_eq_false hl123) ?_
            refine W.exit ?_
            show _ = _ ∧ _
            exact ⟨rfl, _, hs107, hf110, hf111, hf112, hf113, hf115, hf116, hf117, hS122⟩
        · rintro f124 wd125 ⟨s127, rfl, hq126⟩
          replace hb19 := onRes_fin hb19
          obtain ⟨⟩ := s127
          replace hq126 : f124 0 = v_supports ∧ f124 1 = v_dual ∧ f124 2 = (Value.int .i64 set) ∧ f124 7 = u3 ∧ f124 14 = u3 ∧ f124 15 = (Value.int .i64 ((x1).length : Int)) ∧ f124 16 = (Value.int .i64 (k14 : Int)) ∧ St wd4 wd125 [] := hq126
          obtain ⟨hf128, hf129, hf130, hf131, hf132, hf133, hf134, hS135⟩ := hq126
          show W _ _ _ _ _ _
          refine W.region ?_
          refine WL.val (Value.int .i64 (w64 ((k14 : Int) + (1 : Int)))) _ (op_add hf134 rfl) rfl ?_
          refine WL.val (Value.int .i64 (w64 ((k14 : Int) + (1 : Int)))) _ (op_move rfl) rfl ?_
          refine WL.nil ?_
          obtain rfl := Option.some.inj hb19
          show ∃ s, _ = Ctl.next s ∧ _
          exact ⟨_, rfl, hf128, hf129, hf130, hf131, hf132, hf133, (ctr_next hl32 hr11), (ctr_rng hl32 hr11), hS135⟩
    · intro s142 f138 wd139 hs140 hI141
      obtain ⟨⟩ := s142
      replace hI141 : f138 0 = v_supports ∧ f138 1 = v_dual ∧ f138 2 = (Value.int .i64 set) ∧ f138 7 = u3 ∧ f138 14 = u3 ∧ f138 15 = (Value.int .i64 ((x1).length : Int)) ∧ f138 16 = Value.int .i64 (((x1).length : Nat) : Int) ∧ InR .i64 (((x1).length : Nat) : Int) ∧ St wd4 wd139 [] := hI141
      obtain ⟨hf143, hf144, hf145, hf146, hf147, hf148, hf149, hr150, hS151⟩ := hI141
      refine W.seq (W.region ?_)
      refine WL.val (Value.bool (decide ((((x1).length : Nat) : Int) < ((x1).length : Int)))) _ (op_lss hf149 hf148) rfl ?_
      have hl152 : ¬ (((x1).length : Nat) : Int) < ((x1).length : Int) := by omega
      refine WL.nil ?_
      refine W.seq ?_
      refine W.condF (decide ((((x1).length : Nat) : Int) < ((x1).length : Int))) rfl (decide_eq_false hl152) ?_
      refine W.exit ?_
      show _ = _ ∧ _
      exact ⟨rfl, _, hs140, hS151⟩
  · rintro f153 wd154 ⟨s156, rfl, hq155⟩
    replace h := onRes_fin h
    obtain ⟨⟩ := s156
    replace hq155 : St wd4 wd154 [] := hq155
    have hS157 := hq155
    refine W.seq (W.region ?_)
    refine WL.val (Value.bool true) _ (op_assign rfl) rfl ?_
    refine WL.nil ?_
    refine W.ret ?_
    obtain rfl := Option.some.inj h
    show FinP _ _ _ _ _ _ _
    exact FinP.ret _ (res1 rfl rfl) ⟨rfl, (Ext.trans hE9 hS157.ext)⟩

theorem c_impl_Ring_subrings {w : World} {r_Table : (List (List (List Int)))} {v_r_Table : Value} (tb : TabAt w) (r_r_Table : (Ty.sl (Ty.sl (Ty.sl (Ty.i .i64)))).rep w v_r_Table r_Table) {res : (List Int)} (h : p_impl_Ring_subrings r_Table  = some res) :
    Ret Tryd.prog 51 #[(Value.agg #[v_r_Table])] w (fun v w' => ∃ (u0 : Value), v = u0 ∧ Ext w w' ∧ Sep w.heap.size w' [(Ty.sl (Ty.i .i64)).at u0 res]) := by
  unfold p_impl_Ring_subrings at h
  have hS0 : St w w [] := St.start w
  refine Ret.start (fn := Tryd.f51) Tryd.func51 rfl 26 rfl rfl ?_
  refine W.seq (W.region ?_)
  refine WL.box hS0 rfl (cs := [v_r_Table]) rfl rfl ?_
  intro b1 wd2 hS3 he4 hx5
  replace hS3 : St w wd2 [bx b1 [v_r_Table]] := hS3
  have hx6 := St.boxAt hS3 0 rfl
  have hE7 : Ext w wd2 := hS3.ext
  have hS8 : St wd2 wd2 [] := St.start wd2
  refine WL.val (Value.slice none 0 0) _ (op_assign rfl) rfl ?_
  refine WL.nil ?_
  refine W.seq ?_
  obtain ⟨x26, hx27, h⟩ := bs h
  obtain ⟨x49, hx50, h⟩ := bs h
  refine W.drawR mixo 7 [] [fun _ v S w' => v = (Value.agg #[v_r_Table]), fun _ v S w' => SepS S w' [(Ty.sl (Ty.sl (Ty.i .i64))).at v x26], fun _ v S w' => v = (Value.agg #[v_r_Table]), fun _ v S w' => SepS S w' [(Ty.sl (Ty.i .i64)).at v x49], fun _ v S w' => SepS S w' [(Ty.sl (Ty.i .i64)).at v ([] : (List Int))], fun f v _ _ => v = f 8, fun f v _ _ => v = f 10] (by kernel_rfl) (by kernel_rfl) ⟨pk, ⟨fun _ _ _ _ _ he h => SepS.extend he h, fun _ _ _ _ _ _ h => h⟩, pk, ⟨fun _ _ _ _ _ he h => SepS.extend he h, fun _ _ _ _ _ _ h => h⟩, ⟨fun _ _ _ _ _ he h => SepS.extend he h, fun _ _ _ _ _ _ h => h⟩, ⟨fun _ _ _ _ _ _ h => h, fun _ _ _ _ _ hf h => h.trans (hf 1 8 rfl rfl)⟩, ⟨fun _ _ _ _ _ _ h => h, fun _ _ _ _ _ hf h => h.trans (hf 3 10 rfl rfl)⟩, trivial⟩ ⟨?_, ?_, ?_, ?_, ?_, ?_, ?_, trivial⟩ ?_
  · refine ObX.op rfl fun f9 wd10 he11 hout12 hphi13 => ?_
    have hS14 := St.extend hS8 he11
    have e15 : f9 1 = (Value.pointer (some ⟨b1, 0, none⟩)) := (hout12 1 rfl).trans rfl
    exact OpX.val (Value.agg #[v_r_Table]) wd10 rfl (op_loadBox st_26 e15 (BoxAt.lift hS14.ext hx6) rfl rfl) (Ext.refl _) rfl
  · refine ObX.op rfl fun f16 wd17 he18 hout19 hphi20 => ?_
    have hS21 := St.extend hS8 he18
    obtain ⟨S22, hS23, hf24⟩ := hphi20 0 7 _ rfl rfl rfl
    have e25 : f16 7 = (Value.agg #[v_r_Table]) := hf24
    refine OpX.call rfl (op_call fn_47 (args1 e25)) (Ret.mono (c_impl_Ring_supports (Ty.lift _ (Ext.trans hE7 hS21.ext) r_r_Table) hx27) ?_)
    rintro u28 wd29 ⟨_, rfl, he30, hs31⟩
    exact ⟨he30, _, newS _ _, (Sep.new hs31)⟩
  · refine ObX.op rfl fun f32 wd33 he34 hout35 hphi36 => ?_
    have hS37 := St.extend hS8 he34
    have e38 : f32 1 = (Value.pointer (some ⟨b1, 0, none⟩)) := (hout35 1 rfl).trans rfl
    exact OpX.val (Value.agg #[v_r_Table]) wd33 rfl (op_loadBox st_26 e38 (BoxAt.lift hS37.ext hx6) rfl rfl) (Ext.refl _) rfl
  · refine ObX.op rfl fun f39 wd40 he41 hout42 hphi43 => ?_
    have hS44 := St.extend hS8 he41
    obtain ⟨S45, hS46, hf47⟩ := hphi43 2 9 _ rfl rfl rfl
    have e48 : f39 9 = (Value.agg #[v_r_Table]) := hf47
    refine OpX.call rfl (op_call fn_59 (args1 e48)) (Ret.mono (c_impl_Ring_duals (Ty.lift _ (Ext.trans hE7 hS44.ext) r_r_Table) hx50) ?_)
    rintro u51 wd52 ⟨_, rfl, he53, hs54⟩
    exact ⟨he53, _, newS _ _, (Sep.new hs54)⟩
  · refine ObX.op rfl fun f55 wd56 he57 hout58 hphi59 => ?_
    obtain ⟨v61, wd62, ho63, he64, hs65⟩ := mk_litFlat (P := Tryd.prog) (f := f55) (w := wd56) (T := 33) (m := 0) (ps := #[]) (us := []) (t := (Ty.i .i64)) (flat_i .i64) ([] : (List Int)) sl_33 rfl (Nat.le_of_ble_eq_true rfl) (fillL rfl trivial) rfl rfl (litL trivial)
    exact OpX.valO v61 wd62 rfl ho63 he64 (Sep.new hs65)
  · refine ObX.op rfl fun f66 wd67 he68 hout69 hphi70 => ?_
    obtain ⟨S72, hS73, hf74⟩ := hphi70 1 8 _ rfl rfl rfl
    exact OpX.val (f66 8) wd67 rfl (op_assign rfl) (Ext.refl _) rfl
  · refine ObX.op rfl fun f76 wd77 he78 hout79 hphi80 => ?_
    obtain ⟨S82, hS83, hf84⟩ := hphi80 3 10 _ rfl rfl rfl
    exact OpX.val (f76 10) wd77 rfl (op_assign rfl) (Ext.refl _) rfl
  · intro f86 wd87 Ss88 he89 hout90 hSn91 hSd92 hphi93
    show WL _ _ _ _ _ _ _
    have e95 : SepS (Ss88 1) wd87 [(Ty.sl (Ty.sl (Ty.i .i64))).at (f86 8) x26] := hphi93 1 8 _ (by decide) rfl rfl
    have e96 : SepS (Ss88 3) wd87 [(Ty.sl (Ty.i .i64)).at (f86 10) x49] := hphi93 3 10 _ (by decide) rfl rfl
    have e97 : SepS (Ss88 4) wd87 [(Ty.sl (Ty.i .i64)).at (f86 11) ([] : (List Int))] := hphi93 4 11 _ (by decide) rfl rfl
    have e98 : f86 3 = (f86 8) := (hphi93 5 3 _ (by decide) rfl rfl)
    have e99 : f86 4 = (f86 10) := (hphi93 6 4 _ (by decide) rfl rfl)
    have e100 : f86 1 = (Value.pointer (some ⟨b1, 0, none⟩)) := (hout90 1 rfl).trans rfl
    have hS101 := St.joinS hS8 he89 hSn91 (SepS.consS hSd92 rfl e95 (SepS.consS hSd92 rfl e96 (SepS.consS hSd92 rfl e97 SepS.nilS)))
    replace hS101 : St wd2 wd87 [(Ty.sl (Ty.sl (Ty.i .i64))).at (f86 8) x26, (Ty.sl (Ty.i .i64)).at (f86 10) x49, (Ty.sl (Ty.i .i64)).at (f86 11) ([] : (List Int))] := hS101
    refine WL.val (f86 11) _ (op_assign rfl) rfl ?_
    refine WL.nil ?_
    refine W.seq (W.seq (W.region ?_))
    refine WL.val (Value.int .i64 (1 : Int)) _ (op_assign rfl) rfl ?_
    refine WL.nil ?_
    show W _ _ _ _ _ _
    obtain ⟨res102, hres103, h⟩ := bs h
    refine W.blockLoop (fun fq wq => ∃ s, res102 = Res.fin s ∧ ∃ (uu0 : Value), fq 5 = uu0 ∧ St wd2 wq [(Ty.sl (Ty.i .i64)).at uu0 s.1]) ?_ ?_
    · refine W.whileC (fun (s : (List Int) × Int) fq wq => ∃ (uu0 : Value), fq 1 = (Value.pointer (some ⟨b1, 0, none⟩)) ∧ fq 3 = (f86 8) ∧ fq 4 = (f86 10) ∧ fq 5 = uu0 ∧ fq 6 = Value.int .i64 s.2 ∧ InR .i64 s.2 ∧ St wd2 wq [(Ty.sl (Ty.sl (Ty.i .i64))).at (f86 8) x26, (Ty.sl (Ty.i .i64)).at (f86 10) x49, (Ty.sl (Ty.i .i64)).at uu0 s.1]) hres103 ⟨(f86 11), e100, e98, e99, rfl, rfl, (inL rfl), hS101⟩ ?_
      intro s160 ct107 f108 wd109 hb111 hI112 hbrk113 hret114
      obtain ⟨x105, x106⟩ := s160
      replace hI112 : ∃ (uu0 : Value), f108 1 = (Value.pointer (some ⟨b1, 0, none⟩)) ∧ f108 3 = (f86 8) ∧ f108 4 = (f86 10) ∧ f108 5 = uu0 ∧ f108 6 = Value.int .i64 x106 ∧ InR .i64 x106 ∧ St wd2 wd109 [(Ty.sl (Ty.sl (Ty.i .i64))).at (f86 8) x26, (Ty.sl (Ty.i .i64)).at (f86 10) x49, (Ty.sl (Ty.i .i64)).at uu0 x105] := hI112
      replace hb111 : p_impl_Ring_subrings_L1 r_Table x26 x49  x105 x106 = some ct107 := hb111
      unfold p_impl_Ring_subrings_L1 at hb111
      obtain ⟨u115, hf116, hf117, hf118, hf119, hf120, hr121, hS122⟩ := hI112
      refine W.seq (W.seq (W.region ?_))
      refine WL.val (Value.agg #[v_r_Table]) _ (op_loadBox st_26 hf116 (BoxAt.lift hS122.ext hx6) rfl rfl) rfl ?_
      refine WL.val (Value.int .i64 x106) _ (op_move hf120) rfl ?_
      obtain ⟨x123, hx124, hb111⟩ := bs hb111
      refine WL.call _ (op_call fn_58 (args2 rfl rfl)) (c_impl_Ring_isSet (Ty.lift _ (Ext.trans hE7 hS122.ext) r_r_Table) hr121 hx124) rfl ?_
      rintro _ wd125 ⟨rfl, he126⟩
      have hS128 := St.extend hS122 he126
      replace hS128 : St wd2 wd125 [(Ty.sl (Ty.sl (Ty.i .i64))).at (f86 8) x26, (Ty.sl (Ty.i .i64)).at (f86 10) x49, (Ty.sl (Ty.i .i64)).at u115 x105] := hS128
      refine WL.nil ?_
      refine W.cond x123 rfl (fun hc129 => ?_) (fun hc129 => ?_)
      · replace hb111 := ip hb111 hc129
        refine W.skip ?_
        refine W.seq ?_
        refine W.block ?_
        refine W.seq (W.region ?_)
        refine WL.val (f86 8) _ (op_move hf117) rfl ?_
        refine WL.val (f86 10) _ (op_move hf118) rfl ?_
        refine WL.val (Value.int .i64 x106) _ (op_move hf120) rfl ?_
        obtain ⟨x131, hx132, hb111⟩ := bs hb111
        refine WL.call _ (op_call fn_73 (args3 rfl rfl rfl)) (c_impl_isClosed (tb.ext (Ext.trans hE7 hS128.ext)) (St.rep (t := (Ty.sl (Ty.sl (Ty.i .i64)))) hS128 0 rfl) (St.rep (t := (Ty.sl (Ty.i .i64))) hS128 1 rfl) hr121 hx132) rfl ?_
        rintro _ wd133 ⟨rfl, he134⟩
        have hS136 := St.extend hS128 he134
        replace hS136 : St wd2 wd133 [(Ty.sl (Ty.sl (Ty.i .i64))).at (f86 8) x26, (Ty.sl (Ty.i .i64)).at (f86 10) x49, (Ty.sl (Ty.i .i64)).at u115 x105] := hS136
        refine WL.nil ?_
        show W _ _ _ _ _ _
        obtain ⟨x137, hj138, hb111⟩ := bs hb111
        refine W.cutCode (fun fq wq => ∃ (uu0 : Value), fq 1 = (Value.pointer (some ⟨b1, 0, none⟩)) ∧ fq 3 = (f86 8) ∧ fq 4 = (f86 10) ∧ fq 5 = uu0 ∧ fq 6 = (Value.int .i64 x106) ∧ St wd2 wq [(Ty.sl (Ty.sl (Ty.i .i64))).at (f86 8) x26, (Ty.sl (Ty.i .i64)).at (f86 10) x49, (Ty.sl (Ty.i .i64)).at uu0 x137]) ?_ ?_
        · refine W.cond x131 rfl (fun hc139 => ?_) (fun hc139 => ?_)
          · replace hj138 := ip hj138 hc139
            refine W.region ?_
            refine WL.val u115 _ (op_move hf119) rfl ?_
            refine WL.val (Value.int .i64 x106) _ (op_move hf120) rfl ?_
            refine WL.litFlat (t := (Ty.i .i64)) (flat_i .i64) [(Value.int .i64 x106)] [x106] hS136 sl_33 rfl rfl (fillL rfl ⟨rfl, rfl, rfl, trivial⟩) rfl rfl (litL ⟨⟨rfl, hr121⟩, trivial⟩) rfl ?_
            intro u140 wd141 hS142 he143
            replace hS142 : St wd2 wd141 [(Ty.sl (Ty.sl (Ty.i .i64))).at (f86 8) x26, (Ty.sl (Ty.i .i64)).at (f86 10) x49, (Ty.sl (Ty.i .i64)).at u115 x105, (Ty.sl (Ty.i .i64)).at u140 ([x106] : (List Int))] := hS142
            obtain ⟨x144, hx145, hj138⟩ := bs hj138
            refine WL.append (flat_i .i64) hS142 (k := 2) rfl sl_33 rfl rfl rfl rfl (St.rep (t := (Ty.sl (Ty.i .i64))) hS142 3 rfl) hx145 rfl ?_
            intro u146 wd147 hS148 hz149
            replace hS148 : St wd2 wd147 [(Ty.sl (Ty.sl (Ty.i .i64))).at (f86 8) x26, (Ty.sl (Ty.i .i64)).at (f86 10) x49, (Ty.sl (Ty.i .i64)).at u146 x144, (Ty.sl (Ty.i .i64)).at u140 ([x106] : (List Int))] := hS148
            refine WL.val u146 _ (op_assign rfl) rfl ?_
            refine WL.nil ?_
            obtain rfl := Option.some.inj hj138
            exact ⟨u146, hf116, hf117, hf118, rfl, hf120, (St.pick hS148 [0, 1, 2] rfl)⟩
          · replace hj138 := inegb hj138 hc139
            refine W.skip ?_
            obtain rfl := Option.some.inj hj138
            exact ⟨u115, hf116, hf117, hf118, hf119, hf120, hS136⟩
        · intro f150 wd151 hq152
          obtain ⟨u153, hf154, hf155, hf156, hf157, hf158, hS159⟩ := hq152
          show W _ _ _ _ _ _
          refine W.region ?_
          refine WL.val (Value.int .i64 x106) _ (op_move hf158) rfl ?_
          refine WL.val (Value.int .i64 (w64 (x106 + (2 : Int)))) _ (op_add rfl rfl) rfl ?_
          refine WL.val (Value.int .i64 (w64 (x106 + (2 : Int)))) _ (op_assign rfl) rfl ?_
          refine WL.nil ?_
          obtain rfl := Option.some.inj hb111
          show ∃ s, _ = Ctl.next s ∧ _
          exact ⟨_, rfl, u153, hf154, hf155, hf156, hf157, rfl, (inR_wrap _ _), hS159⟩
      · replace hb111 := inegb hb111 hc129
        refine W.exit ?_
        obtain rfl := Option.some.inj hb111
        show _ = _ ∧ _
        exact ⟨rfl, _, hbrk113 _ rfl, u115, hf119, (St.pick hS128 [2] rfl)⟩
    · rintro f161 wd162 ⟨s164, rfl, hq163⟩
      replace h := onRes_fin h
      obtain ⟨x165, x166⟩ := s164
      replace hq163 : ∃ (uu0 : Value), f161 5 = uu0 ∧ St wd2 wd162 [(Ty.sl (Ty.i .i64)).at uu0 x165] := hq163
      replace h : (_ : Option _) = _ := h
      dsimp only at h
      obtain ⟨u167, hf168, hS169⟩ := hq163
      refine W.seq (W.region ?_)
      refine WL.val u167 _ (op_move hf168) rfl ?_
      refine WL.val u167 _ (op_assign rfl) rfl ?_
      refine WL.nil ?_
      refine W.ret ?_
      obtain rfl := Option.some.inj h
      show FinP _ _ _ _ _ _ _
      exact FinP.ret _ (res1 rfl rfl) ⟨u167, rfl, (Ext.trans hE7 hS169.ext), (St.out (St.pick hS169 [0] rfl) (hE7))⟩

theorem c_impl_SubringsOf {w : World} {r_Table : (List (List (List Int)))} {v_r_Table : Value} (tb : TabAt w) (r_r_Table : (Ty.sl (Ty.sl (Ty.sl (Ty.i .i64)))).rep w v_r_Table r_Table) {res : (List Int) × Int} (h : p_impl_SubringsOf r_Table  = some res) :
    Ret Tryd.prog 28 #[(Value.agg #[v_r_Table])] w (fun v w' => ∃ (u0 : Value), v = (Value.tuple #[u0, Value.int .i64 res.2]) ∧ InR .i64 res.2 ∧ Ext w w' ∧ Sep w.heap.size w' [(Ty.sl (Ty.i .i64)).at u0 res.1]) := by
  unfold p_impl_SubringsOf at h
  have hS0 : St w w [] := St.start w
  refine Ret.start (fn := Tryd.f28) Tryd.func28 rfl 9 rfl rfl ?_
  refine W.seq (W.region ?_)
  refine WL.box hS0 rfl (cs := [v_r_Table]) rfl rfl ?_
  intro b1 wd2 hS3 he4 hx5
  replace hS3 : St w wd2 [bx b1 [v_r_Table]] := hS3
  have hx6 := St.boxAt hS3 0 rfl
  have hE7 : Ext w wd2 := hS3.ext
  have hS8 : St wd2 wd2 [] := St.start wd2
  refine WL.val (Value.slice none 0 0) _ (op_assign rfl) rfl ?_
  refine WL.val (Value.int .i64 (0 : Int)) _ (op_assign rfl) rfl ?_
  refine WL.nil ?_
  refine W.seq (W.seq (W.region ?_))
  refine WL.val (Value.agg #[v_r_Table]) _ (op_loadBox st_26 rfl (BoxAt.lift hS8.ext hx6) rfl rfl) rfl ?_
  obtain ⟨x9, hx10, h⟩ := bs h
  refine WL.call _ (op_call fn_42 (args1 rfl)) (c_impl_IsRing (Ty.lift _ (Ext.trans hE7 hS8.ext) r_r_Table) hx10) rfl ?_
  rintro _ wd11 ⟨rfl, he12⟩
  have hS14 := St.extend hS8 he12
  replace hS14 : St wd2 wd11 [] := hS14
  refine WL.val (Value.bool (!x9)) _ (op_not rfl) rfl ?_
  refine WL.nil ?_
  refine W.cond (!x9) rfl (fun hc15 => ?_) (fun hc15 => ?_)
  · replace h := ip h hc15
    refine W.seq (W.region ?_)
    refine WL.val (Value.slice none 0 0) _ (op_assign rfl) rfl ?_
    refine WL.val (Value.int .i64 (1 : Int)) _ (op_assign rfl) rfl ?_
    refine WL.nil ?_
    refine W.ret ?_
    obtain rfl := Option.some.inj h
    show FinP _ _ _ _ _ _ _
    exact FinP.ret _ (res2 rfl rfl rfl) ⟨(Value.slice none 0 0), rfl, (inL rfl), (Ext.trans hE7 hS14.ext), (St.out (St.pick (St.addNil (Ty.i .i64) hS14) [0] rfl) (hE7))⟩
  · replace h := inegb h hc15
    refine W.skip ?_
    refine W.seq (W.region ?_)
    refine WL.val (Value.agg #[v_r_Table]) _ (op_loadBox st_26 rfl (BoxAt.lift hS14.ext hx6) rfl rfl) rfl ?_
    obtain ⟨x17, hx18, h⟩ := bs h
    refine WL.call _ (op_call fn_51 (args1 rfl)) (c_impl_Ring_subrings (tb.ext (Ext.trans hE7 hS14.ext)) (Ty.lift _ (Ext.trans hE7 hS14.ext) r_r_Table) hx18) rfl ?_
    rintro u19 wd20 ⟨_, rfl, he21, hs22⟩
    have hS23 := St.join hS14 he21 hs22
    replace hS23 : St wd2 wd20 [(Ty.sl (Ty.i .i64)).at u19 x17] := hS23
    refine WL.val u19 _ (op_assign rfl) rfl ?_
    refine WL.val (Value.int .i64 (0 : Int)) _ (op_assign rfl) rfl ?_
    refine WL.nil ?_
    refine W.ret ?_
    obtain rfl := Option.some.inj h
    show FinP _ _ _ _ _ _ _
    exact FinP.ret _ (res2 rfl rfl rfl) ⟨u19, rfl, (inL rfl), (Ext.trans hE7 hS23.ext), (St.out (St.pick hS23 [0] rfl) (hE7))⟩

theorem c_laws_FnExactSubringsOf {w : World} {aR_Table : (List (List (List Int)))} {v_aR_Table : Value} (tb : TabAt w) (r_aR_Table : (Ty.sl (Ty.sl (Ty.sl (Ty.i .i64)))).rep w v_aR_Table aR_Table) {res : Bool} (h : p_laws_FnExactSubringsOf aR_Table  = some res) :
    Ret Tryd.prog 7 #[(Value.agg #[v_aR_Table])] w (fun v w' => v = Value.bool res ∧ Ext w w') := by
  unfold p_laws_FnExactSubringsOf at h
  have hS0 : St w w [] := St.start w
  refine Ret.start (fn := Tryd.f7) Tryd.func7 rfl 96 rfl rfl ?_
  refine W.seq (W.region ?_)
  refine WL.box hS0 rfl (cs := [v_aR_Table]) rfl rfl ?_
  intro b1 wd2 hS3 he4 hx5
  replace hS3 : St w wd2 [bx b1 [v_aR_Table]] := hS3
  have hx6 := St.boxAt hS3 0 rfl
  have hE7 : Ext w wd2 := hS3.ext
  have hS8 : St wd2 wd2 [] := St.start wd2
  refine WL.val (Value.bool false) _ (op_assign rfl) rfl ?_
  refine WL.nil ?_
  refine W.seq (W.region ?_)
  refine WL.val (Value.int .i64 (1048576 : Int)) _ (op_assign rfl) rfl ?_
  refine WL.nil ?_
  refine W.seq (W.region ?_)
  refine WL.val (Value.agg #[v_aR_Table]) _ (op_loadBox st_24 rfl (BoxAt.lift hS8.ext hx6) rfl rfl) rfl ?_
  refine WL.val (Value.int .i64 (1048576 : Int)) _ (op_move rfl) rfl ?_
  obtain ⟨x9, hx10, h⟩ := bs h
  refine WL.call _ (op_call fn_8 (args2 rfl rfl)) (c_laws_szRing (Ty.lift _ (Ext.trans hE7 hS8.ext) r_aR_Table) (inL rfl) hx10) rfl ?_
  rintro _ wd12 ⟨rfl, hr11, he13⟩
  have hS15 := St.extend hS8 he13
  replace hS15 : St wd2 wd12 [] := hS15
  refine WL.val (Value.int .i64 x9) _ (op_assign rfl) rfl ?_
  refine WL.nil ?_
  refine W.seq (W.seq (W.region ?_))
  refine WL.val (Value.int .i64 x9) _ (op_move rfl) rfl ?_
  refine WL.val (Value.bool (decide (x9 < (0 : Int)))) _ (op_lss rfl rfl) rfl ?_
  refine WL.nil ?_
  refine W.cond (decide (x9 < (0 : Int))) rfl (fun hc16 => ?_) (fun hc16 => ?_)
  · replace h := ip h hc16
    refine W.seq (W.region ?_)
    refine WL.val (Value.bool true) _ (op_assign rfl) rfl ?_
    refine WL.nil ?_
    refine W.ret ?_
    obtain rfl := Option.some.inj h
    show FinP _ _ _ _ _ _ _
    exact FinP.ret _ (res1 rfl rfl) ⟨rfl, (Ext.trans hE7 hS15.ext)⟩
  · replace h := inegb h hc16
    refine W.skip ?_
    refine W.seq (W.region ?_)
    refine WL.val (Value.agg #[v_aR_Table]) _ (op_loadBox st_24 rfl (BoxAt.lift hS15.ext hx6) rfl rfl) rfl ?_
    obtain ⟨x18, hx19, h⟩ := bs h
    refine WL.call _ (op_call fn_10 (args1 rfl)) (c_laws_toRing (Ty.lift _ (Ext.trans hE7 hS15.ext) r_aR_Table) hx19) rfl ?_
    rintro _ wd21 ⟨u20, rfl, he22, hs23⟩
    have hS24 := St.join hS15 he22 hs23
    replace hS24 : St wd2 wd21 [(Ty.sl (Ty.sl (Ty.sl (Ty.i .i64)))).at u20 x18] := hS24
    have hb25 := St.rep (t := (Ty.sl (Ty.sl (Ty.sl (Ty.i .i64))))) hS24 0 rfl
    have hE26 : Ext w wd21 := (Ext.trans hE7 hS24.ext)
    have hE27 : Ext wd2 wd21 := hS24.ext
    have hS28 : St wd21 wd21 [] := St.start wd21
    obtain ⟨x29, hx30, h⟩ := bs h
    refine WL.call _ (op_call fn_27 (args1 rfl)) (c_spec_SubringsOf (Ty.lift _ hS28.ext hb25) hx30) rfl ?_
    rintro _ wd33 ⟨u31, rfl, hr32, he34, hs35⟩
    have hS36 := St.join hS28 he34 hs35
    replace hS36 : St wd21 wd33 [(Ty.sl (Ty.i .i64)).at u31 x29.1] := hS36
    have hb37 := St.rep (t := (Ty.sl (Ty.i .i64))) hS36 0 rfl
    have hE38 : Ext w wd33 := (Ext.trans hE26 hS36.ext)
    have hE39 : Ext wd2 wd33 := (Ext.trans hE27 hS36.ext)
    have hE40 : Ext wd21 wd33 := hS36.ext
    have hS41 : St wd33 wd33 [] := St.start wd33
    refine WL.val (Value.tuple #[u31, (Value.int .i64 x29.2)]) _ (op_move rfl) rfl ?_
    refine WL.val u31 _ (op_extract rfl rfl) rfl ?_
    refine WL.val (Value.int .i64 x29.2) _ (op_extract rfl rfl) rfl ?_
    refine WL.val u31 _ (op_assign rfl) rfl ?_
    refine WL.val (Value.int .i64 x29.2) _ (op_assign rfl) rfl ?_
    refine WL.nil ?_
    refine W.seq (W.region ?_)
    refine WL.val (Value.agg #[v_aR_Table]) _ (op_loadBox st_24 rfl (BoxAt.lift (Ext.trans hE39 hS41.ext) hx6) rfl rfl) rfl ?_
    obtain ⟨x42, hx43, h⟩ := bs h
    refine WL.call _ (op_call fn_10 (args1 rfl)) (c_laws_toRing (Ty.lift _ (Ext.trans hE38 hS41.ext) r_aR_Table) hx43) rfl ?_
    rintro _ wd45 ⟨u44, rfl, he46, hs47⟩
    have hS48 := St.join hS41 he46 hs47
    replace hS48 : St wd33 wd45 [(Ty.sl (Ty.sl (Ty.sl (Ty.i .i64)))).at u44 x42] := hS48
    refine WL.alloc hS48 ze_26 (cs := [(Value.slice none 0 0)]) rfl rfl ?_
    intro b49 wd50 hS51 he52
    replace hS51 : St wd33 wd50 [(Ty.sl (Ty.sl (Ty.sl (Ty.i .i64)))).at u44 x42, bx b49 [(Value.slice none 0 0)]] := hS51
    refine WL.storeBox [u44] hS51 (k := 1) rfl rfl rfl (us := [u44]) rfl sz_26 rfl rfl (all_rep (St.rep (t := (Ty.sl (Ty.sl (Ty.sl (Ty.i .i64))))) hS51 0 rfl) all_nil) rfl ?_
    intro wd53 hS54
    replace hS54 : St wd33 wd53 [(Ty.sl (Ty.sl (Ty.sl (Ty.i .i64)))).at u44 x42, bx b49 [u44]] := hS54
    refine WL.nil ?_
    refine W.seq (W.region ?_)
    refine WL.val (Value.agg #[u44]) _ (op_loadBox st_26 rfl (St.boxAt hS54 1 rfl) rfl rfl) rfl ?_
    obtain ⟨x55, hx56, h⟩ := bs h
    refine WL.call _ (op_call fn_28 (args1 rfl)) (c_impl_SubringsOf (tb.ext (Ext.trans hE38 hS54.ext)) (St.rep (t := (Ty.sl (Ty.sl (Ty.sl (Ty.i .i64))))) hS54 0 rfl) hx56) rfl ?_
    rintro _ wd59 ⟨u57, rfl, hr58, he60, hs61⟩
    have hS62 := St.join hS54 he60 hs61
    replace hS62 : St wd33 wd59 [(Ty.sl (Ty.sl (Ty.sl (Ty.i .i64)))).at u44 x42, bx b49 [u44], (Ty.sl (Ty.i .i64)).at u57 x55.1] := hS62
    refine WL.val (Value.tuple #[u57, (Value.int .i64 x55.2)]) _ (op_move rfl) rfl ?_
    refine WL.val u57 _ (op_extract rfl rfl) rfl ?_
    refine WL.val (Value.int .i64 x55.2) _ (op_extract rfl rfl) rfl ?_
    refine WL.val u57 _ (op_assign rfl) rfl ?_
    refine WL.val (Value.int .i64 x55.2) _ (op_assign rfl) rfl ?_
    refine WL.nil ?_
    refine W.seq (W.seq (W.region ?_))
    refine WL.val u57 _ (op_move rfl) rfl ?_
    refine WL.val u31 _ (op_move rfl) rfl ?_
    obtain ⟨x63, hx64, h⟩ := bs h
    refine WL.call _ (op_call fn_17 (args2 rfl rfl)) (c_laws_eqInt64S (St.rep (t := (Ty.sl (Ty.i .i64))) hS62 2 rfl) (Ty.lift _ hS62.ext hb37) hx64) rfl ?_
    rintro _ wd65 ⟨rfl, he66⟩
    have hS68 := St.extend hS62 he66
    replace hS68 : St wd33 wd65 [(Ty.sl (Ty.sl (Ty.sl (Ty.i .i64)))).at u44 x42, bx b49 [u44], (Ty.sl (Ty.i .i64)).at u57 x55.1] := hS68
    refine WL.val (Value.bool (!x63)) _ (op_not rfl) rfl ?_
    refine WL.val (Value.bool (!x63)) _ (op_move rfl) rfl ?_
    refine WL.cut 4 (fun fq wq => fq 1 = (Value.pointer (some ⟨b1, 0, none⟩)) ∧ fq 4 = u31 ∧ fq 5 = (Value.int .i64 x29.2) ∧ fq 6 = (Value.pointer (some ⟨b49, 0, none⟩)) ∧ fq 7 = u57 ∧ fq 8 = (Value.int .i64 x55.2) ∧ fq 40 = (Value.bool ((!x63) || (x55.2 != x29.2))) ∧ St wd33 wq [(Ty.sl (Ty.sl (Ty.sl (Ty.i .i64)))).at u44 x42, bx b49 [u44], (Ty.sl (Ty.i .i64)).at u57 x55.1]) ?_ ?_
    · rcases Bool.eq_false_or_eq_true (!x63) with hc69 | hc69
      · refine WL.gskip rfl (bool_of rfl hc69) rfl ?_
        refine WL.gskip rfl (bool_of rfl hc69) rfl ?_
        refine WL.gskip rfl (bool_of rfl hc69) rfl ?_
        refine WL.val (Value.bool true) _ (op_pick_t (evb_of rfl hc69) rfl) rfl ?_
        refine WL.nil ?_
        exact ⟨rfl, rfl, rfl, rfl, rfl, rfl, rfl, (orT hc69), hS68⟩
      · refine WL.grun rfl (bool_of rfl hc69) ?_
        refine WL.val (Value.int .i64 x55.2) _ (op_move rfl) rfl ?_
        refine WL.grun rfl (bool_of rfl hc69) ?_
        refine WL.val (Value.int .i64 x29.2) _ (op_move rfl) rfl ?_
        refine WL.grun rfl (bool_of rfl hc69) ?_
        refine WL.val (Value.bool (x55.2 != x29.2)) _ (op_neq rfl rfl) rfl ?_
        refine WL.val (Value.bool (x55.2 != x29.2)) _ (op_pick_f (evb_of rfl hc69) rfl) rfl ?_
        refine WL.nil ?_
        exact ⟨rfl, rfl, rfl, rfl, rfl, rfl, rfl, (orF hc69), hS68⟩
    · intro f70 wd71 hq72
      obtain ⟨hf73, hf74, hf75, hf76, hf77, hf78, hf79, hS80⟩ := hq72
      refine WL.nil ?_
      refine W.cond ((!x63) || (x55.2 != x29.2)) hf79 (fun hc81 => ?_) (fun hc81 => ?_)
      · replace h := ip h hc81
        refine W.seq (W.region ?_)
        refine WL.val (Value.bool false) _ (op_assign rfl) rfl ?_
        refine WL.nil ?_
        refine W.ret ?_
        obtain rfl := Option.some.inj h
        show FinP _ _ _ _ _ _ _
        exact FinP.ret _ (res1 rfl rfl) ⟨rfl, (Ext.trans hE38 hS80.ext)⟩
      · replace h := inegb h hc81
        refine W.skip ?_
        refine W.seq (W.seq ?_)
        obtain ⟨x107, hx108, h⟩ := bs h
        refine W.drawR mixo 3 [] [fun _ v S w' => v = (Value.agg #[u44]), fun _ v S w' => v = (Value.agg #[v_aR_Table]), fun _ v S w' => ∃ (uu0 : Value), v = (Value.agg #[uu0]) ∧ SepS S w' [(Ty.sl (Ty.sl (Ty.sl (Ty.i .i64)))).at uu0 x107]] (by kernel_rfl) (by kernel_rfl) ⟨pk, pk, ⟨fun _ _ _ _ _ he ⟨uu0, h0, r0⟩ => ⟨uu0, h0, SepS.extend he r0⟩, fun _ _ _ _ _ _ h => h⟩, trivial⟩ ⟨?_, ?_, ?_, trivial⟩ ?_
        · refine ObX.op rfl fun f83 wd84 he85 hout86 hphi87 => ?_
          have hS88 := St.extend hS80 he85
          have e89 : f83 6 = (Value.pointer (some ⟨b49, 0, none⟩)) := (hout86 6 rfl).trans hf76
          exact OpX.val (Value.agg #[u44]) wd84 rfl (op_loadBox st_26 e89 (St.boxAt hS88 1 rfl) rfl rfl) (Ext.refl _) rfl
        · refine ObX.op rfl fun f90 wd91 he92 hout93 hphi94 => ?_
          have hS95 := St.extend hS80 he92
          have e96 : f90 1 = (Value.pointer (some ⟨b1, 0, none⟩)) := (hout93 1 rfl).trans hf73
          exact OpX.val (Value.agg #[v_aR_Table]) wd91 rfl (op_loadBox st_24 e96 (BoxAt.lift (Ext.trans hE39 hS95.ext) hx6) rfl rfl) (Ext.refl _) rfl
        · refine ObX.op rfl fun f97 wd98 he99 hout100 hphi101 => ?_
          have hS102 := St.extend hS80 he99
          obtain ⟨S103, hS104, hf105⟩ := hphi101 1 42 _ rfl rfl rfl
          have e106 : f97 42 = (Value.agg #[v_aR_Table]) := hf105
          refine OpX.call rfl (op_call fn_10 (args1 e106)) (Ret.mono (c_laws_toRing (Ty.lift _ (Ext.trans hE38 hS102.ext) r_aR_Table) hx108) ?_)
          rintro _ wd110 ⟨u109, rfl, he111, hs112⟩
          exact ⟨he111, _, newS _ _, ⟨u109, rfl, (Sep.new hs112)⟩⟩
        · intro f113 wd114 Ss115 he116 hout117 hSn118 hSd119 hphi120
          show WL _ _ _ _ _ _ _
          have e122 : f113 41 = (Value.agg #[u44]) := hphi120 0 41 _ (by decide) rfl rfl
          obtain ⟨u124, e123, e123s⟩ := hphi120 2 43 _ (by decide) rfl rfl
          have e125 : f113 1 = (Value.pointer (some ⟨b1, 0, none⟩)) := (hout117 1 rfl).trans hf73
          have e126 : f113 4 = u31 := (hout117 4 rfl).trans hf74
          have e127 : f113 5 = (Value.int .i64 x29.2) := (hout117 5 rfl).trans hf75
          have e128 : f113 6 = (Value.pointer (some ⟨b49, 0, none⟩)) := (hout117 6 rfl).trans hf76
          have e129 : f113 7 = u57 := (hout117 7 rfl).trans hf77
          have e130 : f113 8 = (Value.int .i64 x55.2) := (hout117 8 rfl).trans hf78
          have hS131 := St.joinS hS80 he116 hSn118 (SepS.consS hSd119 rfl e123s SepS.nilS)
          replace hS131 : St wd33 wd114 [(Ty.sl (Ty.sl (Ty.sl (Ty.i .i64)))).at u44 x42, bx b49 [u44], (Ty.sl (Ty.i .i64)).at u57 x55.1, (Ty.sl (Ty.sl (Ty.sl (Ty.i .i64)))).at u124 x107] := hS131
          obtain ⟨x132, hx133, h⟩ := bs h
          refine WL.call _ (op_call fn_12 (args2 e122 e123)) (c_laws_eqRing (St.rep (t := (Ty.sl (Ty.sl (Ty.sl (Ty.i .i64))))) hS131 0 rfl) (St.rep (t := (Ty.sl (Ty.sl (Ty.sl (Ty.i .i64))))) hS131 3 rfl) hx133) rfl ?_
          rintro _ wd134 ⟨rfl, he135⟩
          have hS137 := St.extend hS131 he135
          replace hS137 : St wd33 wd134 [(Ty.sl (Ty.sl (Ty.sl (Ty.i .i64)))).at u44 x42, bx b49 [u44], (Ty.sl (Ty.i .i64)).at u57 x55.1, (Ty.sl (Ty.sl (Ty.sl (Ty.i .i64)))).at u124 x107] := hS137
          refine WL.val (Value.bool (!x132)) _ (op_not rfl) rfl ?_
          refine WL.nil ?_
          refine W.cond (!x132) rfl (fun hc138 => ?_) (fun hc138 => ?_)
          · replace h := ip h hc138
            refine W.seq (W.region ?_)
            refine WL.val (Value.bool false) _ (op_assign rfl) rfl ?_
            refine WL.nil ?_
            refine W.ret ?_
            obtain rfl := Option.some.inj h
            show FinP _ _ _ _ _ _ _
            exact FinP.ret _ (res1 rfl rfl) ⟨rfl, (Ext.trans hE38 hS137.ext)⟩
          · replace h := inegb h hc138
            refine W.skip ?_
            refine W.seq (W.region ?_)
            refine WL.val (Value.int .i64 (1 : Int)) _ (op_assign rfl) rfl ?_
            refine WL.nil ?_
            refine W.seq (W.region ?_)
            refine WL.val (Value.agg #[u44]) _ (op_loadBox st_26 e128 (St.boxAt hS137 1 rfl) rfl rfl) rfl ?_
            refine WL.val (Value.int .i64 (1 : Int)) _ (op_move rfl) rfl ?_
            obtain ⟨x140, hx141, h⟩ := bs h
            have hS142 := St.fold [(Ty.sl (Ty.sl (Ty.sl (Ty.i .i64)))).at u44 x42] [bx b49 [u44], (Ty.sl (Ty.i .i64)).at u57 x55.1, (Ty.sl (Ty.sl (Ty.sl (Ty.i .i64)))).at u124 x107] (St.pick hS137 [0, 1, 2, 3] rfl)
            refine WL.call _ (op_call fn_13 (args2 rfl rfl)) (c_laws_markRing hS142 (inL rfl) hx141) rfl ?_
            rintro _ wd145 ⟨rfl, hr146, hS143⟩
            have hS144 := St.pick (St.unfold [(Ty.sl (Ty.sl (Ty.sl (Ty.i .i64)))).at u44 x140.2] [bx b49 [u44], (Ty.sl (Ty.i .i64)).at u57 x55.1, (Ty.sl (Ty.sl (Ty.sl (Ty.i .i64)))).at u124 x107] hS143) [0, 1, 2, 3] rfl
            replace hS144 : St wd33 wd145 [(Ty.sl (Ty.sl (Ty.sl (Ty.i .i64)))).at u44 x140.2, bx b49 [u44], (Ty.sl (Ty.i .i64)).at u57 x55.1, (Ty.sl (Ty.sl (Ty.sl (Ty.i .i64)))).at u124 x107] := hS144
            refine WL.val (Value.int .i64 x140.1) _ (op_assign rfl) rfl ?_
            refine WL.nil ?_
            refine W.seq (W.seq (W.region ?_))
            refine WL.val (Value.int .i64 x140.1) _ (op_move rfl) rfl ?_
            refine WL.val (Value.bool (decide (x140.1 < (0 : Int)))) _ (op_lss rfl rfl) rfl ?_
            refine WL.val (Value.bool (decide (x140.1 < (0 : Int)))) _ (op_move rfl) rfl ?_
            obtain ⟨x148, hj149, h⟩ := bs h
            refine WL.cut 5 (fun fq wq => fq 1 = (Value.pointer (some ⟨b1, 0, none⟩)) ∧ fq 4 = u31 ∧ fq 5 = (Value.int .i64 x29.2) ∧ fq 7 = u57 ∧ fq 8 = (Value.int .i64 x55.2) ∧ fq 56 = Value.bool x148 ∧ St wd33 wq [(Ty.sl (Ty.i .i64)).at u57 x55.1]) ?_ ?_
            · rcases Bool.eq_false_or_eq_true (decide (x140.1 < (0 : Int))) with hc147 | hc147
              · replace hj149 := ip hj149 hc147
                refine WL.gskip rfl (bool_of rfl hc147) rfl ?_
                refine WL.gskip rfl (bool_of rfl hc147) rfl ?_
                refine WL.gskip rfl (bool_of rfl hc147) rfl ?_
                refine WL.gskip rfl (bool_of rfl hc147) rfl ?_
                refine WL.val (Value.bool true) _ (op_pick_t (evb_of rfl hc147) rfl) rfl ?_
                refine WL.nil ?_
                obtain rfl := Option.some.inj hj149
                exact ⟨rfl, e125, e126, e127, e129, e130, rfl, (St.pick hS144 [2] rfl)⟩
              · replace hj149 := inegb hj149 hc147
                refine WL.grun rfl (bool_of rfl hc147) ?_
                refine WL.val u57 _ (op_move e129) rfl ?_
                refine WL.grun rfl (bool_of rfl hc147) ?_
                refine WL.val u31 _ (op_move e126) rfl ?_
                refine WL.grun rfl (bool_of rfl hc147) ?_
                obtain ⟨x153, hx154, hj149⟩ := bs hj149
                refine WL.call _ (op_call fn_17 (args2 rfl rfl)) (c_laws_eqInt64S (St.rep (t := (Ty.sl (Ty.i .i64))) hS144 2 rfl) (Ty.lift _ hS144.ext hb37) hx154) rfl ?_
                rintro _ wd155 ⟨rfl, he156⟩
                have hS158 := St.extend hS144 he156
                replace hS158 : St wd33 wd155 [(Ty.sl (Ty.sl (Ty.sl (Ty.i .i64)))).at u44 x140.2, bx b49 [u44], (Ty.sl (Ty.i .i64)).at u57 x55.1, (Ty.sl (Ty.sl (Ty.sl (Ty.i .i64)))).at u124 x107] := hS158
                refine WL.grun rfl (bool_of rfl hc147) ?_
                refine WL.val (Value.bool (!x153)) _ (op_not rfl) rfl ?_
                refine WL.val (Value.bool (!x153)) _ (op_pick_f (evb_of rfl hc147) rfl) rfl ?_
                refine WL.nil ?_
                obtain rfl := Option.some.inj hj149
                exact ⟨rfl, e125, e126, e127, e129, e130, rfl, (St.pick hS158 [2] rfl)⟩
            · intro f150 wd151 hq152
              obtain ⟨hf159, hf160, hf161, hf162, hf163, hf164, hS165⟩ := hq152
              refine WL.val (Value.bool x148) _ (op_move hf164) rfl ?_
              refine WL.cut 4 (fun fq wq => fq 1 = (Value.pointer (some ⟨b1, 0, none⟩)) ∧ fq 4 = u31 ∧ fq 5 = (Value.int .i64 x29.2) ∧ fq 7 = u57 ∧ fq 61 = (Value.bool (x148 || (x55.2 != x29.2))) ∧ St wd33 wq [(Ty.sl (Ty.i .i64)).at u57 x55.1]) ?_ ?_
              · rcases Bool.eq_false_or_eq_true x148 with hc166 | hc166
                · refine WL.gskip rfl (bool_of rfl hc166) rfl ?_
                  refine WL.gskip rfl (bool_of rfl hc166) rfl ?_
                  refine WL.gskip rfl (bool_of rfl hc166) rfl ?_
                  refine WL.val (Value.bool true) _ (op_pick_t (evb_of rfl hc166) rfl) rfl ?_
                  refine WL.nil ?_
                  exact ⟨rfl, hf159, hf160, hf161, hf162, (orT hc166), hS165⟩
                · refine WL.grun rfl (bool_of rfl hc166) ?_
                  refine WL.val (Value.int .i64 x55.2) _ (op_move hf163) rfl ?_
                  refine WL.grun rfl (bool_of rfl hc166) ?_
                  refine WL.val (Value.int .i64 x29.2) _ (op_move hf161) rfl ?_
                  refine WL.grun rfl (bool_of rfl hc166) ?_
                  refine WL.val (Value.bool (x55.2 != x29.2)) _ (op_neq rfl rfl) rfl ?_
                  refine WL.val (Value.bool (x55.2 != x29.2)) _ (op_pick_f (evb_of rfl hc166) rfl) rfl ?_
                  refine WL.nil ?_
                  exact ⟨rfl, hf159, hf160, hf161, hf162, (orF hc166), hS165⟩
              · intro f167 wd168 hq169
                obtain ⟨hf170, hf171, hf172, hf173, hf174, hS175⟩ := hq169
                refine WL.nil ?_
                refine W.cond (x148 || (x55.2 != x29.2)) hf174 (fun hc176 => ?_) (fun hc176 => ?_)
                · replace h := ip h hc176
                  refine W.seq (W.region ?_)
                  refine WL.val (Value.bool false) _ (op_assign rfl) rfl ?_
                  refine WL.nil ?_
                  refine W.ret ?_
                  obtain rfl := Option.some.inj h
                  show FinP _ _ _ _ _ _ _
                  exact FinP.ret _ (res1 rfl rfl) ⟨rfl, (Ext.trans hE38 hS175.ext)⟩
                · replace h := inegb h hc176
                  refine W.skip ?_
                  refine W.seq (W.region ?_)
                  refine WL.val (Value.int .i64 (1 : Int)) _ (op_assign rfl) rfl ?_
                  refine WL.nil ?_
                  refine W.seq (W.region ?_)
                  refine WL.val u57 _ (op_move hf173) rfl ?_
                  refine WL.val (Value.int .i64 (1 : Int)) _ (op_move rfl) rfl ?_
                  obtain ⟨x178, hx179, h⟩ := bs h
                  have hS180 := St.fold [(Ty.sl (Ty.i .i64)).at u57 x55.1] [] (St.pick hS175 [0] rfl)
                  refine WL.call _ (op_call fn_18 (args2 rfl rfl)) (c_laws_markInt64S hS180 (inL rfl) hx179) rfl ?_
                  rintro _ wd183 ⟨rfl, hr184, hS181⟩
                  have hS182 := St.pick (St.unfold [(Ty.sl (Ty.i .i64)).at u57 x178.2] [] hS181) [0] rfl
                  replace hS182 : St wd33 wd183 [(Ty.sl (Ty.i .i64)).at u57 x178.2] := hS182
                  refine WL.val (Value.int .i64 x178.1) _ (op_assign rfl) rfl ?_
                  refine WL.nil ?_
                  refine W.seq (W.region ?_)
                  refine WL.val (Value.int .i64 (1 : Int)) _ (op_assign rfl) rfl ?_
                  refine WL.nil ?_
                  refine W.seq (W.region ?_)
                  refine WL.val u57 _ (op_move hf173) rfl ?_
                  refine WL.val (Value.int .i64 (1 : Int)) _ (op_move rfl) rfl ?_
                  obtain ⟨x185, hx186, h⟩ := bs h
                  refine WL.call _ (op_call fn_19 (args2 rfl rfl)) (c_laws_heldInt64S (St.rep (t := (Ty.sl (Ty.i .i64))) hS182 0 rfl) (inL rfl) hx186) rfl ?_
                  rintro _ wd188 ⟨rfl, hr187, he189⟩
                  have hS191 := St.extend hS182 he189
                  replace hS191 : St wd33 wd188 [(Ty.sl (Ty.i .i64)).at u57 x178.2] := hS191
                  refine WL.val (Value.int .i64 x185) _ (op_assign rfl) rfl ?_
                  refine WL.nil ?_
                  refine W.seq (W.seq (W.region ?_))
                  refine WL.val (Value.int .i64 x185) _ (op_move rfl) rfl ?_
                  refine WL.val (Value.bool (decide (x185 < (0 : Int)))) _ (op_lss rfl rfl) rfl ?_
                  refine WL.nil ?_
                  refine W.cond (decide (x185 < (0 : Int))) rfl (fun hc192 => ?_) (fun hc192 => ?_)
                  · replace h := ip h hc192
                    refine W.seq (W.region ?_)
                    refine WL.val (Value.bool false) _ (op_assign rfl) rfl ?_
                    refine WL.nil ?_
                    refine W.ret ?_
                    obtain rfl := Option.some.inj h
                    show FinP _ _ _ _ _ _ _
                    exact FinP.ret _ (res1 rfl rfl) ⟨rfl, (Ext.trans hE38 hS191.ext)⟩
                  · replace h := inegb h hc192
                    refine W.skip ?_
                    refine W.seq (W.seq (W.region ?_))
                    refine WL.val (Value.int .i64 x185) _ (op_move rfl) rfl ?_
                    refine WL.val (Value.int .i64 x178.1) _ (op_move rfl) rfl ?_
                    refine WL.val (Value.bool (x185 != x178.1)) _ (op_neq rfl rfl) rfl ?_
                    refine WL.nil ?_
                    refine W.cond (x185 != x178.1) rfl (fun hc194 => ?_) (fun hc194 => ?_)
                    · replace h := ip h hc194
                      refine W.seq (W.region ?_)
                      refine WL.val (Value.bool false) _ (op_assign rfl) rfl ?_
                      refine WL.nil ?_
                      refine W.ret ?_
                      obtain rfl := Option.some.inj h
                      show FinP _ _ _ _ _ _ _
                      exact FinP.ret _ (res1 rfl rfl) ⟨rfl, (Ext.trans hE38 hS191.ext)⟩
                    · replace h := inegb h hc194
                      refine W.skip ?_
                      refine W.seq (W.region ?_)
                      refine WL.val (Value.agg #[v_aR_Table]) _ (op_loadBox st_24 hf170 (BoxAt.lift (Ext.trans hE39 hS191.ext) hx6) rfl rfl) rfl ?_
                      obtain ⟨x196, hx197, h⟩ := bs h
                      refine WL.call _ (op_call fn_10 (args1 rfl)) (c_laws_toRing (Ty.lift _ (Ext.trans hE38 hS191.ext) r_aR_Table) hx197) rfl ?_
                      rintro _ wd199 ⟨u198, rfl, he200, hs201⟩
                      have hS202 := St.join hS191 he200 hs201
                      replace hS202 : St wd33 wd199 [(Ty.sl (Ty.i .i64)).at u57 x178.2, (Ty.sl (Ty.sl (Ty.sl (Ty.i .i64)))).at u198 x196] := hS202
                      obtain ⟨x203, hx204, h⟩ := bs h
                      refine WL.call _ (op_call fn_28 (args1 rfl)) (c_impl_SubringsOf (tb.ext (Ext.trans hE38 hS202.ext)) (St.rep (t := (Ty.sl (Ty.sl (Ty.sl (Ty.i .i64))))) hS202 1 rfl) hx204) rfl ?_
                      rintro _ wd207 ⟨u205, rfl, hr206, he208, hs209⟩
                      have hS210 := St.join hS202 he208 hs209
                      replace hS210 : St wd33 wd207 [(Ty.sl (Ty.i .i64)).at u57 x178.2, (Ty.sl (Ty.sl (Ty.sl (Ty.i .i64)))).at u198 x196, (Ty.sl (Ty.i .i64)).at u205 x203.1] := hS210
                      refine WL.val (Value.tuple #[u205, (Value.int .i64 x203.2)]) _ (op_move rfl) rfl ?_
                      refine WL.val u205 _ (op_extract rfl rfl) rfl ?_
                      refine WL.val (Value.int .i64 x203.2) _ (op_extract rfl rfl) rfl ?_
                      refine WL.val u205 _ (op_assign rfl) rfl ?_
                      refine WL.val (Value.int .i64 x203.2) _ (op_assign rfl) rfl ?_
                      refine WL.nil ?_
                      refine W.seq (W.seq (W.region ?_))
                      refine WL.val u205 _ (op_move rfl) rfl ?_
                      refine WL.val u31 _ (op_move hf171) rfl ?_
                      obtain ⟨x211, hx212, h⟩ := bs h
                      refine WL.call _ (op_call fn_17 (args2 rfl rfl)) (c_laws_eqInt64S (St.rep (t := (Ty.sl (Ty.i .i64))) hS210 2 rfl) (Ty.lift _ hS210.ext hb37) hx212) rfl ?_
                      rintro _ wd213 ⟨rfl, he214⟩
                      have hS216 := St.extend hS210 he214
                      replace hS216 : St wd33 wd213 [(Ty.sl (Ty.i .i64)).at u57 x178.2, (Ty.sl (Ty.sl (Ty.sl (Ty.i .i64)))).at u198 x196, (Ty.sl (Ty.i .i64)).at u205 x203.1] := hS216
                      refine WL.val (Value.bool (!x211)) _ (op_not rfl) rfl ?_
                      refine WL.val (Value.bool (!x211)) _ (op_move rfl) rfl ?_
                      refine WL.cut 4 (fun fq wq => fq 7 = u57 ∧ fq 10 = (Value.int .i64 x178.1) ∧ fq 87 = (Value.bool ((!x211) || (x203.2 != x29.2))) ∧ St wd33 wq [(Ty.sl (Ty.i .i64)).at u57 x178.2]) ?_ ?_
                      · rcases Bool.eq_false_or_eq_true (!x211) with hc217 | hc217
                        · refine WL.gskip rfl (bool_of rfl hc217) rfl ?_
                          refine WL.gskip rfl (bool_of rfl hc217) rfl ?_
                          refine WL.gskip rfl (bool_of rfl hc217) rfl ?_
                          refine WL.val (Value.bool true) _ (op_pick_t (evb_of rfl hc217) rfl) rfl ?_
                          refine WL.nil ?_
                          exact ⟨rfl, hf173, rfl, (orT hc217), (St.pick hS216 [0] rfl)⟩
                        · refine WL.grun rfl (bool_of rfl hc217) ?_
                          refine WL.val (Value.int .i64 x203.2) _ (op_move rfl) rfl ?_
                          refine WL.grun rfl (bool_of rfl hc217) ?_
                          refine WL.val (Value.int .i64 x29.2) _ (op_move hf172) rfl ?_
                          refine WL.grun rfl (bool_of rfl hc217) ?_
                          refine WL.val (Value.bool (x203.2 != x29.2)) _ (op_neq rfl rfl) rfl ?_
                          refine WL.val (Value.bool (x203.2 != x29.2)) _ (op_pick_f (evb_of rfl hc217) rfl) rfl ?_
                          refine WL.nil ?_
                          exact ⟨rfl, hf173, rfl, (orF hc217), (St.pick hS216 [0] rfl)⟩
                      · intro f218 wd219 hq220
                        obtain ⟨hf221, hf222, hf223, hS224⟩ := hq220
                        refine WL.nil ?_
                        refine W.cond ((!x211) || (x203.2 != x29.2)) hf223 (fun hc225 => ?_) (fun hc225 => ?_)
                        · replace h := ip h hc225
                          refine W.seq (W.region ?_)
                          refine WL.val (Value.bool false) _ (op_assign rfl) rfl ?_
                          refine WL.nil ?_
                          refine W.ret ?_
                          obtain rfl := Option.some.inj h
                          show FinP _ _ _ _ _ _ _
                          exact FinP.ret _ (res1 rfl rfl) ⟨rfl, (Ext.trans hE38 hS224.ext)⟩
                        · replace h := inegb h hc225
                          refine W.skip ?_
                          refine W.seq (W.region ?_)
                          refine WL.val (Value.int .i64 (1 : Int)) _ (op_assign rfl) rfl ?_
                          refine WL.nil ?_
                          refine W.seq (W.region ?_)
                          refine WL.val u57 _ (op_move hf221) rfl ?_
                          refine WL.val (Value.int .i64 (1 : Int)) _ (op_move rfl) rfl ?_
                          obtain ⟨x227, hx228, h⟩ := bs h
                          refine WL.call _ (op_call fn_19 (args2 rfl rfl)) (c_laws_heldInt64S (St.rep (t := (Ty.sl (Ty.i .i64))) hS224 0 rfl) (inL rfl) hx228) rfl ?_
                          rintro _ wd230 ⟨rfl, hr229, he231⟩
                          have hS233 := St.extend hS224 he231
                          replace hS233 : St wd33 wd230 [(Ty.sl (Ty.i .i64)).at u57 x178.2] := hS233
                          refine WL.val (Value.int .i64 x227) _ (op_assign rfl) rfl ?_
                          refine WL.nil ?_
                          refine W.seq (W.seq (W.region ?_))
                          refine WL.val (Value.int .i64 x227) _ (op_move rfl) rfl ?_
                          refine WL.val (Value.bool (decide (x227 < (0 : Int)))) _ (op_lss rfl rfl) rfl ?_
                          refine WL.nil ?_
                          refine W.cond (decide (x227 < (0 : Int))) rfl (fun hc234 => ?_) (fun hc234 => ?_)
                          · replace h := ip h hc234
                            refine W.seq (W.region ?_)
                            refine WL.val (Value.bool false) _ (op_assign rfl) rfl ?_
                            refine WL.nil ?_
                            refine W.ret ?_
                            obtain rfl := Option.some.inj h
                            show FinP _ _ _ _ _ _ _
                            exact FinP.ret _ (res1 rfl rfl) ⟨rfl, (Ext.trans hE38 hS233.ext)⟩
                          · replace h := inegb h hc234
                            refine W.skip ?_
                            refine W.seq (W.seq (W.region ?_))
                            refine WL.val (Value.int .i64 x227) _ (op_move rfl) rfl ?_
                            refine WL.val (Value.int .i64 x178.1) _ (op_move hf222) rfl ?_
                            refine WL.val (Value.bool (x227 != x178.1)) _ (op_neq rfl rfl) rfl ?_
                            refine WL.nil ?_
                            refine W.cond (x227 != x178.1) rfl (fun hc236 => ?_) (fun hc236 => ?_)
                            · replace h := ip h hc236
                              refine W.seq (W.region ?_)
                              refine WL.val (Value.bool false) _ (op_assign rfl) rfl ?_
                              refine WL.nil ?_
                              refine W.ret ?_
                              obtain rfl := Option.some.inj h
                              show FinP _ _ _ _ _ _ _
                              exact FinP.ret _ (res1 rfl rfl) ⟨rfl, (Ext.trans hE38 hS233.ext)⟩
                            · replace h := inegb h hc236
                              refine W.skip ?_
                              refine W.seq (W.region ?_)
                              refine WL.val (Value.bool true) _ (op_assign rfl) rfl ?_
                              refine WL.nil ?_
                              refine W.ret ?_
                              obtain rfl := Option.some.inj h
                              show FinP _ _ _ _ _ _ _
                              exact FinP.ret _ (res1 rfl rfl) ⟨rfl, (Ext.trans hE38 hS233.ext)⟩

end Go.VG
