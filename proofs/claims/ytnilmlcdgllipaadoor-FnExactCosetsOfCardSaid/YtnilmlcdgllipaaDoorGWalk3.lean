/- The walks, part 3: each Go function returns what its plain twin returns. No condition beyond what each names. -/
import Derived.Test.YtnilmlcdgllipaaDoorGWalk2
set_option linter.all false
namespace Go.VG
open Go.Proofs
attribute [local irreducible] W WL Sep FinP

theorem c_laws_eqInt64S {w : World} {a : (List Int)} {v_a : Value} {b : (List Int)} {v_b : Value} (r_a : (Ty.sl (Ty.i .i64)).rep w v_a a) (r_b : (Ty.sl (Ty.i .i64)).rep w v_b b) {res : Bool} (h : p_laws_eqInt64S a b  = some res) :
    Ret Tryd.prog 19 #[v_a, v_b] w (fun v w' => v = Value.bool res ∧ Ext w w') := by
  unfold p_laws_eqInt64S at h
  have hS0 : St w w [] := St.start w
  refine Ret.start (fn := Tryd.f19) Tryd.func19 rfl 26 rfl rfl ?_
  refine W.seq (W.region ?_)
  refine WL.val (Value.bool false) _ (op_assign rfl) rfl ?_
  refine WL.nil ?_
  refine W.seq (W.seq (W.region ?_))
  refine WL.val v_a _ (op_move rfl) rfl ?_
  have hr1 := inR_len (Ty.lift _ hS0.ext r_a)
  refine WL.val (Value.int .i64 ((a).length : Int)) _ (op_lenL sl_34 (Ty.lift _ hS0.ext r_a) rfl) rfl ?_
  refine WL.val v_b _ (op_move rfl) rfl ?_
  have hr2 := inR_len (Ty.lift _ hS0.ext r_b)
  refine WL.val (Value.int .i64 ((b).length : Int)) _ (op_lenL sl_34 (Ty.lift _ hS0.ext r_b) rfl) rfl ?_
  refine WL.val (Value.bool (((a).length : Int) != ((b).length : Int))) _ (op_neq rfl rfl) rfl ?_
  refine WL.nil ?_
  refine W.cond (((a).length : Int) != ((b).length : Int)) rfl (fun hc3 => ?_) (fun hc3 => ?_)
  · replace h := ip h hc3
    refine W.seq (W.region ?_)
    refine WL.val (Value.bool false) _ (op_assign rfl) rfl ?_
    refine WL.nil ?_
    refine W.ret ?_
    obtain rfl := Option.some.inj h
    show FinP _ _ _ _ _ _ _
    exact FinP.ret _ (res1 rfl rfl) ⟨rfl, hS0.ext⟩
  · replace h := inegb h hc3
    refine W.skip ?_
    refine W.seq (W.seq (W.region ?_))
    refine WL.val (Value.int .i64 (0 : Int)) _ (op_assign rfl) rfl ?_
    refine WL.nil ?_
    show W _ _ _ _ _ _
    obtain ⟨res5, hres6, h⟩ := bs h
    refine W.blockLoop (fun fq wq => ∃ s, res5 = Res.fin s ∧ St w wq []) ?_ ?_
    · refine W.forN (fun k (s : Unit) fq wq => fq 0 = v_a ∧ fq 1 = v_b ∧ fq 5 = Value.int .i64 (k : Int) ∧ InR .i64 (k : Int) ∧ St w wq []) hres6 ⟨rfl, rfl, rfl, (inL rfl), hS0⟩ ?_ ?_
      · intro k7 s134 ct8 f9 wd10 hk11 hb12 hI13 hbrk14 hret15
        obtain ⟨⟩ := s134
        replace hI13 : f9 0 = v_a ∧ f9 1 = v_b ∧ f9 5 = Value.int .i64 (k7 : Int) ∧ InR .i64 (k7 : Int) ∧ St w wd10 [] := hI13
        replace hb12 : p_laws_eqInt64S_L1 a b k7  = some ct8 := hb12
        unfold p_laws_eqInt64S_L1 at hb12
        obtain ⟨hf16, hf17, hf18, hr19, hS20⟩ := hI13
        refine W.seq (W.seq (W.region ?_))
        refine WL.val (Value.int .i64 (k7 : Int)) _ (op_move hf18) rfl ?_
        refine WL.val v_a _ (op_move hf16) rfl ?_
        have hr21 := inR_len (Ty.lift _ hS20.ext r_a)
        refine WL.val (Value.int .i64 ((a).length : Int)) _ (op_lenL sl_34 (Ty.lift _ hS20.ext r_a) rfl) rfl ?_
        refine WL.val (Value.bool (decide ((k7 : Int) < ((a).length : Int)))) _ (op_lss rfl rfl) rfl ?_
        have hl22 : (k7 : Int) < ((a).length : Int) := by omega
        refine WL.nil ?_
        refine W.condT (decide ((k7 : Int) < ((a).length : Int))) rfl (decide_eq_true hl22) ?_
        refine W.skip ?_
        refine W.seq ?_
        refine W.block ?_
        refine W.seq ?_
        obtain ⟨x53, hx56, hb12⟩ := bs hb12
        obtain ⟨ha54, hb55, hx56⟩ := idx_some hx56
        obtain ⟨u67, hc68, hr69⟩ := repSl.el r_a hx56
        obtain ⟨rfl, hr69⟩ := hr69
        obtain ⟨x99, hx102, hb12⟩ := bs hb12
        obtain ⟨ha100, hb101, hx102⟩ := idx_some hx102
        obtain ⟨u113, hc114, hr115⟩ := repSl.el r_b hx102
        obtain ⟨rfl, hr115⟩ := hr115
        refine W.drawR mixo 8 [] [fun _ v _ _ => v = v_a, fun _ v _ _ => v = (Value.int .i64 (k7 : Int)) ∧ InR .i64 (k7 : Int), fun _ v _ _ => v = (Value.pointer (some (elA v_a ((k7 : Int)).toNat))), fun _ v _ _ => v = (Value.int .i64 x53) ∧ InR .i64 x53, fun _ v _ _ => v = v_b, fun _ v _ _ => v = (Value.int .i64 (k7 : Int)) ∧ InR .i64 (k7 : Int), fun _ v _ _ => v = (Value.pointer (some (elA v_b ((k7 : Int)).toNat))), fun _ v _ _ => v = (Value.int .i64 x99) ∧ InR .i64 x99] (by kernel_rfl) (by kernel_rfl) ⟨pk, pk, pk, pk, pk, pk, pk, pk, trivial⟩ ⟨?_, ?_, ?_, ?_, ?_, ?_, ?_, ?_, trivial⟩ ?_
        · refine ObX.op rfl fun f24 wd25 he26 hout27 hphi28 => ?_
          have e30 : f24 0 = v_a := (hout27 0 rfl).trans hf16
          exact OpX.val v_a wd25 rfl (op_move e30) (Ext.refl _) rfl
        · refine ObX.op rfl fun f31 wd32 he33 hout34 hphi35 => ?_
          have e37 : f31 5 = (Value.int .i64 (k7 : Int)) := (hout34 5 rfl).trans hf18
          exact OpX.val (Value.int .i64 (k7 : Int)) wd32 rfl (op_move e37) (Ext.refl _) ⟨rfl, hr19⟩
        · refine ObX.op rfl fun f38 wd39 he40 hout41 hphi42 => ?_
          have hS43 := St.extend hS20 he40
          obtain ⟨S44, hS45, hf46⟩ := hphi42 0 17 _ rfl rfl rfl
          have e47 : f38 17 = v_a := hf46
          obtain ⟨S48, hS49, hf50⟩ := hphi42 1 18 _ rfl rfl rfl
          obtain ⟨e51, hr52⟩ := hf50
          exact OpX.val (Value.pointer (some (elA v_a ((k7 : Int)).toNat))) wd39 rfl (op_idx sl_34 (Ty.lift _ hS43.ext r_a) e47 e51 ha54 hb55) (Ext.refl _) rfl
        · refine ObX.op rfl fun f57 wd58 he59 hout60 hphi61 => ?_
          have hS62 := St.extend hS20 he59
          obtain ⟨S63, hS64, hf65⟩ := hphi61 2 19 _ rfl rfl rfl
          have e66 : f57 19 = (Value.pointer (some (elA v_a ((k7 : Int)).toNat))) := hf65
          exact OpX.val (Value.int .i64 x53) wd58 rfl (op_load one_2 e66 (Ext.cell hS62.ext hc68)) (Ext.refl _) ⟨rfl, hr69⟩
        · refine ObX.op rfl fun f70 wd71 he72 hout73 hphi74 => ?_
          have e76 : f70 1 = v_b := (hout73 1 rfl).trans hf17
          exact OpX.val v_b wd71 rfl (op_move e76) (Ext.refl _) rfl
        · refine ObX.op rfl fun f77 wd78 he79 hout80 hphi81 => ?_
          have e83 : f77 5 = (Value.int .i64 (k7 : Int)) := (hout80 5 rfl).trans hf18
          exact OpX.val (Value.int .i64 (k7 : Int)) wd78 rfl (op_move e83) (Ext.refl _) ⟨rfl, hr19⟩
        · refine ObX.op rfl fun f84 wd85 he86 hout87 hphi88 => ?_
          have hS89 := St.extend hS20 he86
          obtain ⟨S90, hS91, hf92⟩ := hphi88 4 21 _ rfl rfl rfl
          have e93 : f84 21 = v_b := hf92
          obtain ⟨S94, hS95, hf96⟩ := hphi88 5 22 _ rfl rfl rfl
          obtain ⟨e97, hr98⟩ := hf96
          exact OpX.val (Value.pointer (some (elA v_b ((k7 : Int)).toNat))) wd85 rfl (op_idx sl_34 (Ty.lift _ hS89.ext r_b) e93 e97 ha100 hb101) (Ext.refl _) rfl
        · refine ObX.op rfl fun f103 wd104 he105 hout106 hphi107 => ?_
          have hS108 := St.extend hS20 he105
          obtain ⟨S109, hS110, hf111⟩ := hphi107 6 23 _ rfl rfl rfl
          have e112 : f103 23 = (Value.pointer (some (elA v_b ((k7 : Int)).toNat))) := hf111
          exact OpX.val (Value.int .i64 x99) wd104 rfl (op_load one_2 e112 (Ext.cell hS108.ext hc114)) (Ext.refl _) ⟨rfl, hr115⟩
        · intro f116 wd117 Ss118 he119 hout120 hSn121 hSd122 hphi123
          show WL _ _ _ _ _ _ _
          have hS124 := St.extend hS20 he119
          obtain ⟨e125, hr126⟩ := hphi123 3 20 _ (by decide) rfl rfl
          obtain ⟨e127, hr128⟩ := hphi123 7 24 _ (by decide) rfl rfl
          have e129 : f116 0 = v_a := (hout120 0 rfl).trans hf16
          have e130 : f116 1 = v_b := (hout120 1 rfl).trans hf17
          have e131 : f116 5 = (Value.int .i64 (k7 : Int)) := (hout120 5 rfl).trans hf18
          refine WL.val (Value.bool (x53 != x99)) _ (op_neq e125 e127) rfl ?_
          refine WL.nil ?_
          refine W.cond (x53 != x99) rfl (fun hc132 => ?_) (fun hc132 => ?_)
          · replace hb12 := ip hb12 hc132
            refine W.seq (W.region ?_)
            refine WL.val (Value.bool false) _ (op_assign rfl) rfl ?_
            refine WL.nil ?_
            refine W.ret ?_
            obtain rfl := Option.some.inj hb12
            obtain rfl := hret15 _ rfl
            replace h := onRes_ret h
            obtain rfl := Option.some.inj h
            show FinP _ _ _ _ _ _ _
            exact FinP.ret _ (res1 rfl rfl) ⟨rfl, hS124.ext⟩
          · replace hb12 := inegb hb12 hc132
            refine W.skip ?_
            show W _ _ _ _ _ _
            refine W.region ?_
            refine WL.val (Value.int .i64 (k7 : Int)) _ (op_move e131) rfl ?_
            refine WL.val (Value.int .i64 (w64 ((k7 : Int) + (1 : Int)))) _ (op_add rfl rfl) rfl ?_
            refine WL.val (Value.int .i64 (w64 ((k7 : Int) + (1 : Int)))) _ (op_assign rfl) rfl ?_
            refine WL.nil ?_
            obtain rfl := Option.some.inj hb12
            show ∃ s, _ = Ctl.next s ∧ _
            exact ⟨_, rfl, e129, e130, (ctr_next hl22 hr21), (ctr_rng hl22 hr21), hS124⟩
      · intro s139 f135 wd136 hs137 hI138
        obtain ⟨⟩ := s139
        replace hI138 : f135 0 = v_a ∧ f135 1 = v_b ∧ f135 5 = Value.int .i64 (((a).length : Nat) : Int) ∧ InR .i64 (((a).length : Nat) : Int) ∧ St w wd136 [] := hI138
        obtain ⟨hf140, hf141, hf142, hr143, hS144⟩ := hI138
        refine W.seq (W.seq (W.region ?_))
        refine WL.val (Value.int .i64 (((a).length : Nat) : Int)) _ (op_move hf142) rfl ?_
        refine WL.val v_a _ (op_move hf140) rfl ?_
        have hr145 := inR_len (Ty.lift _ hS144.ext r_a)
        refine WL.val (Value.int .i64 ((a).length : Int)) _ (op_lenL sl_34 (Ty.lift _ hS144.ext r_a) rfl) rfl ?_
        refine WL.val (Value.bool (decide ((((a).length : Nat) : Int) < ((a).length : Int)))) _ (op_lss rfl rfl) rfl ?_
        have hl146 : ¬ (((a).length : Nat) : Int) < ((a).length : Int) := by omega
        refine WL.nil ?_
        refine W.condF (decide ((((a).length : Nat) : Int) < ((a).length : Int))) rfl (decide_eq_false hl146) ?_
        refine W.exit ?_
        show _ = _ ∧ _
        exact ⟨rfl, _, hs137, hS144⟩
    · rintro f147 wd148 ⟨s150, rfl, hq149⟩
      replace h := onRes_fin h
      obtain ⟨⟩ := s150
      replace hq149 : St w wd148 [] := hq149
      have hS151 := hq149
      refine W.seq (W.region ?_)
      refine WL.val (Value.bool true) _ (op_assign rfl) rfl ?_
      refine WL.nil ?_
      refine W.ret ?_
      obtain rfl := Option.some.inj h
      show FinP _ _ _ _ _ _ _
      exact FinP.ret _ (res1 rfl rfl) ⟨rfl, hS151.ext⟩

theorem c_laws_eqInt64SS {w : World} {a : (List (List Int))} {v_a : Value} {b : (List (List Int))} {v_b : Value} (r_a : (Ty.sl (Ty.sl (Ty.i .i64))).rep w v_a a) (r_b : (Ty.sl (Ty.sl (Ty.i .i64))).rep w v_b b) {res : Bool} (h : p_laws_eqInt64SS a b  = some res) :
    Ret Tryd.prog 62 #[v_a, v_b] w (fun v w' => v = Value.bool res ∧ Ext w w') := by
  unfold p_laws_eqInt64SS at h
  have hS0 : St w w [] := St.start w
  refine Ret.start (fn := Tryd.f62) Tryd.func62 rfl 27 rfl rfl ?_
  refine W.seq (W.region ?_)
  refine WL.val (Value.bool false) _ (op_assign rfl) rfl ?_
  refine WL.nil ?_
  refine W.seq (W.seq (W.region ?_))
  refine WL.val v_a _ (op_move rfl) rfl ?_
  have hr1 := inR_len (Ty.lift _ hS0.ext r_a)
  refine WL.val (Value.int .i64 ((a).length : Int)) _ (op_lenL sl_60 (Ty.lift _ hS0.ext r_a) rfl) rfl ?_
  refine WL.val v_b _ (op_move rfl) rfl ?_
  have hr2 := inR_len (Ty.lift _ hS0.ext r_b)
  refine WL.val (Value.int .i64 ((b).length : Int)) _ (op_lenL sl_60 (Ty.lift _ hS0.ext r_b) rfl) rfl ?_
  refine WL.val (Value.bool (((a).length : Int) != ((b).length : Int))) _ (op_neq rfl rfl) rfl ?_
  refine WL.nil ?_
  refine W.cond (((a).length : Int) != ((b).length : Int)) rfl (fun hc3 => ?_) (fun hc3 => ?_)
  · replace h := ip h hc3
    refine W.seq (W.region ?_)
    refine WL.val (Value.bool false) _ (op_assign rfl) rfl ?_
    refine WL.nil ?_
    refine W.ret ?_
    obtain rfl := Option.some.inj h
    show FinP _ _ _ _ _ _ _
    exact FinP.ret _ (res1 rfl rfl) ⟨rfl, hS0.ext⟩
  · replace h := inegb h hc3
    refine W.skip ?_
    refine W.seq (W.seq (W.region ?_))
    refine WL.val (Value.int .i64 (0 : Int)) _ (op_assign rfl) rfl ?_
    refine WL.nil ?_
    show W _ _ _ _ _ _
    obtain ⟨res5, hres6, h⟩ := bs h
    refine W.blockLoop (fun fq wq => ∃ s, res5 = Res.fin s ∧ St w wq []) ?_ ?_
    · refine W.forN (fun k (s : Unit) fq wq => fq 0 = v_a ∧ fq 1 = v_b ∧ fq 5 = Value.int .i64 (k : Int) ∧ InR .i64 (k : Int) ∧ St w wq []) hres6 ⟨rfl, rfl, rfl, (inL rfl), hS0⟩ ?_ ?_
      · intro k7 s138 ct8 f9 wd10 hk11 hb12 hI13 hbrk14 hret15
        obtain ⟨⟩ := s138
        replace hI13 : f9 0 = v_a ∧ f9 1 = v_b ∧ f9 5 = Value.int .i64 (k7 : Int) ∧ InR .i64 (k7 : Int) ∧ St w wd10 [] := hI13
        replace hb12 : p_laws_eqInt64SS_L1 a b k7  = some ct8 := hb12
        unfold p_laws_eqInt64SS_L1 at hb12
        obtain ⟨hf16, hf17, hf18, hr19, hS20⟩ := hI13
        refine W.seq (W.seq (W.region ?_))
        refine WL.val (Value.int .i64 (k7 : Int)) _ (op_move hf18) rfl ?_
        refine WL.val v_a _ (op_move hf16) rfl ?_
        have hr21 := inR_len (Ty.lift _ hS20.ext r_a)
        refine WL.val (Value.int .i64 ((a).length : Int)) _ (op_lenL sl_60 (Ty.lift _ hS20.ext r_a) rfl) rfl ?_
        refine WL.val (Value.bool (decide ((k7 : Int) < ((a).length : Int)))) _ (op_lss rfl rfl) rfl ?_
        have hl22 : (k7 : Int) < ((a).length : Int) := by omega
        refine WL.nil ?_
        refine W.condT (decide ((k7 : Int) < ((a).length : Int))) rfl (decide_eq_true hl22) ?_
        refine W.skip ?_
        refine W.seq ?_
        refine W.block ?_
        refine W.seq ?_
        obtain ⟨x53, hx56, hb12⟩ := bs hb12
        obtain ⟨ha54, hb55, hx56⟩ := idx_some hx56
        obtain ⟨u67, hc68, hr69⟩ := repSl.el r_a hx56
        obtain ⟨x99, hx102, hb12⟩ := bs hb12
        obtain ⟨ha100, hb101, hx102⟩ := idx_some hx102
        obtain ⟨u113, hc114, hr115⟩ := repSl.el r_b hx102
        refine W.drawR mixo 8 [] [fun _ v _ _ => v = v_a, fun _ v _ _ => v = (Value.int .i64 (k7 : Int)) ∧ InR .i64 (k7 : Int), fun _ v _ _ => v = (Value.pointer (some (elA v_a ((k7 : Int)).toNat))), fun _ v _ _ => v = u67, fun _ v _ _ => v = v_b, fun _ v _ _ => v = (Value.int .i64 (k7 : Int)) ∧ InR .i64 (k7 : Int), fun _ v _ _ => v = (Value.pointer (some (elA v_b ((k7 : Int)).toNat))), fun _ v _ _ => v = u113] (by kernel_rfl) (by kernel_rfl) ⟨pk, pk, pk, pk, pk, pk, pk, pk, trivial⟩ ⟨?_, ?_, ?_, ?_, ?_, ?_, ?_, ?_, trivial⟩ ?_
        · refine ObX.op rfl fun f24 wd25 he26 hout27 hphi28 => ?_
          have e30 : f24 0 = v_a := (hout27 0 rfl).trans hf16
          exact OpX.val v_a wd25 rfl (op_move e30) (Ext.refl _) rfl
        · refine ObX.op rfl fun f31 wd32 he33 hout34 hphi35 => ?_
          have e37 : f31 5 = (Value.int .i64 (k7 : Int)) := (hout34 5 rfl).trans hf18
          exact OpX.val (Value.int .i64 (k7 : Int)) wd32 rfl (op_move e37) (Ext.refl _) ⟨rfl, hr19⟩
        · refine ObX.op rfl fun f38 wd39 he40 hout41 hphi42 => ?_
          have hS43 := St.extend hS20 he40
          obtain ⟨S44, hS45, hf46⟩ := hphi42 0 17 _ rfl rfl rfl
          have e47 : f38 17 = v_a := hf46
          obtain ⟨S48, hS49, hf50⟩ := hphi42 1 18 _ rfl rfl rfl
          obtain ⟨e51, hr52⟩ := hf50
          exact OpX.val (Value.pointer (some (elA v_a ((k7 : Int)).toNat))) wd39 rfl (op_idx sl_60 (Ty.lift _ hS43.ext r_a) e47 e51 ha54 hb55) (Ext.refl _) rfl
        · refine ObX.op rfl fun f57 wd58 he59 hout60 hphi61 => ?_
          have hS62 := St.extend hS20 he59
          obtain ⟨S63, hS64, hf65⟩ := hphi61 2 19 _ rfl rfl rfl
          have e66 : f57 19 = (Value.pointer (some (elA v_a ((k7 : Int)).toNat))) := hf65
          exact OpX.val u67 wd58 rfl (op_load one_34 e66 (Ext.cell hS62.ext hc68)) (Ext.refl _) rfl
        · refine ObX.op rfl fun f70 wd71 he72 hout73 hphi74 => ?_
          have e76 : f70 1 = v_b := (hout73 1 rfl).trans hf17
          exact OpX.val v_b wd71 rfl (op_move e76) (Ext.refl _) rfl
        · refine ObX.op rfl fun f77 wd78 he79 hout80 hphi81 => ?_
          have e83 : f77 5 = (Value.int .i64 (k7 : Int)) := (hout80 5 rfl).trans hf18
          exact OpX.val (Value.int .i64 (k7 : Int)) wd78 rfl (op_move e83) (Ext.refl _) ⟨rfl, hr19⟩
        · refine ObX.op rfl fun f84 wd85 he86 hout87 hphi88 => ?_
          have hS89 := St.extend hS20 he86
          obtain ⟨S90, hS91, hf92⟩ := hphi88 4 21 _ rfl rfl rfl
          have e93 : f84 21 = v_b := hf92
          obtain ⟨S94, hS95, hf96⟩ := hphi88 5 22 _ rfl rfl rfl
          obtain ⟨e97, hr98⟩ := hf96
          exact OpX.val (Value.pointer (some (elA v_b ((k7 : Int)).toNat))) wd85 rfl (op_idx sl_60 (Ty.lift _ hS89.ext r_b) e93 e97 ha100 hb101) (Ext.refl _) rfl
        · refine ObX.op rfl fun f103 wd104 he105 hout106 hphi107 => ?_
          have hS108 := St.extend hS20 he105
          obtain ⟨S109, hS110, hf111⟩ := hphi107 6 23 _ rfl rfl rfl
          have e112 : f103 23 = (Value.pointer (some (elA v_b ((k7 : Int)).toNat))) := hf111
          exact OpX.val u113 wd104 rfl (op_load one_34 e112 (Ext.cell hS108.ext hc114)) (Ext.refl _) rfl
        · intro f116 wd117 Ss118 he119 hout120 hSn121 hSd122 hphi123
          show WL _ _ _ _ _ _ _
          have hS124 := St.extend hS20 he119
          have e125 : f116 20 = u67 := hphi123 3 20 _ (by decide) rfl rfl
          have e126 : f116 24 = u113 := hphi123 7 24 _ (by decide) rfl rfl
          have e127 : f116 0 = v_a := (hout120 0 rfl).trans hf16
          have e128 : f116 1 = v_b := (hout120 1 rfl).trans hf17
          have e129 : f116 5 = (Value.int .i64 (k7 : Int)) := (hout120 5 rfl).trans hf18
          obtain ⟨x130, hx131, hb12⟩ := bs hb12
          refine WL.call _ (op_call fn_19 (args2 e125 e126)) (c_laws_eqInt64S (Ty.lift _ hS124.ext hr69) (Ty.lift _ hS124.ext hr115) hx131) rfl ?_
          rintro _ wd132 ⟨rfl, he133⟩
          have hS135 := St.extend hS124 he133
          replace hS135 : St w wd132 [] := hS135
          refine WL.val (Value.bool (!x130)) _ (op_not rfl) rfl ?_
          refine WL.nil ?_
          refine W.cond (!x130) rfl (fun hc136 => ?_) (fun hc136 => ?_)
          · replace hb12 := ip hb12 hc136
            refine W.seq (W.region ?_)
            refine WL.val (Value.bool false) _ (op_assign rfl) rfl ?_
            refine WL.nil ?_
            refine W.ret ?_
            obtain rfl := Option.some.inj hb12
            obtain rfl := hret15 _ rfl
            replace h := onRes_ret h
            obtain rfl := Option.some.inj h
            show FinP _ _ _ _ _ _ _
            exact FinP.ret _ (res1 rfl rfl) ⟨rfl, hS135.ext⟩
          · replace hb12 := inegb hb12 hc136
            refine W.skip ?_
            show W _ _ _ _ _ _
            refine W.region ?_
            refine WL.val (Value.int .i64 (k7 : Int)) _ (op_move e129) rfl ?_
            refine WL.val (Value.int .i64 (w64 ((k7 : Int) + (1 : Int)))) _ (op_add rfl rfl) rfl ?_
            refine WL.val (Value.int .i64 (w64 ((k7 : Int) + (1 : Int)))) _ (op_assign rfl) rfl ?_
            refine WL.nil ?_
            obtain rfl := Option.some.inj hb12
            show ∃ s, _ = Ctl.next s ∧ _
            exact ⟨_, rfl, e127, e128, (ctr_next hl22 hr21), (ctr_rng hl22 hr21), hS135⟩
      · intro s143 f139 wd140 hs141 hI142
        obtain ⟨⟩ := s143
        replace hI142 : f139 0 = v_a ∧ f139 1 = v_b ∧ f139 5 = Value.int .i64 (((a).length : Nat) : Int) ∧ InR .i64 (((a).length : Nat) : Int) ∧ St w wd140 [] := hI142
        obtain ⟨hf144, hf145, hf146, hr147, hS148⟩ := hI142
        refine W.seq (W.seq (W.region ?_))
        refine WL.val (Value.int .i64 (((a).length : Nat) : Int)) _ (op_move hf146) rfl ?_
        refine WL.val v_a _ (op_move hf144) rfl ?_
        have hr149 := inR_len (Ty.lift _ hS148.ext r_a)
        refine WL.val (Value.int .i64 ((a).length : Int)) _ (op_lenL sl_60 (Ty.lift _ hS148.ext r_a) rfl) rfl ?_
        refine WL.val (Value.bool (decide ((((a).length : Nat) : Int) < ((a).length : Int)))) _ (op_lss rfl rfl) rfl ?_
        have hl150 : ¬ (((a).length : Nat) : Int) < ((a).length : Int) := by omega
        refine WL.nil ?_
        refine W.condF (decide ((((a).length : Nat) : Int) < ((a).length : Int))) rfl (decide_eq_false hl150) ?_
        refine W.exit ?_
        show _ = _ ∧ _
        exact ⟨rfl, _, hs141, hS148⟩
    · rintro f151 wd152 ⟨s154, rfl, hq153⟩
      replace h := onRes_fin h
      obtain ⟨⟩ := s154
      replace hq153 : St w wd152 [] := hq153
      have hS155 := hq153
      refine W.seq (W.region ?_)
      refine WL.val (Value.bool true) _ (op_assign rfl) rfl ?_
      refine WL.nil ?_
      refine W.ret ?_
      obtain rfl := Option.some.inj h
      show FinP _ _ _ _ _ _ _
      exact FinP.ret _ (res1 rfl rfl) ⟨rfl, hS155.ext⟩

theorem c_laws_eqInt64SSS {w : World} {a : (List (List (List Int)))} {v_a : Value} {b : (List (List (List Int)))} {v_b : Value} (r_a : (Ty.sl (Ty.sl (Ty.sl (Ty.i .i64)))).rep w v_a a) (r_b : (Ty.sl (Ty.sl (Ty.sl (Ty.i .i64)))).rep w v_b b) {res : Bool} (h : p_laws_eqInt64SSS a b  = some res) :
    Ret Tryd.prog 35 #[v_a, v_b] w (fun v w' => v = Value.bool res ∧ Ext w w') := by
  unfold p_laws_eqInt64SSS at h
  have hS0 : St w w [] := St.start w
  refine Ret.start (fn := Tryd.f35) Tryd.func35 rfl 27 rfl rfl ?_
  refine W.seq (W.region ?_)
  refine WL.val (Value.bool false) _ (op_assign rfl) rfl ?_
  refine WL.nil ?_
  refine W.seq (W.seq (W.region ?_))
  refine WL.val v_a _ (op_move rfl) rfl ?_
  have hr1 := inR_len (Ty.lift _ hS0.ext r_a)
  refine WL.val (Value.int .i64 ((a).length : Int)) _ (op_lenL sl_22 (Ty.lift _ hS0.ext r_a) rfl) rfl ?_
  refine WL.val v_b _ (op_move rfl) rfl ?_
  have hr2 := inR_len (Ty.lift _ hS0.ext r_b)
  refine WL.val (Value.int .i64 ((b).length : Int)) _ (op_lenL sl_22 (Ty.lift _ hS0.ext r_b) rfl) rfl ?_
  refine WL.val (Value.bool (((a).length : Int) != ((b).length : Int))) _ (op_neq rfl rfl) rfl ?_
  refine WL.nil ?_
  refine W.cond (((a).length : Int) != ((b).length : Int)) rfl (fun hc3 => ?_) (fun hc3 => ?_)
  · replace h := ip h hc3
    refine W.seq (W.region ?_)
    refine WL.val (Value.bool false) _ (op_assign rfl) rfl ?_
    refine WL.nil ?_
    refine W.ret ?_
    obtain rfl := Option.some.inj h
    show FinP _ _ _ _ _ _ _
    exact FinP.ret _ (res1 rfl rfl) ⟨rfl, hS0.ext⟩
  · replace h := inegb h hc3
    refine W.skip ?_
    refine W.seq (W.seq (W.region ?_))
    refine WL.val (Value.int .i64 (0 : Int)) _ (op_assign rfl) rfl ?_
    refine WL.nil ?_
    show W _ _ _ _ _ _
    obtain ⟨res5, hres6, h⟩ := bs h
    refine W.blockLoop (fun fq wq => ∃ s, res5 = Res.fin s ∧ St w wq []) ?_ ?_
    · refine W.forN (fun k (s : Unit) fq wq => fq 0 = v_a ∧ fq 1 = v_b ∧ fq 5 = Value.int .i64 (k : Int) ∧ InR .i64 (k : Int) ∧ St w wq []) hres6 ⟨rfl, rfl, rfl, (inL rfl), hS0⟩ ?_ ?_
      · intro k7 s138 ct8 f9 wd10 hk11 hb12 hI13 hbrk14 hret15
        obtain ⟨⟩ := s138
        replace hI13 : f9 0 = v_a ∧ f9 1 = v_b ∧ f9 5 = Value.int .i64 (k7 : Int) ∧ InR .i64 (k7 : Int) ∧ St w wd10 [] := hI13
        replace hb12 : p_laws_eqInt64SSS_L1 a b k7  = some ct8 := hb12
        unfold p_laws_eqInt64SSS_L1 at hb12
        obtain ⟨hf16, hf17, hf18, hr19, hS20⟩ := hI13
        refine W.seq (W.seq (W.region ?_))
        refine WL.val (Value.int .i64 (k7 : Int)) _ (op_move hf18) rfl ?_
        refine WL.val v_a _ (op_move hf16) rfl ?_
        have hr21 := inR_len (Ty.lift _ hS20.ext r_a)
        refine WL.val (Value.int .i64 ((a).length : Int)) _ (op_lenL sl_22 (Ty.lift _ hS20.ext r_a) rfl) rfl ?_
        refine WL.val (Value.bool (decide ((k7 : Int) < ((a).length : Int)))) _ (op_lss rfl rfl) rfl ?_
        have hl22 : (k7 : Int) < ((a).length : Int) := by omega
        refine WL.nil ?_
        refine W.condT (decide ((k7 : Int) < ((a).length : Int))) rfl (decide_eq_true hl22) ?_
        refine W.skip ?_
        refine W.seq ?_
        refine W.block ?_
        refine W.seq ?_
        obtain ⟨x53, hx56, hb12⟩ := bs hb12
        obtain ⟨ha54, hb55, hx56⟩ := idx_some hx56
        obtain ⟨u67, hc68, hr69⟩ := repSl.el r_a hx56
        obtain ⟨x99, hx102, hb12⟩ := bs hb12
        obtain ⟨ha100, hb101, hx102⟩ := idx_some hx102
        obtain ⟨u113, hc114, hr115⟩ := repSl.el r_b hx102
        refine W.drawR mixo 8 [] [fun _ v _ _ => v = v_a, fun _ v _ _ => v = (Value.int .i64 (k7 : Int)) ∧ InR .i64 (k7 : Int), fun _ v _ _ => v = (Value.pointer (some (elA v_a ((k7 : Int)).toNat))), fun _ v _ _ => v = u67, fun _ v _ _ => v = v_b, fun _ v _ _ => v = (Value.int .i64 (k7 : Int)) ∧ InR .i64 (k7 : Int), fun _ v _ _ => v = (Value.pointer (some (elA v_b ((k7 : Int)).toNat))), fun _ v _ _ => v = u113] (by kernel_rfl) (by kernel_rfl) ⟨pk, pk, pk, pk, pk, pk, pk, pk, trivial⟩ ⟨?_, ?_, ?_, ?_, ?_, ?_, ?_, ?_, trivial⟩ ?_
        · refine ObX.op rfl fun f24 wd25 he26 hout27 hphi28 => ?_
          have e30 : f24 0 = v_a := (hout27 0 rfl).trans hf16
          exact OpX.val v_a wd25 rfl (op_move e30) (Ext.refl _) rfl
        · refine ObX.op rfl fun f31 wd32 he33 hout34 hphi35 => ?_
          have e37 : f31 5 = (Value.int .i64 (k7 : Int)) := (hout34 5 rfl).trans hf18
          exact OpX.val (Value.int .i64 (k7 : Int)) wd32 rfl (op_move e37) (Ext.refl _) ⟨rfl, hr19⟩
        · refine ObX.op rfl fun f38 wd39 he40 hout41 hphi42 => ?_
          have hS43 := St.extend hS20 he40
          obtain ⟨S44, hS45, hf46⟩ := hphi42 0 17 _ rfl rfl rfl
          have e47 : f38 17 = v_a := hf46
          obtain ⟨S48, hS49, hf50⟩ := hphi42 1 18 _ rfl rfl rfl
          obtain ⟨e51, hr52⟩ := hf50
          exact OpX.val (Value.pointer (some (elA v_a ((k7 : Int)).toNat))) wd39 rfl (op_idx sl_22 (Ty.lift _ hS43.ext r_a) e47 e51 ha54 hb55) (Ext.refl _) rfl
        · refine ObX.op rfl fun f57 wd58 he59 hout60 hphi61 => ?_
          have hS62 := St.extend hS20 he59
          obtain ⟨S63, hS64, hf65⟩ := hphi61 2 19 _ rfl rfl rfl
          have e66 : f57 19 = (Value.pointer (some (elA v_a ((k7 : Int)).toNat))) := hf65
          exact OpX.val u67 wd58 rfl (op_load one_60 e66 (Ext.cell hS62.ext hc68)) (Ext.refl _) rfl
        · refine ObX.op rfl fun f70 wd71 he72 hout73 hphi74 => ?_
          have e76 : f70 1 = v_b := (hout73 1 rfl).trans hf17
          exact OpX.val v_b wd71 rfl (op_move e76) (Ext.refl _) rfl
        · refine ObX.op rfl fun f77 wd78 he79 hout80 hphi81 => ?_
          have e83 : f77 5 = (Value.int .i64 (k7 : Int)) := (hout80 5 rfl).trans hf18
          exact OpX.val (Value.int .i64 (k7 : Int)) wd78 rfl (op_move e83) (Ext.refl _) ⟨rfl, hr19⟩
        · refine ObX.op rfl fun f84 wd85 he86 hout87 hphi88 => ?_
          have hS89 := St.extend hS20 he86
          obtain ⟨S90, hS91, hf92⟩ := hphi88 4 21 _ rfl rfl rfl
          have e93 : f84 21 = v_b := hf92
          obtain ⟨S94, hS95, hf96⟩ := hphi88 5 22 _ rfl rfl rfl
          obtain ⟨e97, hr98⟩ := hf96
          exact OpX.val (Value.pointer (some (elA v_b ((k7 : Int)).toNat))) wd85 rfl (op_idx sl_22 (Ty.lift _ hS89.ext r_b) e93 e97 ha100 hb101) (Ext.refl _) rfl
        · refine ObX.op rfl fun f103 wd104 he105 hout106 hphi107 => ?_
          have hS108 := St.extend hS20 he105
          obtain ⟨S109, hS110, hf111⟩ := hphi107 6 23 _ rfl rfl rfl
          have e112 : f103 23 = (Value.pointer (some (elA v_b ((k7 : Int)).toNat))) := hf111
          exact OpX.val u113 wd104 rfl (op_load one_60 e112 (Ext.cell hS108.ext hc114)) (Ext.refl _) rfl
        · intro f116 wd117 Ss118 he119 hout120 hSn121 hSd122 hphi123
          show WL _ _ _ _ _ _ _
          have hS124 := St.extend hS20 he119
          have e125 : f116 20 = u67 := hphi123 3 20 _ (by decide) rfl rfl
          have e126 : f116 24 = u113 := hphi123 7 24 _ (by decide) rfl rfl
          have e127 : f116 0 = v_a := (hout120 0 rfl).trans hf16
          have e128 : f116 1 = v_b := (hout120 1 rfl).trans hf17
          have e129 : f116 5 = (Value.int .i64 (k7 : Int)) := (hout120 5 rfl).trans hf18
          obtain ⟨x130, hx131, hb12⟩ := bs hb12
          refine WL.call _ (op_call fn_62 (args2 e125 e126)) (c_laws_eqInt64SS (Ty.lift _ hS124.ext hr69) (Ty.lift _ hS124.ext hr115) hx131) rfl ?_
          rintro _ wd132 ⟨rfl, he133⟩
          have hS135 := St.extend hS124 he133
          replace hS135 : St w wd132 [] := hS135
          refine WL.val (Value.bool (!x130)) _ (op_not rfl) rfl ?_
          refine WL.nil ?_
          refine W.cond (!x130) rfl (fun hc136 => ?_) (fun hc136 => ?_)
          · replace hb12 := ip hb12 hc136
            refine W.seq (W.region ?_)
            refine WL.val (Value.bool false) _ (op_assign rfl) rfl ?_
            refine WL.nil ?_
            refine W.ret ?_
            obtain rfl := Option.some.inj hb12
            obtain rfl := hret15 _ rfl
            replace h := onRes_ret h
            obtain rfl := Option.some.inj h
            show FinP _ _ _ _ _ _ _
            exact FinP.ret _ (res1 rfl rfl) ⟨rfl, hS135.ext⟩
          · replace hb12 := inegb hb12 hc136
            refine W.skip ?_
            show W _ _ _ _ _ _
            refine W.region ?_
            refine WL.val (Value.int .i64 (k7 : Int)) _ (op_move e129) rfl ?_
            refine WL.val (Value.int .i64 (w64 ((k7 : Int) + (1 : Int)))) _ (op_add rfl rfl) rfl ?_
            refine WL.val (Value.int .i64 (w64 ((k7 : Int) + (1 : Int)))) _ (op_assign rfl) rfl ?_
            refine WL.nil ?_
            obtain rfl := Option.some.inj hb12
            show ∃ s, _ = Ctl.next s ∧ _
            exact ⟨_, rfl, e127, e128, (ctr_next hl22 hr21), (ctr_rng hl22 hr21), hS135⟩
      · intro s143 f139 wd140 hs141 hI142
        obtain ⟨⟩ := s143
        replace hI142 : f139 0 = v_a ∧ f139 1 = v_b ∧ f139 5 = Value.int .i64 (((a).length : Nat) : Int) ∧ InR .i64 (((a).length : Nat) : Int) ∧ St w wd140 [] := hI142
        obtain ⟨hf144, hf145, hf146, hr147, hS148⟩ := hI142
        refine W.seq (W.seq (W.region ?_))
        refine WL.val (Value.int .i64 (((a).length : Nat) : Int)) _ (op_move hf146) rfl ?_
        refine WL.val v_a _ (op_move hf144) rfl ?_
        have hr149 := inR_len (Ty.lift _ hS148.ext r_a)
        refine WL.val (Value.int .i64 ((a).length : Int)) _ (op_lenL sl_22 (Ty.lift _ hS148.ext r_a) rfl) rfl ?_
        refine WL.val (Value.bool (decide ((((a).length : Nat) : Int) < ((a).length : Int)))) _ (op_lss rfl rfl) rfl ?_
        have hl150 : ¬ (((a).length : Nat) : Int) < ((a).length : Int) := by omega
        refine WL.nil ?_
        refine W.condF (decide ((((a).length : Nat) : Int) < ((a).length : Int))) rfl (decide_eq_false hl150) ?_
        refine W.exit ?_
        show _ = _ ∧ _
        exact ⟨rfl, _, hs141, hS148⟩
    · rintro f151 wd152 ⟨s154, rfl, hq153⟩
      replace h := onRes_fin h
      obtain ⟨⟩ := s154
      replace hq153 : St w wd152 [] := hq153
      have hS155 := hq153
      refine W.seq (W.region ?_)
      refine WL.val (Value.bool true) _ (op_assign rfl) rfl ?_
      refine WL.nil ?_
      refine W.ret ?_
      obtain rfl := Option.some.inj h
      show FinP _ _ _ _ _ _ _
      exact FinP.ret _ (res1 rfl rfl) ⟨rfl, hS155.ext⟩

theorem c_laws_eqRing {w : World} {a_Table : (List (List (List Int)))} {v_a_Table : Value} {b_Table : (List (List (List Int)))} {v_b_Table : Value} (r_a_Table : (Ty.sl (Ty.sl (Ty.sl (Ty.i .i64)))).rep w v_a_Table a_Table) (r_b_Table : (Ty.sl (Ty.sl (Ty.sl (Ty.i .i64)))).rep w v_b_Table b_Table) {res : Bool} (h : p_laws_eqRing a_Table b_Table  = some res) :
    Ret Tryd.prog 13 #[(Value.agg #[v_a_Table]), (Value.agg #[v_b_Table])] w (fun v w' => v = Value.bool res ∧ Ext w w') := by
  unfold p_laws_eqRing at h
  have hS0 : St w w [] := St.start w
  refine Ret.start (fn := Tryd.f13) Tryd.func13 rfl 11 rfl rfl ?_
  refine W.seq (W.region ?_)
  refine WL.box hS0 rfl (cs := [v_a_Table]) rfl rfl ?_
  intro b1 wd2 hS3 he4 hx5
  replace hS3 : St w wd2 [bx b1 [v_a_Table]] := hS3
  have hx6 := St.boxAt hS3 0 rfl
  have hE7 : Ext w wd2 := hS3.ext
  have hS8 : St wd2 wd2 [] := St.start wd2
  refine WL.box hS8 rfl (cs := [v_b_Table]) rfl rfl ?_
  intro b9 wd10 hS11 he12 hx13
  replace hS11 : St wd2 wd10 [bx b9 [v_b_Table]] := hS11
  have hx14 := St.boxAt hS11 0 rfl
  have hE15 : Ext w wd10 := (Ext.trans hE7 hS11.ext)
  have hE16 : Ext wd2 wd10 := hS11.ext
  have hS17 : St wd10 wd10 [] := St.start wd10
  refine WL.val (Value.bool false) _ (op_assign rfl) rfl ?_
  refine WL.nil ?_
  refine W.seq (W.seq (W.region ?_))
  refine WL.val (Value.pointer (some ⟨b1, 0, none⟩)) _ (op_fieldAddr fd_28_0 rfl) rfl ?_
  refine WL.val v_a_Table _ (op_load one_22 rfl (BoxAt.cell (BoxAt.lift (Ext.trans hE16 hS17.ext) hx6) rfl)) rfl ?_
  refine WL.val (Value.pointer (some ⟨b9, 0, none⟩)) _ (op_fieldAddr fd_28_0 rfl) rfl ?_
  refine WL.val v_b_Table _ (op_load one_22 rfl (BoxAt.cell (BoxAt.lift hS17.ext hx14) rfl)) rfl ?_
  obtain ⟨x18, hx19, h⟩ := bs h
  refine WL.call _ (op_call fn_35 (args2 rfl rfl)) (c_laws_eqInt64SSS (Ty.lift _ (Ext.trans hE15 hS17.ext) r_a_Table) (Ty.lift _ (Ext.trans hE15 hS17.ext) r_b_Table) hx19) rfl ?_
  rintro _ wd20 ⟨rfl, he21⟩
  have hS23 := St.extend hS17 he21
  replace hS23 : St wd10 wd20 [] := hS23
  refine WL.val (Value.bool (!x18)) _ (op_not rfl) rfl ?_
  refine WL.nil ?_
  refine W.cond (!x18) rfl (fun hc24 => ?_) (fun hc24 => ?_)
  · replace h := ip h hc24
    refine W.seq (W.region ?_)
    refine WL.val (Value.bool false) _ (op_assign rfl) rfl ?_
    refine WL.nil ?_
    refine W.ret ?_
    obtain rfl := Option.some.inj h
    show FinP _ _ _ _ _ _ _
    exact FinP.ret _ (res1 rfl rfl) ⟨rfl, (Ext.trans hE15 hS23.ext)⟩
  · replace h := inegb h hc24
    refine W.skip ?_
    refine W.seq (W.region ?_)
    refine WL.val (Value.bool true) _ (op_assign rfl) rfl ?_
    refine WL.nil ?_
    refine W.ret ?_
    obtain rfl := Option.some.inj h
    show FinP _ _ _ _ _ _ _
    exact FinP.ret _ (res1 rfl rfl) ⟨rfl, (Ext.trans hE15 hS23.ext)⟩

theorem c_spec_l05Code {w : World} {r_Table : (List (List (List Int)))} {v_r_Table : Value} {set : Int} (r_r_Table : (Ty.sl (Ty.sl (Ty.sl (Ty.i .i64)))).rep w v_r_Table r_Table) (r_set : InR .i64 set) {res : Int} (h : p_spec_l05Code r_Table set  = some res) :
    Ret Tryd.prog 36 #[(Value.agg #[v_r_Table]), (Value.int .i64 set)] w (fun v w' => v = Value.int .i64 res ∧ InR .i64 res ∧ Ext w w') := by
  unfold p_spec_l05Code at h
  have hS0 : St w w [] := St.start w
  refine Ret.start (fn := Tryd.f36) Tryd.func36 rfl 15 rfl rfl ?_
  refine W.seq (W.region ?_)
  refine WL.box hS0 rfl (cs := [v_r_Table]) rfl rfl ?_
  intro b1 wd2 hS3 he4 hx5
  replace hS3 : St w wd2 [bx b1 [v_r_Table]] := hS3
  have hx6 := St.boxAt hS3 0 rfl
  have hE7 : Ext w wd2 := hS3.ext
  have hS8 : St wd2 wd2 [] := St.start wd2
  refine WL.val (Value.int .i64 (0 : Int)) _ (op_assign rfl) rfl ?_
  refine WL.nil ?_
  refine W.seq ?_
  refine W.block ?_
  refine W.seq (W.region ?_)
  refine WL.val (Value.agg #[v_r_Table]) _ (op_loadBox st_28 rfl (BoxAt.lift hS8.ext hx6) rfl rfl) rfl ?_
  obtain ⟨x9, hx10, h⟩ := bs h
  refine WL.call _ (op_call fn_30 (args1 rfl)) (c_spec_l03Is (Ty.lift _ (Ext.trans hE7 hS8.ext) r_r_Table) hx10) rfl ?_
  rintro _ wd11 ⟨rfl, he12⟩
  have hS14 := St.extend hS8 he12
  replace hS14 : St wd2 wd11 [] := hS14
  refine WL.val (Value.bool (!x9)) _ (op_not rfl) rfl ?_
  refine WL.val (Value.bool (!x9)) _ (op_assign rfl) rfl ?_
  refine WL.nil ?_
  refine W.cond (!x9) rfl (fun hc15 => ?_) (fun hc15 => ?_)
  · replace h := ip h hc15
    refine W.seq (W.region ?_)
    refine WL.val (Value.int .i64 (1 : Int)) _ (op_assign rfl) rfl ?_
    refine WL.nil ?_
    refine W.ret ?_
    obtain rfl := Option.some.inj h
    show FinP _ _ _ _ _ _ _
    exact FinP.ret _ (res1 rfl rfl) ⟨rfl, (inL rfl), (Ext.trans hE7 hS14.ext)⟩
  · replace h := inegb h hc15
    refine W.seq (W.region ?_)
    refine WL.val (Value.int .i64 set) _ (op_move rfl) rfl ?_
    refine WL.val (Value.agg #[v_r_Table]) _ (op_loadBox st_28 rfl (BoxAt.lift hS14.ext hx6) rfl rfl) rfl ?_
    obtain ⟨x17, hx18, h⟩ := bs h
    refine WL.call _ (op_call fn_55 (args1 rfl)) (c_spec_l05All (Ty.lift _ (Ext.trans hE7 hS14.ext) r_r_Table) hx18) rfl ?_
    rintro _ wd20 ⟨rfl, hr19, he21⟩
    have hS23 := St.extend hS14 he21
    replace hS23 : St wd2 wd20 [] := hS23
    obtain ⟨x24, hx25, h⟩ := bs h
    refine WL.call _ (op_call fn_63 (args3 rfl rfl rfl)) (c_spec_l01In r_set (inL rfl) hr19 hx25) rfl ?_
    rintro _ wd26 ⟨rfl, he27⟩
    have hS29 := St.extend hS23 he27
    replace hS29 : St wd2 wd26 [] := hS29
    refine WL.val (Value.bool (!x24)) _ (op_not rfl) rfl ?_
    refine WL.val (Value.bool (!x24)) _ (op_assign rfl) rfl ?_
    refine WL.nil ?_
    refine W.cond (!x24) rfl (fun hc30 => ?_) (fun hc30 => ?_)
    · replace h := ip h hc30
      refine W.seq (W.region ?_)
      refine WL.val (Value.int .i64 (2 : Int)) _ (op_assign rfl) rfl ?_
      refine WL.nil ?_
      refine W.ret ?_
      obtain rfl := Option.some.inj h
      show FinP _ _ _ _ _ _ _
      exact FinP.ret _ (res1 rfl rfl) ⟨rfl, (inL rfl), (Ext.trans hE7 hS29.ext)⟩
    · replace h := inegb h hc30
      refine W.skip ?_
      refine W.seq (W.region ?_)
      refine WL.val (Value.int .i64 (0 : Int)) _ (op_assign rfl) rfl ?_
      refine WL.nil ?_
      refine W.ret ?_
      obtain rfl := Option.some.inj h
      show FinP _ _ _ _ _ _ _
      exact FinP.ret _ (res1 rfl rfl) ⟨rfl, (inL rfl), (Ext.trans hE7 hS29.ext)⟩

theorem c_impl_setCode {w : World} {r_Table : (List (List (List Int)))} {v_r_Table : Value} {set : Int} (r_r_Table : (Ty.sl (Ty.sl (Ty.sl (Ty.i .i64)))).rep w v_r_Table r_Table) (r_set : InR .i64 set) {res : Int} (h : p_impl_setCode r_Table set  = some res) :
    Ret Tryd.prog 38 #[(Value.agg #[v_r_Table]), (Value.int .i64 set)] w (fun v w' => v = Value.int .i64 res ∧ InR .i64 res ∧ Ext w w') := by
  unfold p_impl_setCode at h
  have hS0 : St w w [] := St.start w
  refine Ret.start (fn := Tryd.f38) Tryd.func38 rfl 12 rfl rfl ?_
  refine W.seq (W.region ?_)
  refine WL.box hS0 rfl (cs := [v_r_Table]) rfl rfl ?_
  intro b1 wd2 hS3 he4 hx5
  replace hS3 : St w wd2 [bx b1 [v_r_Table]] := hS3
  have hx6 := St.boxAt hS3 0 rfl
  have hE7 : Ext w wd2 := hS3.ext
  have hS8 : St wd2 wd2 [] := St.start wd2
  refine WL.val (Value.int .i64 (0 : Int)) _ (op_assign rfl) rfl ?_
  refine WL.nil ?_
  refine W.seq (W.seq (W.region ?_))
  refine WL.val (Value.agg #[v_r_Table]) _ (op_loadBox st_28 rfl (BoxAt.lift hS8.ext hx6) rfl rfl) rfl ?_
  obtain ⟨x9, hx10, h⟩ := bs h
  refine WL.call _ (op_call fn_33 (args1 rfl)) (c_impl_IsRing (Ty.lift _ (Ext.trans hE7 hS8.ext) r_r_Table) hx10) rfl ?_
  rintro _ wd11 ⟨rfl, he12⟩
  have hS14 := St.extend hS8 he12
  replace hS14 : St wd2 wd11 [] := hS14
  refine WL.val (Value.bool (!x9)) _ (op_not rfl) rfl ?_
  refine WL.nil ?_
  refine W.cond (!x9) rfl (fun hc15 => ?_) (fun hc15 => ?_)
  · replace h := ip h hc15
    refine W.seq (W.region ?_)
    refine WL.val (Value.int .i64 (1 : Int)) _ (op_assign rfl) rfl ?_
    refine WL.nil ?_
    refine W.ret ?_
    obtain rfl := Option.some.inj h
    show FinP _ _ _ _ _ _ _
    exact FinP.ret _ (res1 rfl rfl) ⟨rfl, (inL rfl), (Ext.trans hE7 hS14.ext)⟩
  · replace h := inegb h hc15
    refine W.skip ?_
    refine W.seq (W.seq (W.region ?_))
    refine WL.val (Value.agg #[v_r_Table]) _ (op_loadBox st_28 rfl (BoxAt.lift hS14.ext hx6) rfl rfl) rfl ?_
    refine WL.val (Value.int .i64 set) _ (op_move rfl) rfl ?_
    obtain ⟨x17, hx18, h⟩ := bs h
    refine WL.call _ (op_call fn_60 (args2 rfl rfl)) (c_impl_Ring_isSet (Ty.lift _ (Ext.trans hE7 hS14.ext) r_r_Table) r_set hx18) rfl ?_
    rintro _ wd19 ⟨rfl, he20⟩
    have hS22 := St.extend hS14 he20
    replace hS22 : St wd2 wd19 [] := hS22
    refine WL.val (Value.bool (!x17)) _ (op_not rfl) rfl ?_
    refine WL.nil ?_
    refine W.cond (!x17) rfl (fun hc23 => ?_) (fun hc23 => ?_)
    · replace h := ip h hc23
      refine W.seq (W.region ?_)
      refine WL.val (Value.int .i64 (2 : Int)) _ (op_assign rfl) rfl ?_
      refine WL.nil ?_
      refine W.ret ?_
      obtain rfl := Option.some.inj h
      show FinP _ _ _ _ _ _ _
      exact FinP.ret _ (res1 rfl rfl) ⟨rfl, (inL rfl), (Ext.trans hE7 hS22.ext)⟩
    · replace h := inegb h hc23
      refine W.skip ?_
      refine W.seq (W.region ?_)
      refine WL.val (Value.int .i64 (0 : Int)) _ (op_assign rfl) rfl ?_
      refine WL.nil ?_
      refine W.ret ?_
      obtain rfl := Option.some.inj h
      show FinP _ _ _ _ _ _ _
      exact FinP.ret _ (res1 rfl rfl) ⟨rfl, (inL rfl), (Ext.trans hE7 hS22.ext)⟩

theorem c_impl_Ring_closed {w : World} {r_Table : (List (List (List Int)))} {v_r_Table : Value} {set : Int} (tb : TabAt w) (r_r_Table : (Ty.sl (Ty.sl (Ty.sl (Ty.i .i64)))).rep w v_r_Table r_Table) (r_set : InR .i64 set) {res : Int} (h : p_impl_Ring_closed r_Table set  = some res) :
    Ret Tryd.prog 39 #[(Value.agg #[v_r_Table]), (Value.int .i64 set)] w (fun v w' => v = Value.int .i64 res ∧ InR .i64 res ∧ Ext w w') := by
  unfold p_impl_Ring_closed at h
  have hS0 : St w w [] := St.start w
  refine Ret.start (fn := Tryd.f39) Tryd.func39 rfl 56 rfl rfl ?_
  refine W.seq (W.region ?_)
  refine WL.box hS0 rfl (cs := [v_r_Table]) rfl rfl ?_
  intro b1 wd2 hS3 he4 hx5
  replace hS3 : St w wd2 [bx b1 [v_r_Table]] := hS3
  have hx6 := St.boxAt hS3 0 rfl
  have hE7 : Ext w wd2 := hS3.ext
  have hS8 : St wd2 wd2 [] := St.start wd2
  refine WL.val (Value.int .i64 (0 : Int)) _ (op_assign rfl) rfl ?_
  refine WL.nil ?_
  refine W.seq ?_
  obtain ⟨x26, hx27, h⟩ := bs h
  refine W.drawR mixo 3 [] [fun _ v S w' => v = (Value.agg #[v_r_Table]), fun _ v S w' => SepS S w' [(Ty.sl (Ty.sl (Ty.i .i64))).at v x26], fun _ v S w' => v = (Value.agg #[v_r_Table])] (by kernel_rfl) (by kernel_rfl) ⟨pk, ⟨fun _ _ _ _ _ he h => SepS.extend he h, fun _ _ _ _ _ _ h => h⟩, pk, trivial⟩ ⟨?_, ?_, ?_, trivial⟩ ?_
  · refine ObX.op rfl fun f9 wd10 he11 hout12 hphi13 => ?_
    have hS14 := St.extend hS8 he11
    have e15 : f9 2 = (Value.pointer (some ⟨b1, 0, none⟩)) := (hout12 2 rfl).trans rfl
    exact OpX.val (Value.agg #[v_r_Table]) wd10 rfl (op_loadBox st_28 e15 (BoxAt.lift hS14.ext hx6) rfl rfl) (Ext.refl _) rfl
  · refine ObX.op rfl fun f16 wd17 he18 hout19 hphi20 => ?_
    have hS21 := St.extend hS8 he18
    obtain ⟨S22, hS23, hf24⟩ := hphi20 0 12 _ rfl rfl rfl
    have e25 : f16 12 = (Value.agg #[v_r_Table]) := hf24
    refine OpX.call rfl (op_call fn_48 (args1 e25)) (Ret.mono (c_impl_Ring_supports (Ty.lift _ (Ext.trans hE7 hS21.ext) r_r_Table) hx27) ?_)
    rintro u28 wd29 ⟨_, rfl, he30, hs31⟩
    exact ⟨he30, _, newS _ _, (Sep.new hs31)⟩
  · refine ObX.op rfl fun f32 wd33 he34 hout35 hphi36 => ?_
    have hS37 := St.extend hS8 he34
    have e38 : f32 2 = (Value.pointer (some ⟨b1, 0, none⟩)) := (hout35 2 rfl).trans rfl
    exact OpX.val (Value.agg #[v_r_Table]) wd33 rfl (op_loadBox st_28 e38 (BoxAt.lift hS37.ext hx6) rfl rfl) (Ext.refl _) rfl
  · intro f39 wd40 Ss41 he42 hout43 hSn44 hSd45 hphi46
    show WL _ _ _ _ _ _ _
    have e48 : SepS (Ss41 1) wd40 [(Ty.sl (Ty.sl (Ty.i .i64))).at (f39 13) x26] := hphi46 1 13 _ (by decide) rfl rfl
    have e49 : f39 14 = (Value.agg #[v_r_Table]) := hphi46 2 14 _ (by decide) rfl rfl
    have e50 : f39 1 = (Value.int .i64 set) := (hout43 1 rfl).trans rfl
    have hS51 := St.joinS hS8 he42 hSn44 (SepS.consS hSd45 rfl e48 SepS.nilS)
    replace hS51 : St wd2 wd40 [(Ty.sl (Ty.sl (Ty.i .i64))).at (f39 13) x26] := hS51
    have hb52 := St.rep (t := (Ty.sl (Ty.sl (Ty.i .i64)))) hS51 0 rfl
    have hE53 : Ext w wd40 := (Ext.trans hE7 hS51.ext)
    have hE54 : Ext wd2 wd40 := hS51.ext
    have hS55 : St wd40 wd40 [] := St.start wd40
    obtain ⟨x56, hx57, h⟩ := bs h
    refine WL.call _ (op_call fn_59 (args1 e49)) (c_impl_Ring_duals (Ty.lift _ (Ext.trans hE53 hS55.ext) r_r_Table) hx57) rfl ?_
    rintro u58 wd59 ⟨_, rfl, he60, hs61⟩
    have hS62 := St.join hS55 he60 hs61
    replace hS62 : St wd40 wd59 [(Ty.sl (Ty.i .i64)).at u58 x56] := hS62
    have hb63 := St.rep (t := (Ty.sl (Ty.i .i64))) hS62 0 rfl
    have hE64 : Ext w wd59 := (Ext.trans hE53 hS62.ext)
    have hE65 : Ext wd2 wd59 := (Ext.trans hE54 hS62.ext)
    have hE66 : Ext wd40 wd59 := hS62.ext
    have hS67 : St wd59 wd59 [] := St.start wd59
    refine WL.val (f39 13) _ (op_assign rfl) rfl ?_
    refine WL.val u58 _ (op_assign rfl) rfl ?_
    refine WL.nil ?_
    refine W.seq (W.region ?_)
    refine WL.val (Value.int .i64 set) _ (op_move e50) rfl ?_
    refine WL.val (Value.int .i64 (orI .i64 set (1 : Int))) _ (op_or rfl rfl) rfl ?_
    refine WL.val (Value.int .i64 (orI .i64 set (1 : Int))) _ (op_assign rfl) rfl ?_
    refine WL.nil ?_
    show W _ _ _ _ _ _
    obtain ⟨res68, hres69, h⟩ := bs h
    refine W.blockLoop (fun fq wq => ∃ s, res68 = Res.fin s ∧ St wd59 wq []) ?_ ?_
    · refine W.whileC (fun (s : Int) fq wq => fq 1 = Value.int .i64 s ∧ InR .i64 s ∧ fq 5 = (f39 13) ∧ fq 6 = u58 ∧ St wd59 wq []) hres69 ⟨rfl, (inR_wrap _ _), rfl, rfl, hS67⟩ ?_
      intro x71 ct72 f73 wd74 hb76 hI77 hbrk78 hret79
      replace hI77 : f73 1 = Value.int .i64 x71 ∧ InR .i64 x71 ∧ f73 5 = (f39 13) ∧ f73 6 = u58 ∧ St wd59 wd74 [] := hI77
      replace hb76 : p_impl_Ring_closed_L1 x56 x26  x71 = some ct72 := hb76
      unfold p_impl_Ring_closed_L1 at hb76
      obtain ⟨hf80, hr81, hf82, hf83, hS84⟩ := hI77
      refine W.block ?_
      refine W.seq (W.region ?_)
      refine WL.val (Value.int .i64 x71) _ (op_move hf80) rfl ?_
      refine WL.val (Value.int .i64 x71) _ (op_assign rfl) rfl ?_
      refine WL.nil ?_
      refine W.seq (W.seq (W.region ?_))
      refine WL.val (Value.int .i64 x71) _ (op_move hf80) rfl ?_
      obtain ⟨x85, hx86, hb76⟩ := bs hb76
      refine WL.call _ (op_call fn_51 (args1 rfl)) (c_impl_labelsIn (tb.ext (Ext.trans hE64 hS84.ext)) hr81 hx86) rfl ?_
      rintro u87 wd88 ⟨_, rfl, he89, hs90⟩
      have hS91 := St.join hS84 he89 hs90
      replace hS91 : St wd59 wd88 [(Ty.sl (Ty.i .i64)).at u87 x85] := hS91
      have hb92 := St.rep (t := (Ty.sl (Ty.i .i64))) hS91 0 rfl
      have hE93 : Ext w wd88 := (Ext.trans hE64 hS91.ext)
      have hE94 : Ext wd2 wd88 := (Ext.trans hE65 hS91.ext)
      have hE95 : Ext wd40 wd88 := (Ext.trans hE66 hS91.ext)
      have hE96 : Ext wd59 wd88 := hS91.ext
      have hS97 : St wd88 wd88 [] := St.start wd88
      have hr98 := inR_len (Ty.lift _ hS97.ext hb92)
      refine WL.val (Value.int .i64 ((x85).length : Int)) _ (op_lenL sl_63 (Ty.lift _ hS97.ext hb92) rfl) rfl ?_
      refine WL.val (Value.int .i64 (0 : Int)) _ (op_move rfl) rfl ?_
      refine WL.nil ?_
      show W _ _ _ _ _ _
      obtain ⟨res99, hres100, hb76⟩ := bs hb76
      refine W.blockLoop (fun fq wq => ∃ s, res99 = Res.fin s ∧ fq 1 = (Value.int .i64 x71) ∧ fq 5 = (f39 13) ∧ fq 6 = u58 ∧ fq 7 = Value.int .i64 s ∧ InR .i64 s ∧ St wd88 wq []) ?_ ?_
      · refine W.forN (fun k (s : Int) fq wq => fq 1 = (Value.int .i64 x71) ∧ fq 5 = (f39 13) ∧ fq 6 = u58 ∧ fq 7 = Value.int .i64 s ∧ InR .i64 s ∧ fq 20 = u87 ∧ fq 21 = (Value.int .i64 ((x85).length : Int)) ∧ fq 22 = Value.int .i64 (k : Int) ∧ InR .i64 (k : Int) ∧ St wd88 wq []) hres100 ⟨hf80, hf82, hf83, rfl, hr81, rfl, rfl, rfl, (inL rfl), hS97⟩ ?_ ?_
        · intro k101 x102 ct103 f104 wd105 hk106 hb107 hI108 hbrk109 hret110
          replace hI108 : f104 1 = (Value.int .i64 x71) ∧ f104 5 = (f39 13) ∧ f104 6 = u58 ∧ f104 7 = Value.int .i64 x102 ∧ InR .i64 x102 ∧ f104 20 = u87 ∧ f104 21 = (Value.int .i64 ((x85).length : Int)) ∧ f104 22 = Value.int .i64 (k101 : Int) ∧ InR .i64 (k101 : Int) ∧ St wd88 wd105 [] := hI108
          replace hb107 : p_impl_Ring_closed_L2 x85 x56 x71 x26 k101 x102 = some ct103 := hb107
          unfold p_impl_Ring_closed_L2 at hb107
          obtain ⟨hf111, hf112, hf113, hf114, hr115, hf116, hf117, hf118, hr119, hS120⟩ := hI108
          refine W.seq (W.region ?_)
          refine WL.val (Value.bool (decide ((k101 : Int) < ((x85).length : Int)))) _ (op_lss hf118 hf117) rfl ?_
          have hl121 : (k101 : Int) < ((x85).length : Int) := by omega
          refine WL.nil ?_
          refine W.seq ?_
          refine W.condT (decide ((k101 : Int) < ((x85).length : Int))) rfl (decide_eq_true hl121) ?_
          refine W.skip ?_
          refine W.seq ?_
          refine W.block ?_
          refine W.seq (W.region ?_)
          obtain ⟨x123, hx126, hb107⟩ := bs hb107
          obtain ⟨ha124, hb125, hx126⟩ := idx_some hx126
          refine WL.val (Value.pointer (some (elA u87 ((k101 : Int)).toNat))) _ (op_idx sl_63 (Ty.lift _ hS120.ext hb92) hf116 hf118 ha124 hb125) rfl ?_
          obtain ⟨u127, hc128, hr129⟩ := repSl.el hb92 hx126
          obtain ⟨rfl, hr129⟩ := hr129
          refine WL.val (Value.int .i64 x123) _ (op_load one_3 rfl (Ext.cell hS120.ext hc128)) rfl ?_
          refine WL.val (Value.int .i64 x123) _ (op_assign rfl) rfl ?_
          refine WL.nil ?_
          refine W.seq (W.region ?_)
          refine WL.val (Value.int .i64 x102) _ (op_move hf114) rfl ?_
          refine WL.val u58 _ (op_move hf113) rfl ?_
          refine WL.val (Value.int .i64 x123) _ (op_move rfl) rfl ?_
          obtain ⟨x130, hx133, hb107⟩ := bs hb107
          obtain ⟨ha131, hb132, hx133⟩ := idx_some hx133
          refine WL.val (Value.pointer (some (elA u58 (x123).toNat))) _ (op_idx sl_63 (Ty.lift _ (Ext.trans hE96 hS120.ext) hb63) rfl rfl ha131 hb132) rfl ?_
          obtain ⟨u134, hc135, hr136⟩ := repSl.el hb63 hx133
          obtain ⟨rfl, hr136⟩ := hr136
          refine WL.val (Value.int .i64 x130) _ (op_load one_3 rfl (Ext.cell (Ext.trans hE96 hS120.ext) hc135)) rfl ?_
          obtain ⟨x137, hz138, hb107⟩ := bs hb107
          obtain ⟨h0139, hz138⟩ := shlI_some hz138
          have hr140 : InR .i64 x137 := by rw [hz138]; exact inR_wrap _ _
          refine WL.val (Value.int .i64 x137) _ (by rw [hz138]; exact op_shl rfl rfl h0139) rfl ?_
          refine WL.val (Value.int .i64 (orI .i64 x102 x137)) _ (op_or rfl rfl) rfl ?_
          refine WL.val (Value.int .i64 (orI .i64 x102 x137)) _ (op_assign rfl) rfl ?_
          refine WL.nil ?_
          refine W.seq (W.region ?_)
          refine WL.val (Value.int .i64 x71) _ (op_move hf111) rfl ?_
          obtain ⟨x141, hx142, hb107⟩ := bs hb107
          refine WL.call _ (op_call fn_51 (args1 rfl)) (c_impl_labelsIn (tb.ext (Ext.trans hE93 hS120.ext)) hr81 hx142) rfl ?_
          rintro u143 wd144 ⟨_, rfl, he145, hs146⟩
          have hS147 := St.join hS120 he145 hs146
          replace hS147 : St wd88 wd144 [(Ty.sl (Ty.i .i64)).at u143 x141] := hS147
          have hb148 := St.rep (t := (Ty.sl (Ty.i .i64))) hS147 0 rfl
          have hE149 : Ext w wd144 := (Ext.trans hE93 hS147.ext)
          have hE150 : Ext wd2 wd144 := (Ext.trans hE94 hS147.ext)
          have hE151 : Ext wd40 wd144 := (Ext.trans hE95 hS147.ext)
          have hE152 : Ext wd59 wd144 := (Ext.trans hE96 hS147.ext)
          have hE153 : Ext wd88 wd144 := hS147.ext
          have hS154 : St wd144 wd144 [] := St.start wd144
          have hr155 := inR_len (Ty.lift _ hS154.ext hb148)
          refine WL.val (Value.int .i64 ((x141).length : Int)) _ (op_lenL sl_63 (Ty.lift _ hS154.ext hb148) rfl) rfl ?_
          refine WL.val (Value.int .i64 (0 : Int)) _ (op_move rfl) rfl ?_
          refine WL.nil ?_
          show W _ _ _ _ _ _
          obtain ⟨res156, hres157, hb107⟩ := bs hb107
          refine W.blockLoop (fun fq wq => ∃ s, res156 = Res.fin s ∧ fq 1 = (Value.int .i64 x71) ∧ fq 5 = (f39 13) ∧ fq 6 = u58 ∧ fq 7 = Value.int .i64 s ∧ InR .i64 s ∧ fq 20 = u87 ∧ fq 21 = (Value.int .i64 ((x85).length : Int)) ∧ fq 22 = (Value.int .i64 (k101 : Int)) ∧ St wd144 wq []) ?_ ?_
          · refine W.forN (fun k (s : Int) fq wq => fq 1 = (Value.int .i64 x71) ∧ fq 5 = (f39 13) ∧ fq 6 = u58 ∧ fq 7 = Value.int .i64 s ∧ InR .i64 s ∧ fq 9 = (Value.int .i64 x123) ∧ fq 20 = u87 ∧ fq 21 = (Value.int .i64 ((x85).length : Int)) ∧ fq 22 = (Value.int .i64 (k101 : Int)) ∧ fq 34 = u143 ∧ fq 35 = (Value.int .i64 ((x141).length : Int)) ∧ fq 36 = Value.int .i64 (k : Int) ∧ InR .i64 (k : Int) ∧ St wd144 wq []) hres157 ⟨hf111, hf112, hf113, rfl, (inR_wrap _ _), rfl, hf116, hf117, hf118, rfl, rfl, rfl, (inL rfl), hS154⟩ ?_ ?_
            · intro k158 x159 ct160 f161 wd162 hk163 hb164 hI165 hbrk166 hret167
              replace hI165 : f161 1 = (Value.int .i64 x71) ∧ f161 5 = (f39 13) ∧ f161 6 = u58 ∧ f161 7 = Value.int .i64 x159 ∧ InR .i64 x159 ∧ f161 9 = (Value.int .i64 x123) ∧ f161 20 = u87 ∧ f161 21 = (Value.int .i64 ((x85).length : Int)) ∧ f161 22 = (Value.int .i64 (k101 : Int)) ∧ f161 34 = u143 ∧ f161 35 = (Value.int .i64 ((x141).length : Int)) ∧ f161 36 = Value.int .i64 (k158 : Int) ∧ InR .i64 (k158 : Int) ∧ St wd144 wd162 [] := hI165
              replace hb164 : p_impl_Ring_closed_L3 x141 x26 x123 k158 x159 = some ct160 := hb164
              unfold p_impl_Ring_closed_L3 at hb164
              obtain ⟨hf168, hf169, hf170, hf171, hr172, hf173, hf174, hf175, hf176, hf177, hf178, hf179, hr180, hS181⟩ := hI165
              refine W.seq (W.region ?_)
              refine WL.val (Value.bool (decide ((k158 : Int) < ((x141).length : Int)))) _ (op_lss hf179 hf178) rfl ?_
              have hl182 : (k158 : Int) < ((x141).length : Int) := by omega
              refine WL.nil ?_
              refine W.seq ?_
              refine W.condT (decide ((k158 : Int) < ((x141).length : Int))) rfl (decide_eq_true hl182) ?_
              refine W.skip ?_
              refine W.seq ?_
              refine W.block ?_
              refine W.seq (W.region ?_)
              obtain ⟨x184, hx187, hb164⟩ := bs hb164
              obtain ⟨ha185, hb186, hx187⟩ := idx_some hx187
              refine WL.val (Value.pointer (some (elA u143 ((k158 : Int)).toNat))) _ (op_idx sl_63 (Ty.lift _ hS181.ext hb148) hf177 hf179 ha185 hb186) rfl ?_
              obtain ⟨u188, hc189, hr190⟩ := repSl.el hb148 hx187
              obtain ⟨rfl, hr190⟩ := hr190
              refine WL.val (Value.int .i64 x184) _ (op_load one_3 rfl (Ext.cell hS181.ext hc189)) rfl ?_
              refine WL.val (Value.int .i64 x184) _ (op_assign rfl) rfl ?_
              refine WL.nil ?_
              show W _ _ _ _ _ _
              refine W.region ?_
              refine WL.val (Value.int .i64 x159) _ (op_move hf171) rfl ?_
              refine WL.val (f39 13) _ (op_move hf169) rfl ?_
              refine WL.val (Value.int .i64 x123) _ (op_move hf173) rfl ?_
              obtain ⟨x191, hx194, hb164⟩ := bs hb164
              obtain ⟨ha192, hb193, hx194⟩ := idx_some hx194
              refine WL.val (Value.pointer (some (elA (f39 13) (x123).toNat))) _ (op_idx sl_60 (Ty.lift _ (Ext.trans hE151 hS181.ext) hb52) rfl rfl ha192 hb193) rfl ?_
              obtain ⟨u195, hc196, hr197⟩ := repSl.el hb52 hx194
              refine WL.val u195 _ (op_load one_34 rfl (Ext.cell (Ext.trans hE151 hS181.ext) hc196)) rfl ?_
              refine WL.val (Value.int .i64 x184) _ (op_move rfl) rfl ?_
              obtain ⟨x198, hx201, hb164⟩ := bs hb164
              obtain ⟨ha199, hb200, hx201⟩ := idx_some hx201
              refine WL.val (Value.pointer (some (elA u195 (x184).toNat))) _ (op_idx sl_34 (Ty.lift _ (Ext.trans hE151 hS181.ext) hr197) rfl rfl ha199 hb200) rfl ?_
              obtain ⟨u202, hc203, hr204⟩ := repSl.el hr197 hx201
              obtain ⟨rfl, hr204⟩ := hr204
              refine WL.val (Value.int .i64 x198) _ (op_load one_2 rfl (Ext.cell (Ext.trans hE151 hS181.ext) hc203)) rfl ?_
              refine WL.val (Value.int .i64 (orI .i64 x159 x198)) _ (op_or rfl rfl) rfl ?_
              refine WL.val (Value.int .i64 (orI .i64 x159 x198)) _ (op_assign rfl) rfl ?_
              refine WL.nil ?_
              show W _ _ _ _ _ _
              refine W.region ?_
              refine WL.val (Value.int .i64 (w64 ((k158 : Int) + (1 : Int)))) _ (op_add hf179 rfl) rfl ?_
              refine WL.val (Value.int .i64 (w64 ((k158 : Int) + (1 : Int)))) _ (op_move rfl) rfl ?_
              refine WL.nil ?_
              obtain rfl := Option.some.inj hb164
              show ∃ s, _ = Ctl.next s ∧ _
              exact ⟨_, rfl, hf168, hf169, hf170, rfl, (inR_wrap _ _), hf173, hf174, hf175, hf176, hf177, hf178, (ctr_next hl182 hr155), (ctr_rng hl182 hr155), hS181⟩
            · intro x211 f206 wd207 hs208 hI209
              replace hI209 : f206 1 = (Value.int .i64 x71) ∧ f206 5 = (f39 13) ∧ f206 6 = u58 ∧ f206 7 = Value.int .i64 x211 ∧ InR .i64 x211 ∧ f206 9 = (Value.int .i64 x123) ∧ f206 20 = u87 ∧ f206 21 = (Value.int .i64 ((x85).length : Int)) ∧ f206 22 = (Value.int .i64 (k101 : Int)) ∧ f206 34 = u143 ∧ f206 35 = (Value.int .i64 ((x141).length : Int)) ∧ f206 36 = Value.int .i64 (((x141).length : Nat) : Int) ∧ InR .i64 (((x141).length : Nat) : Int) ∧ St wd144 wd207 [] := hI209
              obtain ⟨hf212, hf213, hf214, hf215, hr216, hf217, hf218, hf219, hf220, hf221, hf222, hf223, hr224, hS225⟩ := hI209
              refine W.seq (W.region ?_)
              refine WL.val (Value.bool (decide ((((x141).length : Nat) : Int) < ((x141).length : Int)))) _ (op_lss hf223 hf222) rfl ?_
              have hl226 : ¬ (((x141).length : Nat) : Int) < ((x141).length : Int) := by omega
              refine WL.nil ?_
              refine W.seq ?_
              refine W.condF (decide ((((x141).length : Nat) : Int) < ((x141).length : Int))) rfl (decide_eq_false hl226) ?_
              refine W.exit ?_
              show _ = _ ∧ _
              exact ⟨rfl, _, hs208, hf212, hf213, hf214, hf215, hr216, hf218, hf219, hf220, hS225⟩
          · rintro f227 wd228 ⟨x231, rfl, hq229⟩
            replace hb107 := onRes_fin hb107
            replace hq229 : f227 1 = (Value.int .i64 x71) ∧ f227 5 = (f39 13) ∧ f227 6 = u58 ∧ f227 7 = Value.int .i64 x231 ∧ InR .i64 x231 ∧ f227 20 = u87 ∧ f227 21 = (Value.int .i64 ((x85).length : Int)) ∧ f227 22 = (Value.int .i64 (k101 : Int)) ∧ St wd144 wd228 [] := hq229
            obtain ⟨hf232, hf233, hf234, hf235, hr236, hf237, hf238, hf239, hS240⟩ := hq229
            show W _ _ _ _ _ _
            refine W.region ?_
            refine WL.val (Value.int .i64 (w64 ((k101 : Int) + (1 : Int)))) _ (op_add hf239 rfl) rfl ?_
            refine WL.val (Value.int .i64 (w64 ((k101 : Int) + (1 : Int)))) _ (op_move rfl) rfl ?_
            refine WL.nil ?_
            obtain rfl := Option.some.inj hb107
            show ∃ s, _ = Ctl.next s ∧ _
            exact ⟨_, rfl, hf232, hf233, hf234, hf235, hr236, hf237, hf238, (ctr_next hl121 hr98), (ctr_rng hl121 hr98), (St.ofExt (Ext.trans hE153 hS240.ext))⟩
        · intro x248 f243 wd244 hs245 hI246
          replace hI246 : f243 1 = (Value.int .i64 x71) ∧ f243 5 = (f39 13) ∧ f243 6 = u58 ∧ f243 7 = Value.int .i64 x248 ∧ InR .i64 x248 ∧ f243 20 = u87 ∧ f243 21 = (Value.int .i64 ((x85).length : Int)) ∧ f243 22 = Value.int .i64 (((x85).length : Nat) : Int) ∧ InR .i64 (((x85).length : Nat) : Int) ∧ St wd88 wd244 [] := hI246
          obtain ⟨hf249, hf250, hf251, hf252, hr253, hf254, hf255, hf256, hr257, hS258⟩ := hI246
          refine W.seq (W.region ?_)
          refine WL.val (Value.bool (decide ((((x85).length : Nat) : Int) < ((x85).length : Int)))) _ (op_lss hf256 hf255) rfl ?_
          have hl259 : ¬ (((x85).length : Nat) : Int) < ((x85).length : Int) := by omega
          refine WL.nil ?_
          refine W.seq ?_
          refine W.condF (decide ((((x85).length : Nat) : Int) < ((x85).length : Int))) rfl (decide_eq_false hl259) ?_
          refine W.exit ?_
          show _ = _ ∧ _
          exact ⟨rfl, _, hs245, hf249, hf250, hf251, hf252, hr253, hS258⟩
      · rintro f260 wd261 ⟨x264, rfl, hq262⟩
        replace hb76 := onRes_fin hb76
        replace hq262 : f260 1 = (Value.int .i64 x71) ∧ f260 5 = (f39 13) ∧ f260 6 = u58 ∧ f260 7 = Value.int .i64 x264 ∧ InR .i64 x264 ∧ St wd88 wd261 [] := hq262
        obtain ⟨hf265, hf266, hf267, hf268, hr269, hS270⟩ := hq262
        refine W.seq (W.seq (W.region ?_))
        refine WL.val (Value.int .i64 x264) _ (op_move hf268) rfl ?_
        refine WL.val (Value.int .i64 x71) _ (op_move hf265) rfl ?_
        refine WL.val (Value.bool (x264 == x71)) _ (op_eql rfl rfl) rfl ?_
        refine WL.nil ?_
        refine W.cond (x264 == x71) rfl (fun hc271 => ?_) (fun hc271 => ?_)
        · replace hb76 := ip hb76 hc271
          refine W.seq (W.region ?_)
          refine WL.val (Value.int .i64 x71) _ (op_move hf265) rfl ?_
          refine WL.val (Value.int .i64 x71) _ (op_assign rfl) rfl ?_
          refine WL.nil ?_
          refine W.ret ?_
          obtain rfl := Option.some.inj hb76
          obtain rfl := hret79 _ rfl
          replace h := onRes_ret h
          obtain rfl := Option.some.inj h
          show FinP _ _ _ _ _ _ _
          exact FinP.ret _ (res1 rfl rfl) ⟨rfl, hr81, (Ext.trans hE93 hS270.ext)⟩
        · replace hb76 := inegb hb76 hc271
          refine W.skip ?_
          show W _ _ _ _ _ _
          refine W.region ?_
          refine WL.val (Value.int .i64 x264) _ (op_move hf268) rfl ?_
          refine WL.val (Value.int .i64 x264) _ (op_assign rfl) rfl ?_
          refine WL.nil ?_
          obtain rfl := Option.some.inj hb76
          show ∃ s, _ = Ctl.next s ∧ _
          exact ⟨_, rfl, rfl, hr269, hf266, hf267, (St.ofExt (Ext.trans hE96 hS270.ext))⟩
    · rintro f275 wd276 ⟨x279, rfl, hq277⟩
      replace h := onRes_fin h
      replace hq277 : St wd59 wd276 [] := hq277
      exact nomatch (show (none : Option _) = some _ from h)

theorem c_spec_l05Cosets {w : World} {r_Table : (List (List (List Int)))} {v_r_Table : Value} {set : Int} (r_r_Table : (Ty.sl (Ty.sl (Ty.sl (Ty.i .i64)))).rep w v_r_Table r_Table) (r_set : InR .i64 set) {res : (List Int)} (h : p_spec_l05Cosets r_Table set  = some res) :
    Ret Tryd.prog 45 #[(Value.agg #[v_r_Table]), (Value.int .i64 set)] w (fun v w' => ∃ (u0 : Value), v = u0 ∧ Ext w w' ∧ Sep w.heap.size w' [(Ty.sl (Ty.i .i64)).at u0 res]) := by
  unfold p_spec_l05Cosets at h
  have hS0 : St w w [] := St.start w
  refine Ret.start (fn := Tryd.f45) Tryd.func45 rfl 68 rfl rfl ?_
  refine W.seq (W.region ?_)
  refine WL.box hS0 rfl (cs := [v_r_Table]) rfl rfl ?_
  intro b1 wd2 hS3 he4 hx5
  replace hS3 : St w wd2 [bx b1 [v_r_Table]] := hS3
  have hx6 := St.boxAt hS3 0 rfl
  have hE7 : Ext w wd2 := hS3.ext
  have hS8 : St wd2 wd2 [] := St.start wd2
  refine WL.val (Value.slice none 0 0) _ (op_assign rfl) rfl ?_
  refine WL.nil ?_
  refine W.seq (W.region ?_)
  refine WL.val (Value.pointer (some ⟨b1, 0, none⟩)) _ (op_fieldAddr fd_28_0 rfl) rfl ?_
  refine WL.val v_r_Table _ (op_load one_22 rfl (BoxAt.cell (BoxAt.lift hS8.ext hx6) rfl)) rfl ?_
  have hr9 := inR_len (Ty.lift _ (Ext.trans hE7 hS8.ext) r_r_Table)
  refine WL.val (Value.int .i64 ((r_Table).length : Int)) _ (op_lenL sl_22 (Ty.lift _ (Ext.trans hE7 hS8.ext) r_r_Table) rfl) rfl ?_
  refine WL.val (Value.int .i64 ((r_Table).length : Int)) _ (op_assign rfl) rfl ?_
  refine WL.nil ?_
  refine W.seq (W.region ?_)
  refine WL.lit0 (t := (Ty.i .i64)) hS8 sl_34 rfl rfl ?_
  intro u10 wd11 hS12 he13
  replace hS12 : St wd2 wd11 [(Ty.sl (Ty.i .i64)).at u10 ([] : (List Int))] := hS12
  refine WL.val u10 _ (op_assign rfl) rfl ?_
  refine WL.val (Value.int .i64 (0 : Int)) _ (op_assign rfl) rfl ?_
  refine WL.nil ?_
  refine W.seq (W.seq (W.region ?_))
  refine WL.val (Value.int .i64 (0 : Int)) _ (op_assign rfl) rfl ?_
  refine WL.nil ?_
  show W _ _ _ _ _ _
  obtain ⟨res14, hres15, h⟩ := bs h
  refine W.blockLoop (fun fq wq => ∃ s, res14 = Res.fin s ∧ ∃ (uu0 : Value), fq 1 = (Value.int .i64 set) ∧ fq 2 = (Value.pointer (some ⟨b1, 0, none⟩)) ∧ fq 5 = (Value.int .i64 ((r_Table).length : Int)) ∧ fq 6 = uu0 ∧ fq 7 = (Value.int .i64 (0 : Int)) ∧ St wd2 wq [(Ty.sl (Ty.i .i64)).at uu0 s]) ?_ ?_
  · refine W.forN (fun k (s : (List Int)) fq wq => ∃ (uu0 : Value), fq 1 = (Value.int .i64 set) ∧ fq 2 = (Value.pointer (some ⟨b1, 0, none⟩)) ∧ fq 5 = (Value.int .i64 ((r_Table).length : Int)) ∧ fq 6 = uu0 ∧ fq 7 = (Value.int .i64 (0 : Int)) ∧ fq 8 = Value.int .i64 (k : Int) ∧ InR .i64 (k : Int) ∧ St wd2 wq [(Ty.sl (Ty.i .i64)).at uu0 s]) hres15 ⟨u10, rfl, rfl, rfl, rfl, rfl, rfl, (inL rfl), hS12⟩ ?_ ?_
    · intro k16 x17 ct18 f19 wd20 hk21 hb22 hI23 hbrk24 hret25
      replace hI23 : ∃ (uu0 : Value), f19 1 = (Value.int .i64 set) ∧ f19 2 = (Value.pointer (some ⟨b1, 0, none⟩)) ∧ f19 5 = (Value.int .i64 ((r_Table).length : Int)) ∧ f19 6 = uu0 ∧ f19 7 = (Value.int .i64 (0 : Int)) ∧ f19 8 = Value.int .i64 (k16 : Int) ∧ InR .i64 (k16 : Int) ∧ St wd2 wd20 [(Ty.sl (Ty.i .i64)).at uu0 x17] := hI23
      replace hb22 : p_spec_l05Cosets_L1  k16 x17 = some ct18 := hb22
      unfold p_spec_l05Cosets_L1 at hb22
      obtain ⟨u26, hf27, hf28, hf29, hf30, hf31, hf32, hr33, hS34⟩ := hI23
      refine W.seq (W.seq (W.region ?_))
      refine WL.val (Value.int .i64 (k16 : Int)) _ (op_move hf32) rfl ?_
      refine WL.val (Value.int .i64 ((r_Table).length : Int)) _ (op_move hf29) rfl ?_
      refine WL.val (Value.bool (decide ((k16 : Int) < ((r_Table).length : Int)))) _ (op_lss rfl rfl) rfl ?_
      have hl35 : (k16 : Int) < ((r_Table).length : Int) := by omega
      refine WL.nil ?_
      refine W.condT (decide ((k16 : Int) < ((r_Table).length : Int))) rfl (decide_eq_true hl35) ?_
      refine W.skip ?_
      refine W.seq ?_
      refine W.block ?_
      refine W.region ?_
      refine WL.val u26 _ (op_move hf30) rfl ?_
      refine WL.litFlat (t := (Ty.i .i64)) (flat_i .i64) [(Value.int .i64 (-1 : Int))] [(-1 : Int)] hS34 sl_34 rfl rfl (fillL rfl ⟨rfl, rfl, rfl, trivial⟩) rfl rfl (litL ⟨⟨rfl, (inR_i64.2 (show (-9223372036854775808 : Int) ≤ -1 ∧ (-1 : Int) ≤ 9223372036854775807 from by decide))⟩, trivial⟩) rfl ?_
      intro u37 wd38 hS39 he40
      replace hS39 : St wd2 wd38 [(Ty.sl (Ty.i .i64)).at u26 x17, (Ty.sl (Ty.i .i64)).at u37 ([(-1 : Int)] : (List Int))] := hS39
      obtain ⟨x41, hx42, hb22⟩ := bs hb22
      refine WL.append (flat_i .i64) hS39 (k := 0) rfl sl_34 rfl rfl rfl rfl (St.rep (t := (Ty.sl (Ty.i .i64))) hS39 1 rfl) hx42 rfl ?_
      intro u43 wd44 hS45 hz46
      replace hS45 : St wd2 wd44 [(Ty.sl (Ty.i .i64)).at u43 x41, (Ty.sl (Ty.i .i64)).at u37 ([(-1 : Int)] : (List Int))] := hS45
      refine WL.val u43 _ (op_assign rfl) rfl ?_
      refine WL.nil ?_
      show W _ _ _ _ _ _
      refine W.region ?_
      refine WL.val (Value.int .i64 (k16 : Int)) _ (op_move hf32) rfl ?_
      refine WL.val (Value.int .i64 (w64 ((k16 : Int) + (1 : Int)))) _ (op_add rfl rfl) rfl ?_
      refine WL.val (Value.int .i64 (w64 ((k16 : Int) + (1 : Int)))) _ (op_assign rfl) rfl ?_
      refine WL.nil ?_
      obtain rfl := Option.some.inj hb22
      show ∃ s, _ = Ctl.next s ∧ _
      exact ⟨_, rfl, u43, hf27, hf28, hf29, rfl, hf31, (ctr_next hl35 hr9), (ctr_rng hl35 hr9), (St.pick hS45 [0] rfl)⟩
    · intro x53 f48 wd49 hs50 hI51
      replace hI51 : ∃ (uu0 : Value), f48 1 = (Value.int .i64 set) ∧ f48 2 = (Value.pointer (some ⟨b1, 0, none⟩)) ∧ f48 5 = (Value.int .i64 ((r_Table).length : Int)) ∧ f48 6 = uu0 ∧ f48 7 = (Value.int .i64 (0 : Int)) ∧ f48 8 = Value.int .i64 (((r_Table).length : Nat) : Int) ∧ InR .i64 (((r_Table).length : Nat) : Int) ∧ St wd2 wd49 [(Ty.sl (Ty.i .i64)).at uu0 x53] := hI51
      obtain ⟨u54, hf55, hf56, hf57, hf58, hf59, hf60, hr61, hS62⟩ := hI51
      refine W.seq (W.seq (W.region ?_))
      refine WL.val (Value.int .i64 (((r_Table).length : Nat) : Int)) _ (op_move hf60) rfl ?_
      refine WL.val (Value.int .i64 ((r_Table).length : Int)) _ (op_move hf57) rfl ?_
      refine WL.val (Value.bool (decide ((((r_Table).length : Nat) : Int) < ((r_Table).length : Int)))) _ (op_lss rfl rfl) rfl ?_
      have hl63 : ¬ (((r_Table).length : Nat) : Int) < ((r_Table).length : Int) := by omega
      refine WL.nil ?_
      refine W.condF (decide ((((r_Table).length : Nat) : Int) < ((r_Table).length : Int))) rfl (decide_eq_false hl63) ?_
      refine W.exit ?_
      show _ = _ ∧ _
      exact ⟨rfl, _, hs50, u54, hf55, hf56, hf57, hf58, hf59, hS62⟩
  · rintro f64 wd65 ⟨x68, rfl, hq66⟩
    replace h := onRes_fin h
    replace hq66 : ∃ (uu0 : Value), f64 1 = (Value.int .i64 set) ∧ f64 2 = (Value.pointer (some ⟨b1, 0, none⟩)) ∧ f64 5 = (Value.int .i64 ((r_Table).length : Int)) ∧ f64 6 = uu0 ∧ f64 7 = (Value.int .i64 (0 : Int)) ∧ St wd2 wd65 [(Ty.sl (Ty.i .i64)).at uu0 x68] := hq66
    obtain ⟨u69, hf70, hf71, hf72, hf73, hf74, hS75⟩ := hq66
    refine W.seq (W.seq (W.region ?_))
    refine WL.val (Value.int .i64 (0 : Int)) _ (op_assign rfl) rfl ?_
    refine WL.nil ?_
    show W _ _ _ _ _ _
    obtain ⟨res76, hres77, h⟩ := bs h
    refine W.blockLoop (fun fq wq => ∃ s, res76 = Res.fin s ∧ fq 6 = u69 ∧ St wd2 wq [(Ty.sl (Ty.i .i64)).at u69 s.1]) ?_ ?_
    · refine W.forN (fun k (s : (List Int) × Int) fq wq => fq 1 = (Value.int .i64 set) ∧ fq 2 = (Value.pointer (some ⟨b1, 0, none⟩)) ∧ fq 5 = (Value.int .i64 ((r_Table).length : Int)) ∧ fq 6 = u69 ∧ fq 7 = Value.int .i64 s.2 ∧ InR .i64 s.2 ∧ fq 9 = Value.int .i64 (k : Int) ∧ InR .i64 (k : Int) ∧ St wd2 wq [(Ty.sl (Ty.i .i64)).at u69 s.1]) hres77 ⟨hf70, hf71, hf72, hf73, hf74, (inL rfl), rfl, (inL rfl), hS75⟩ ?_ ?_
      · intro k78 s267 ct81 f82 wd83 hk84 hb85 hI86 hbrk87 hret88
        obtain ⟨x79, x80⟩ := s267
        replace hI86 : f82 1 = (Value.int .i64 set) ∧ f82 2 = (Value.pointer (some ⟨b1, 0, none⟩)) ∧ f82 5 = (Value.int .i64 ((r_Table).length : Int)) ∧ f82 6 = u69 ∧ f82 7 = Value.int .i64 x80 ∧ InR .i64 x80 ∧ f82 9 = Value.int .i64 (k78 : Int) ∧ InR .i64 (k78 : Int) ∧ St wd2 wd83 [(Ty.sl (Ty.i .i64)).at u69 x79] := hI86
        replace hb85 : p_spec_l05Cosets_L2 r_Table set k78 x79 x80 = some ct81 := hb85
        unfold p_spec_l05Cosets_L2 at hb85
        obtain ⟨hf89, hf90, hf91, hf92, hf93, hr94, hf95, hr96, hS97⟩ := hI86
        refine W.seq (W.seq (W.region ?_))
        refine WL.val (Value.int .i64 (k78 : Int)) _ (op_move hf95) rfl ?_
        refine WL.val (Value.int .i64 ((r_Table).length : Int)) _ (op_move hf91) rfl ?_
        refine WL.val (Value.bool (decide ((k78 : Int) < ((r_Table).length : Int)))) _ (op_lss rfl rfl) rfl ?_
        have hl98 : (k78 : Int) < ((r_Table).length : Int) := by omega
        refine WL.nil ?_
        refine W.condT (decide ((k78 : Int) < ((r_Table).length : Int))) rfl (decide_eq_true hl98) ?_
        refine W.skip ?_
        refine W.seq ?_
        refine W.block ?_
        refine W.seq (W.seq (W.region ?_))
        refine WL.val u69 _ (op_move hf92) rfl ?_
        refine WL.val (Value.int .i64 (k78 : Int)) _ (op_move hf95) rfl ?_
        obtain ⟨x100, hx103, hb85⟩ := bs hb85
        obtain ⟨ha101, hb102, hx103⟩ := idx_some hx103
        refine WL.val (Value.pointer (some (elA u69 ((k78 : Int)).toNat))) _ (op_idx sl_34 (St.rep (t := (Ty.sl (Ty.i .i64))) hS97 0 rfl) rfl rfl ha101 hb102) rfl ?_
        obtain ⟨u104, hc105, hr106⟩ := repSl.el (St.rep (t := (Ty.sl (Ty.i .i64))) hS97 0 rfl) hx103
        obtain ⟨rfl, hr106⟩ := hr106
        refine WL.val (Value.int .i64 x100) _ (op_load one_2 rfl hc105) rfl ?_
        refine WL.val (Value.bool (decide (x100 ≥ (0 : Int)))) _ (op_geq rfl rfl) rfl ?_
        refine WL.nil ?_
        refine W.cond (decide (x100 ≥ (0 : Int))) rfl (fun hc107 => ?_) (fun hc107 => ?_)
        · replace hb85 := ip hb85 hc107
          refine W.exit ?_
          show W _ _ _ _ _ _
          refine W.region ?_
          refine WL.val (Value.int .i64 (k78 : Int)) _ (op_move hf95) rfl ?_
          refine WL.val (Value.int .i64 (w64 ((k78 : Int) + (1 : Int)))) _ (op_add rfl rfl) rfl ?_
          refine WL.val (Value.int .i64 (w64 ((k78 : Int) + (1 : Int)))) _ (op_assign rfl) rfl ?_
          refine WL.nil ?_
          obtain rfl := Option.some.inj hb85
          show ∃ s, _ = Ctl.next s ∧ _
          exact ⟨_, rfl, hf89, hf90, hf91, hf92, hf93, hr94, (ctr_next hl98 hr9), (ctr_rng hl98 hr9), hS97⟩
        · replace hb85 := inegb hb85 hc107
          refine W.skip ?_
          refine W.seq (W.seq (W.region ?_))
          refine WL.val (Value.int .i64 (0 : Int)) _ (op_assign rfl) rfl ?_
          refine WL.nil ?_
          show W _ _ _ _ _ _
          obtain ⟨res109, hres110, hb85⟩ := bs hb85
          refine W.blockLoop (fun fq wq => ∃ s, res109 = Res.fin s ∧ fq 1 = (Value.int .i64 set) ∧ fq 2 = (Value.pointer (some ⟨b1, 0, none⟩)) ∧ fq 5 = (Value.int .i64 ((r_Table).length : Int)) ∧ fq 6 = u69 ∧ fq 7 = (Value.int .i64 x80) ∧ fq 9 = (Value.int .i64 (k78 : Int)) ∧ St wd2 wq [(Ty.sl (Ty.i .i64)).at u69 s]) ?_ ?_
          · refine W.forN (fun k (s : (List Int)) fq wq => fq 1 = (Value.int .i64 set) ∧ fq 2 = (Value.pointer (some ⟨b1, 0, none⟩)) ∧ fq 5 = (Value.int .i64 ((r_Table).length : Int)) ∧ fq 6 = u69 ∧ fq 7 = (Value.int .i64 x80) ∧ fq 9 = (Value.int .i64 (k78 : Int)) ∧ fq 10 = Value.int .i64 (k : Int) ∧ InR .i64 (k : Int) ∧ St wd2 wq [(Ty.sl (Ty.i .i64)).at u69 s]) hres110 ⟨hf89, hf90, hf91, hf92, hf93, hf95, rfl, (inL rfl), hS97⟩ ?_ ?_
            · intro k111 x112 ct113 f114 wd115 hk116 hb117 hI118 hbrk119 hret120
              replace hI118 : f114 1 = (Value.int .i64 set) ∧ f114 2 = (Value.pointer (some ⟨b1, 0, none⟩)) ∧ f114 5 = (Value.int .i64 ((r_Table).length : Int)) ∧ f114 6 = u69 ∧ f114 7 = (Value.int .i64 x80) ∧ f114 9 = (Value.int .i64 (k78 : Int)) ∧ f114 10 = Value.int .i64 (k111 : Int) ∧ InR .i64 (k111 : Int) ∧ St wd2 wd115 [(Ty.sl (Ty.i .i64)).at u69 x112] := hI118
              replace hb117 : p_spec_l05Cosets_L3 r_Table set k78 x80 k111 x112 = some ct113 := hb117
              unfold p_spec_l05Cosets_L3 at hb117
              obtain ⟨hf121, hf122, hf123, hf124, hf125, hf126, hf127, hr128, hS129⟩ := hI118
              refine W.seq (W.seq (W.region ?_))
              refine WL.val (Value.int .i64 (k111 : Int)) _ (op_move hf127) rfl ?_
              refine WL.val (Value.int .i64 ((r_Table).length : Int)) _ (op_move hf123) rfl ?_
              refine WL.val (Value.bool (decide ((k111 : Int) < ((r_Table).length : Int)))) _ (op_lss rfl rfl) rfl ?_
              have hl130 : (k111 : Int) < ((r_Table).length : Int) := by omega
              refine WL.nil ?_
              refine W.condT (decide ((k111 : Int) < ((r_Table).length : Int))) rfl (decide_eq_true hl130) ?_
              refine W.skip ?_
              refine W.seq ?_
              refine W.block ?_
              refine W.seq (W.region ?_)
              refine WL.val (Value.int .i64 (0 : Int)) _ (op_assign rfl) rfl ?_
              refine WL.nil ?_
              show W _ _ _ _ _ _
              obtain ⟨res132, hres133, hb117⟩ := bs hb117
              refine W.blockLoop (fun fq wq => ∃ s, res132 = Res.fin s ∧ fq 1 = (Value.int .i64 set) ∧ fq 2 = (Value.pointer (some ⟨b1, 0, none⟩)) ∧ fq 5 = (Value.int .i64 ((r_Table).length : Int)) ∧ fq 6 = u69 ∧ fq 7 = (Value.int .i64 x80) ∧ fq 9 = (Value.int .i64 (k78 : Int)) ∧ fq 10 = (Value.int .i64 (k111 : Int)) ∧ St wd2 wq [(Ty.sl (Ty.i .i64)).at u69 s.1]) ?_ ?_
              · refine W.whileC (fun (s : (List Int) × Int) fq wq => fq 1 = (Value.int .i64 set) ∧ fq 2 = (Value.pointer (some ⟨b1, 0, none⟩)) ∧ fq 5 = (Value.int .i64 ((r_Table).length : Int)) ∧ fq 6 = u69 ∧ fq 7 = (Value.int .i64 x80) ∧ fq 9 = (Value.int .i64 (k78 : Int)) ∧ fq 10 = (Value.int .i64 (k111 : Int)) ∧ fq 11 = Value.int .i64 s.2 ∧ InR .i64 s.2 ∧ St wd2 wq [(Ty.sl (Ty.i .i64)).at u69 s.1]) hres133 ⟨hf121, hf122, hf123, hf124, hf125, hf126, hf127, rfl, (inL rfl), hS129⟩ ?_
                intro s221 ct137 f138 wd139 hb141 hI142 hbrk143 hret144
                obtain ⟨x135, x136⟩ := s221
                replace hI142 : f138 1 = (Value.int .i64 set) ∧ f138 2 = (Value.pointer (some ⟨b1, 0, none⟩)) ∧ f138 5 = (Value.int .i64 ((r_Table).length : Int)) ∧ f138 6 = u69 ∧ f138 7 = (Value.int .i64 x80) ∧ f138 9 = (Value.int .i64 (k78 : Int)) ∧ f138 10 = (Value.int .i64 (k111 : Int)) ∧ f138 11 = Value.int .i64 x136 ∧ InR .i64 x136 ∧ St wd2 wd139 [(Ty.sl (Ty.i .i64)).at u69 x135] := hI142
                replace hb141 : p_spec_l05Cosets_L4 r_Table set k111 k78 x80  x135 x136 = some ct137 := hb141
                unfold p_spec_l05Cosets_L4 at hb141
                obtain ⟨hf145, hf146, hf147, hf148, hf149, hf150, hf151, hf152, hr153, hS154⟩ := hI142
                refine W.seq (W.seq (W.region ?_))
                refine WL.val (Value.int .i64 x136) _ (op_move hf152) rfl ?_
                refine WL.val (Value.int .i64 ((r_Table).length : Int)) _ (op_move hf147) rfl ?_
                refine WL.val (Value.bool (decide (x136 < ((r_Table).length : Int)))) _ (op_lss rfl rfl) rfl ?_
                refine WL.val (Value.bool (decide (x136 < ((r_Table).length : Int)))) _ (op_move rfl) rfl ?_
                obtain ⟨x156, hj157, hb141⟩ := bs hb141
                refine WL.cut 4 (fun fq wq => fq 1 = (Value.int .i64 set) ∧ fq 2 = (Value.pointer (some ⟨b1, 0, none⟩)) ∧ fq 5 = (Value.int .i64 ((r_Table).length : Int)) ∧ fq 6 = u69 ∧ fq 7 = (Value.int .i64 x80) ∧ fq 9 = (Value.int .i64 (k78 : Int)) ∧ fq 10 = (Value.int .i64 (k111 : Int)) ∧ fq 11 = (Value.int .i64 x136) ∧ fq 46 = Value.bool x156 ∧ St wd2 wq [(Ty.sl (Ty.i .i64)).at u69 x135]) ?_ ?_
                · rcases Bool.eq_false_or_eq_true (decide (x136 < ((r_Table).length : Int))) with hc155 | hc155
                  · replace hj157 := ip hj157 hc155
                    refine WL.grun rfl (bool_of rfl hc155) ?_
                    refine WL.val (Value.int .i64 set) _ (op_move hf145) rfl ?_
                    refine WL.grun rfl (bool_of rfl hc155) ?_
                    refine WL.val (Value.int .i64 (k111 : Int)) _ (op_move hf151) rfl ?_
                    refine WL.grun rfl (bool_of rfl hc155) ?_
                    obtain ⟨x161, hx162, hj157⟩ := bs hj157
                    refine WL.call _ (op_call fn_67 (args2 rfl rfl)) (c_spec_l05Bit r_set hr128 hx162) rfl ?_
                    rintro _ wd163 ⟨rfl, he164⟩
                    have hS166 := St.extend hS154 he164
                    replace hS166 : St wd2 wd163 [(Ty.sl (Ty.i .i64)).at u69 x135] := hS166
                    refine WL.val (Value.bool x161) _ (op_pick_t (evb_of rfl hc155) rfl) rfl ?_
                    refine WL.nil ?_
                    obtain rfl := Option.some.inj hj157
                    exact ⟨rfl, hf145, hf146, hf147, hf148, hf149, hf150, hf151, hf152, rfl, hS166⟩
                  · replace hj157 := inegb hj157 hc155
                    refine WL.gskip rfl (bool_of rfl hc155) rfl ?_
                    refine WL.gskip rfl (bool_of rfl hc155) rfl ?_
                    refine WL.gskip rfl (bool_of rfl hc155) rfl ?_
                    refine WL.val (Value.bool false) _ (op_pick_f (evb_of rfl hc155) rfl) rfl ?_
                    refine WL.nil ?_
                    obtain rfl := Option.some.inj hj157
                    exact ⟨rfl, hf145, hf146, hf147, hf148, hf149, hf150, hf151, hf152, rfl, hS154⟩
                · intro f158 wd159 hq160
                  obtain ⟨hf167, hf168, hf169, hf170, hf171, hf172, hf173, hf174, hf175, hS176⟩ := hq160
                  refine WL.nil ?_
                  refine W.cond x156 hf175 (fun hc177 => ?_) (fun hc177 => ?_)
                  · replace hb141 := ip hb141 hc177
                    refine W.skip ?_
                    refine W.seq ?_
                    refine W.block ?_
                    refine W.seq (W.region ?_)
                    refine WL.val (Value.pointer (some ⟨b1, 0, none⟩)) _ (op_fieldAddr fd_28_0 hf168) rfl ?_
                    refine WL.val v_r_Table _ (op_load one_22 rfl (BoxAt.cell (BoxAt.lift hS176.ext hx6) rfl)) rfl ?_
                    refine WL.val (Value.int .i64 (k78 : Int)) _ (op_move hf172) rfl ?_
                    obtain ⟨x179, hx182, hb141⟩ := bs hb141
                    obtain ⟨ha180, hb181, hx182⟩ := idx_some hx182
                    refine WL.val (Value.pointer (some (elA v_r_Table ((k78 : Int)).toNat))) _ (op_idx sl_22 (Ty.lift _ (Ext.trans hE7 hS176.ext) r_r_Table) rfl rfl ha180 hb181) rfl ?_
                    obtain ⟨u183, hc184, hr185⟩ := repSl.el r_r_Table hx182
                    refine WL.val u183 _ (op_load one_60 rfl (Ext.cell (Ext.trans hE7 hS176.ext) hc184)) rfl ?_
                    refine WL.val (Value.int .i64 (k111 : Int)) _ (op_move hf173) rfl ?_
                    obtain ⟨x186, hx189, hb141⟩ := bs hb141
                    obtain ⟨ha187, hb188, hx189⟩ := idx_some hx189
                    refine WL.val (Value.pointer (some (elA u183 ((k111 : Int)).toNat))) _ (op_idx sl_60 (Ty.lift _ (Ext.trans hE7 hS176.ext) hr185) rfl rfl ha187 hb188) rfl ?_
                    obtain ⟨u190, hc191, hr192⟩ := repSl.el hr185 hx189
                    refine WL.val u190 _ (op_load one_34 rfl (Ext.cell (Ext.trans hE7 hS176.ext) hc191)) rfl ?_
                    refine WL.val (Value.int .i64 x136) _ (op_move hf174) rfl ?_
                    obtain ⟨x193, hx196, hb141⟩ := bs hb141
                    obtain ⟨ha194, hb195, hx196⟩ := idx_some hx196
                    refine WL.val (Value.pointer (some (elA u190 (x136).toNat))) _ (op_idx sl_34 (Ty.lift _ (Ext.trans hE7 hS176.ext) hr192) rfl rfl ha194 hb195) rfl ?_
                    obtain ⟨u197, hc198, hr199⟩ := repSl.el hr192 hx196
                    obtain ⟨rfl, hr199⟩ := hr199
                    refine WL.val (Value.int .i64 x193) _ (op_load one_2 rfl (Ext.cell (Ext.trans hE7 hS176.ext) hc198)) rfl ?_
                    refine WL.val (Value.bool (decide (x193 > (0 : Int)))) _ (op_gtr rfl rfl) rfl ?_
                    refine WL.nil ?_
                    show W _ _ _ _ _ _
                    obtain ⟨x200, hj201, hb141⟩ := bs hb141
                    refine W.cutCode (fun fq wq => fq 1 = (Value.int .i64 set) ∧ fq 2 = (Value.pointer (some ⟨b1, 0, none⟩)) ∧ fq 5 = (Value.int .i64 ((r_Table).length : Int)) ∧ fq 6 = u69 ∧ fq 7 = (Value.int .i64 x80) ∧ fq 9 = (Value.int .i64 (k78 : Int)) ∧ fq 10 = (Value.int .i64 (k111 : Int)) ∧ fq 11 = (Value.int .i64 x136) ∧ St wd2 wq [(Ty.sl (Ty.i .i64)).at u69 x200]) ?_ ?_
                    · refine W.cond (decide (x193 > (0 : Int))) rfl (fun hc202 => ?_) (fun hc202 => ?_)
                      · replace hj201 := ip hj201 hc202
                        refine W.region ?_
                        refine WL.val u69 _ (op_move hf170) rfl ?_
                        refine WL.val (Value.int .i64 x136) _ (op_move hf174) rfl ?_
                        refine WL.val (Value.int .i64 x80) _ (op_move hf171) rfl ?_
                        obtain ⟨x203, hx206, hj201⟩ := bs hj201
                        obtain ⟨ha204, hb205, hx206⟩ := idx_some hx206
                        refine WL.val (Value.pointer (some (elA u69 (x136).toNat))) _ (op_idx sl_34 (St.rep (t := (Ty.sl (Ty.i .i64))) hS176 0 rfl) rfl rfl ha204 hb205) rfl ?_
                        refine WL.storeEl (flat_i .i64) hS176 (k := 0) rfl sz_2 rfl rfl (lt_of_idx ha204 hb205) ⟨rfl, hr94⟩ ?_
                        intro wd207 hS208
                        replace hS208 : St wd2 wd207 [(Ty.sl (Ty.i .i64)).at u69 ((x135).set (x136).toNat x80)] := hS208
                        refine WL.nil ?_
                        obtain rfl := Option.some.inj hj201
                        exact ⟨hf167, hf168, hf169, hf170, hf171, hf172, hf173, hf174, hS208⟩
                      · replace hj201 := inegb hj201 hc202
                        refine W.skip ?_
                        obtain rfl := Option.some.inj hj201
                        exact ⟨hf167, hf168, hf169, hf170, hf171, hf172, hf173, hf174, hS176⟩
                    · intro f209 wd210 hq211
                      obtain ⟨hf212, hf213, hf214, hf215, hf216, hf217, hf218, hf219, hS220⟩ := hq211
                      show W _ _ _ _ _ _
                      refine W.region ?_
                      refine WL.val (Value.int .i64 x136) _ (op_move hf219) rfl ?_
                      refine WL.val (Value.int .i64 (w64 (x136 + (1 : Int)))) _ (op_add rfl rfl) rfl ?_
                      refine WL.val (Value.int .i64 (w64 (x136 + (1 : Int)))) _ (op_assign rfl) rfl ?_
                      refine WL.nil ?_
                      obtain rfl := Option.some.inj hb141
                      show ∃ s, _ = Ctl.next s ∧ _
                      exact ⟨_, rfl, hf212, hf213, hf214, hf215, hf216, hf217, hf218, rfl, (inR_wrap _ _), hS220⟩
                  · replace hb141 := inegb hb141 hc177
                    refine W.exit ?_
                    obtain rfl := Option.some.inj hb141
                    show _ = _ ∧ _
                    exact ⟨rfl, _, hbrk143 _ rfl, hf167, hf168, hf169, hf170, hf171, hf172, hf173, hS176⟩
              · rintro f222 wd223 ⟨s225, rfl, hq224⟩
                replace hb117 := onRes_fin hb117
                obtain ⟨x226, x227⟩ := s225
                replace hq224 : f222 1 = (Value.int .i64 set) ∧ f222 2 = (Value.pointer (some ⟨b1, 0, none⟩)) ∧ f222 5 = (Value.int .i64 ((r_Table).length : Int)) ∧ f222 6 = u69 ∧ f222 7 = (Value.int .i64 x80) ∧ f222 9 = (Value.int .i64 (k78 : Int)) ∧ f222 10 = (Value.int .i64 (k111 : Int)) ∧ St wd2 wd223 [(Ty.sl (Ty.i .i64)).at u69 x226] := hq224
                replace hb117 : (_ : Option _) = _ := hb117
                dsimp only at hb117
                obtain ⟨hf228, hf229, hf230, hf231, hf232, hf233, hf234, hS235⟩ := hq224
                show W _ _ _ _ _ _
                refine W.region ?_
                refine WL.val (Value.int .i64 (k111 : Int)) _ (op_move hf234) rfl ?_
                refine WL.val (Value.int .i64 (w64 ((k111 : Int) + (1 : Int)))) _ (op_add rfl rfl) rfl ?_
                refine WL.val (Value.int .i64 (w64 ((k111 : Int) + (1 : Int)))) _ (op_assign rfl) rfl ?_
                refine WL.nil ?_
                obtain rfl := Option.some.inj hb117
                show ∃ s, _ = Ctl.next s ∧ _
                exact ⟨_, rfl, hf228, hf229, hf230, hf231, hf232, hf233, (ctr_next hl130 hr9), (ctr_rng hl130 hr9), hS235⟩
            · intro x243 f238 wd239 hs240 hI241
              replace hI241 : f238 1 = (Value.int .i64 set) ∧ f238 2 = (Value.pointer (some ⟨b1, 0, none⟩)) ∧ f238 5 = (Value.int .i64 ((r_Table).length : Int)) ∧ f238 6 = u69 ∧ f238 7 = (Value.int .i64 x80) ∧ f238 9 = (Value.int .i64 (k78 : Int)) ∧ f238 10 = Value.int .i64 (((r_Table).length : Nat) : Int) ∧ InR .i64 (((r_Table).length : Nat) : Int) ∧ St wd2 wd239 [(Ty.sl (Ty.i .i64)).at u69 x243] := hI241
              obtain ⟨hf244, hf245, hf246, hf247, hf248, hf249, hf250, hr251, hS252⟩ := hI241
              refine W.seq (W.seq (W.region ?_))
              refine WL.val (Value.int .i64 (((r_Table).length : Nat) : Int)) _ (op_move hf250) rfl ?_
              refine WL.val (Value.int .i64 ((r_Table).length : Int)) _ (op_move hf246) rfl ?_
              refine WL.val (Value.bool (decide ((((r_Table).length : Nat) : Int) < ((r_Table).length : Int)))) _ (op_lss rfl rfl) rfl ?_
              have hl253 : ¬ (((r_Table).length : Nat) : Int) < ((r_Table).length : Int) := by omega
              refine WL.nil ?_
              refine W.condF (decide ((((r_Table).length : Nat) : Int) < ((r_Table).length : Int))) rfl (decide_eq_false hl253) ?_
              refine W.exit ?_
              show _ = _ ∧ _
              exact ⟨rfl, _, hs240, hf244, hf245, hf246, hf247, hf248, hf249, hS252⟩
          · rintro f254 wd255 ⟨x258, rfl, hq256⟩
            replace hb85 := onRes_fin hb85
            replace hq256 : f254 1 = (Value.int .i64 set) ∧ f254 2 = (Value.pointer (some ⟨b1, 0, none⟩)) ∧ f254 5 = (Value.int .i64 ((r_Table).length : Int)) ∧ f254 6 = u69 ∧ f254 7 = (Value.int .i64 x80) ∧ f254 9 = (Value.int .i64 (k78 : Int)) ∧ St wd2 wd255 [(Ty.sl (Ty.i .i64)).at u69 x258] := hq256
            obtain ⟨hf259, hf260, hf261, hf262, hf263, hf264, hS265⟩ := hq256
            show W _ _ _ _ _ _
            refine W.region ?_
            refine WL.val (Value.int .i64 x80) _ (op_move hf263) rfl ?_
            refine WL.val (Value.int .i64 (w64 (x80 + (1 : Int)))) _ (op_add rfl rfl) rfl ?_
            refine WL.val (Value.int .i64 (w64 (x80 + (1 : Int)))) _ (op_assign rfl) rfl ?_
            refine WL.nil ?_
            show W _ _ _ _ _ _
            refine W.region ?_
            refine WL.val (Value.int .i64 (k78 : Int)) _ (op_move hf264) rfl ?_
            refine WL.val (Value.int .i64 (w64 ((k78 : Int) + (1 : Int)))) _ (op_add rfl rfl) rfl ?_
            refine WL.val (Value.int .i64 (w64 ((k78 : Int) + (1 : Int)))) _ (op_assign rfl) rfl ?_
            refine WL.nil ?_
            obtain rfl := Option.some.inj hb85
            show ∃ s, _ = Ctl.next s ∧ _
            exact ⟨_, rfl, hf259, hf260, hf261, hf262, rfl, (inR_wrap _ _), (ctr_next hl98 hr9), (ctr_rng hl98 hr9), hS265⟩
      · intro s272 f268 wd269 hs270 hI271
        obtain ⟨x273, x274⟩ := s272
        replace hI271 : f268 1 = (Value.int .i64 set) ∧ f268 2 = (Value.pointer (some ⟨b1, 0, none⟩)) ∧ f268 5 = (Value.int .i64 ((r_Table).length : Int)) ∧ f268 6 = u69 ∧ f268 7 = Value.int .i64 x274 ∧ InR .i64 x274 ∧ f268 9 = Value.int .i64 (((r_Table).length : Nat) : Int) ∧ InR .i64 (((r_Table).length : Nat) : Int) ∧ St wd2 wd269 [(Ty.sl (Ty.i .i64)).at u69 x273] := hI271
        obtain ⟨hf275, hf276, hf277, hf278, hf279, hr280, hf281, hr282, hS283⟩ := hI271
        refine W.seq (W.seq (W.region ?_))
        refine WL.val (Value.int .i64 (((r_Table).length : Nat) : Int)) _ (op_move hf281) rfl ?_
        refine WL.val (Value.int .i64 ((r_Table).length : Int)) _ (op_move hf277) rfl ?_
        refine WL.val (Value.bool (decide ((((r_Table).length : Nat) : Int) < ((r_Table).length : Int)))) _ (op_lss rfl rfl) rfl ?_
        have hl284 : ¬ (((r_Table).length : Nat) : Int) < ((r_Table).length : Int) := by omega
        refine WL.nil ?_
        refine W.condF (decide ((((r_Table).length : Nat) : Int) < ((r_Table).length : Int))) rfl (decide_eq_false hl284) ?_
        refine W.exit ?_
        show _ = _ ∧ _
        exact ⟨rfl, _, hs270, hf278, hS283⟩
    · rintro f285 wd286 ⟨s288, rfl, hq287⟩
      replace h := onRes_fin h
      obtain ⟨x289, x290⟩ := s288
      replace hq287 : f285 6 = u69 ∧ St wd2 wd286 [(Ty.sl (Ty.i .i64)).at u69 x289] := hq287
      replace h : (_ : Option _) = _ := h
      dsimp only at h
      obtain ⟨hf291, hS292⟩ := hq287
      refine W.seq (W.region ?_)
      refine WL.val u69 _ (op_move hf291) rfl ?_
      refine WL.val u69 _ (op_assign rfl) rfl ?_
      refine WL.nil ?_
      refine W.ret ?_
      obtain rfl := Option.some.inj h
      show FinP _ _ _ _ _ _ _
      exact FinP.ret _ (res1 rfl rfl) ⟨u69, rfl, (Ext.trans hE7 hS292.ext), (St.out (St.pick hS292 [0] rfl) (hE7))⟩

theorem c_impl_Ring_classes {w : World} {r_Table : (List (List (List Int)))} {v_r_Table : Value} {together : Int → Int → Option Bool} {v_together : Value} (r_r_Table : (Ty.sl (Ty.sl (Ty.sl (Ty.i .i64)))).rep w v_r_Table r_Table) (r_together : FnT_i_i_to_b Tryd.prog v_together w together) {res : (List Int)} (h : p_impl_Ring_classes r_Table together  = some res) :
    Ret Tryd.prog 49 #[(Value.agg #[v_r_Table]), v_together] w (fun v w' => ∃ (u0 : Value), v = u0 ∧ Ext w w' ∧ Sep w.heap.size w' [(Ty.sl (Ty.i .i64)).at u0 res]) := by
  unfold p_impl_Ring_classes at h
  have hS0 : St w w [] := St.start w
  have q_together := r_together
  obtain ⟨g_together, fst_together, cap_together, eq_together, ok_together, call_together⟩ := q_together
  subst eq_together
  refine Ret.start (fn := Tryd.f49) Tryd.func49 rfl 45 rfl rfl ?_
  refine W.seq (W.region ?_)
  refine WL.box hS0 rfl (cs := [v_r_Table]) rfl rfl ?_
  intro b1 wd2 hS3 he4 hx5
  replace hS3 : St w wd2 [bx b1 [v_r_Table]] := hS3
  have hx6 := St.boxAt hS3 0 rfl
  have hE7 : Ext w wd2 := hS3.ext
  have hS8 : St wd2 wd2 [] := St.start wd2
  refine WL.val (Value.slice none 0 0) _ (op_assign rfl) rfl ?_
  refine WL.nil ?_
  refine W.seq (W.region ?_)
  refine WL.lit0 (t := (Ty.i .i64)) hS8 sl_34 rfl rfl ?_
  intro u9 wd10 hS11 he12
  replace hS11 : St wd2 wd10 [(Ty.sl (Ty.i .i64)).at u9 ([] : (List Int))] := hS11
  refine WL.val u9 _ (op_assign rfl) rfl ?_
  refine WL.val (Value.int .i64 (0 : Int)) _ (op_assign rfl) rfl ?_
  refine WL.nil ?_
  refine W.seq (W.seq (W.region ?_))
  refine WL.val (Value.pointer (some ⟨b1, 0, none⟩)) _ (op_fieldAddr fd_28_0 rfl) rfl ?_
  refine WL.val v_r_Table _ (op_load one_22 rfl (BoxAt.cell (BoxAt.lift hS11.ext hx6) rfl)) rfl ?_
  have hr13 := inR_len (Ty.lift _ (Ext.trans hE7 hS11.ext) r_r_Table)
  refine WL.val (Value.int .i64 ((r_Table).length : Int)) _ (op_lenL sl_22 (Ty.lift _ (Ext.trans hE7 hS11.ext) r_r_Table) rfl) rfl ?_
  refine WL.val (Value.int .i64 (0 : Int)) _ (op_move rfl) rfl ?_
  refine WL.nil ?_
  show W _ _ _ _ _ _
  obtain ⟨res14, hres15, h⟩ := bs h
  refine W.blockLoop (fun fq wq => ∃ s, res14 = Res.fin s ∧ ∃ (uu0 : Value), fq 5 = uu0 ∧ St wd2 wq [(Ty.sl (Ty.i .i64)).at uu0 s.1]) ?_ ?_
  · refine W.forN (fun k (s : (List Int) × Int) fq wq => ∃ (uu0 : Value), fq 1 = (Value.func (.func g_together) fst_together cap_together) ∧ fq 5 = uu0 ∧ fq 6 = Value.int .i64 s.2 ∧ InR .i64 s.2 ∧ fq 13 = (Value.int .i64 ((r_Table).length : Int)) ∧ fq 14 = Value.int .i64 (k : Int) ∧ InR .i64 (k : Int) ∧ St wd2 wq [(Ty.sl (Ty.i .i64)).at uu0 s.1]) hres15 ⟨u9, rfl, rfl, rfl, (inL rfl), rfl, rfl, (inL rfl), hS11⟩ ?_ ?_
    · intro k16 s149 ct19 f20 wd21 hk22 hb23 hI24 hbrk25 hret26
      obtain ⟨x17, x18⟩ := s149
      replace hI24 : ∃ (uu0 : Value), f20 1 = (Value.func (.func g_together) fst_together cap_together) ∧ f20 5 = uu0 ∧ f20 6 = Value.int .i64 x18 ∧ InR .i64 x18 ∧ f20 13 = (Value.int .i64 ((r_Table).length : Int)) ∧ f20 14 = Value.int .i64 (k16 : Int) ∧ InR .i64 (k16 : Int) ∧ St wd2 wd21 [(Ty.sl (Ty.i .i64)).at uu0 x17] := hI24
      replace hb23 : p_impl_Ring_classes_L1 together k16 x17 x18 = some ct19 := hb23
      unfold p_impl_Ring_classes_L1 at hb23
      obtain ⟨u27, hf28, hf29, hf30, hr31, hf32, hf33, hr34, hS35⟩ := hI24
      refine W.seq (W.region ?_)
      refine WL.val (Value.bool (decide ((k16 : Int) < ((r_Table).length : Int)))) _ (op_lss hf33 hf32) rfl ?_
      have hl36 : (k16 : Int) < ((r_Table).length : Int) := by omega
      refine WL.nil ?_
      refine W.seq ?_
      refine W.condT (decide ((k16 : Int) < ((r_Table).length : Int))) rfl (decide_eq_true hl36) ?_
      refine W.skip ?_
      refine W.seq ?_
      refine W.block ?_
      refine W.seq (W.region ?_)
      refine WL.val (Value.int .i64 (k16 : Int)) _ (op_move hf33) rfl ?_
      refine WL.val (Value.int .i64 (k16 : Int)) _ (op_assign rfl) rfl ?_
      refine WL.nil ?_
      refine W.seq (W.region ?_)
      refine WL.val (Value.int .i64 (-1 : Int)) _ (op_assign rfl) rfl ?_
      refine WL.nil ?_
      refine W.seq (W.seq (W.region ?_))
      refine WL.val (Value.int .i64 (0 : Int)) _ (op_assign rfl) rfl ?_
      refine WL.nil ?_
      show W _ _ _ _ _ _
      obtain ⟨res38, hres39, hb23⟩ := bs hb23
      refine W.blockLoop (fun fq wq => ∃ s, res38 = Res.fin s ∧ fq 1 = (Value.func (.func g_together) fst_together cap_together) ∧ fq 5 = u27 ∧ fq 6 = (Value.int .i64 x18) ∧ fq 8 = Value.int .i64 s.1 ∧ InR .i64 s.1 ∧ fq 13 = (Value.int .i64 ((r_Table).length : Int)) ∧ fq 14 = (Value.int .i64 (k16 : Int)) ∧ St wd2 wq [(Ty.sl (Ty.i .i64)).at u27 x17]) ?_ ?_
      · refine W.whileC (fun (s : Int × Int) fq wq => fq 1 = (Value.func (.func g_together) fst_together cap_together) ∧ fq 5 = u27 ∧ fq 6 = (Value.int .i64 x18) ∧ fq 7 = (Value.int .i64 (k16 : Int)) ∧ fq 8 = Value.int .i64 s.1 ∧ InR .i64 s.1 ∧ fq 9 = Value.int .i64 s.2 ∧ InR .i64 s.2 ∧ fq 13 = (Value.int .i64 ((r_Table).length : Int)) ∧ fq 14 = (Value.int .i64 (k16 : Int)) ∧ St wd2 wq [(Ty.sl (Ty.i .i64)).at u27 x17]) hres39 ⟨hf28, hf29, hf30, rfl, rfl, (inR_i64.2 (show (-9223372036854775808 : Int) ≤ -1 ∧ (-1 : Int) ≤ 9223372036854775807 from by decide)), rfl, (inL rfl), hf32, hf33, hS35⟩ ?_
        intro s107 ct43 f44 wd45 hb47 hI48 hbrk49 hret50
        obtain ⟨x41, x42⟩ := s107
        replace hI48 : f44 1 = (Value.func (.func g_together) fst_together cap_together) ∧ f44 5 = u27 ∧ f44 6 = (Value.int .i64 x18) ∧ f44 7 = (Value.int .i64 (k16 : Int)) ∧ f44 8 = Value.int .i64 x41 ∧ InR .i64 x41 ∧ f44 9 = Value.int .i64 x42 ∧ InR .i64 x42 ∧ f44 13 = (Value.int .i64 ((r_Table).length : Int)) ∧ f44 14 = (Value.int .i64 (k16 : Int)) ∧ St wd2 wd45 [(Ty.sl (Ty.i .i64)).at u27 x17] := hI48
        replace hb47 : p_impl_Ring_classes_L2 k16 together x17  x41 x42 = some ct43 := hb47
        unfold p_impl_Ring_classes_L2 at hb47
        obtain ⟨hf51, hf52, hf53, hf54, hf55, hr56, hf57, hr58, hf59, hf60, hS61⟩ := hI48
        refine W.seq (W.seq (W.region ?_))
        refine WL.val (Value.int .i64 x42) _ (op_move hf57) rfl ?_
        refine WL.val (Value.int .i64 (k16 : Int)) _ (op_move hf54) rfl ?_
        refine WL.val (Value.bool (decide (x42 < (k16 : Int)))) _ (op_lss rfl rfl) rfl ?_
        refine WL.val (Value.bool (decide (x42 < (k16 : Int)))) _ (op_move rfl) rfl ?_
        refine WL.cut 3 (fun fq wq => fq 1 = (Value.func (.func g_together) fst_together cap_together) ∧ fq 5 = u27 ∧ fq 6 = (Value.int .i64 x18) ∧ fq 7 = (Value.int .i64 (k16 : Int)) ∧ fq 8 = (Value.int .i64 x41) ∧ fq 9 = (Value.int .i64 x42) ∧ fq 13 = (Value.int .i64 ((r_Table).length : Int)) ∧ fq 14 = (Value.int .i64 (k16 : Int)) ∧ fq 23 = (Value.bool ((decide (x42 < (k16 : Int))) && (decide (x41 < (0 : Int))))) ∧ St wd2 wq [(Ty.sl (Ty.i .i64)).at u27 x17]) ?_ ?_
        · rcases Bool.eq_false_or_eq_true (decide (x42 < (k16 : Int))) with hc62 | hc62
          · refine WL.grun rfl (bool_of rfl hc62) ?_
            refine WL.val (Value.int .i64 x41) _ (op_move hf55) rfl ?_
            refine WL.grun rfl (bool_of rfl hc62) ?_
            refine WL.val (Value.bool (decide (x41 < (0 : Int)))) _ (op_lss rfl rfl) rfl ?_
            refine WL.val (Value.bool (decide (x41 < (0 : Int)))) _ (op_pick_t (evb_of rfl hc62) rfl) rfl ?_
            refine WL.nil ?_
            exact ⟨rfl, hf51, hf52, hf53, hf54, hf55, hf57, hf59, hf60, (andT hc62), hS61⟩
          · refine WL.gskip rfl (bool_of rfl hc62) rfl ?_
            refine WL.gskip rfl (bool_of rfl hc62) rfl ?_
            refine WL.val (Value.bool false) _ (op_pick_f (evb_of rfl hc62) rfl) rfl ?_
            refine WL.nil ?_
            exact ⟨rfl, hf51, hf52, hf53, hf54, hf55, hf57, hf59, hf60, (andF hc62), hS61⟩
        · intro f63 wd64 hq65
          obtain ⟨hf66, hf67, hf68, hf69, hf70, hf71, hf72, hf73, hf74, hS75⟩ := hq65
          refine WL.nil ?_
          refine W.cond ((decide (x42 < (k16 : Int))) && (decide (x41 < (0 : Int)))) hf74 (fun hc76 => ?_) (fun hc76 => ?_)
          · replace hb47 := ip hb47 hc76
            refine W.skip ?_
            refine W.seq ?_
            refine W.block ?_
            refine W.seq (W.region ?_)
            refine WL.val (Value.func (.func g_together) fst_together cap_together) _ (op_move hf66) rfl ?_
            refine WL.val (Value.int .i64 x42) _ (op_move hf71) rfl ?_
            refine WL.val (Value.int .i64 (k16 : Int)) _ (op_move hf69) rfl ?_
            obtain ⟨x78, hx79, hb47⟩ := bs hb47
            refine WL.call _ (op_callV rfl ok_together (args2 rfl rfl)) (call_together wd64 x42 (k16 : Int) x78 (Ext.trans hE7 hS75.ext) hr58 hr34 hx79) rfl ?_
            rintro _ wd80 ⟨rfl, he81⟩
            have hS83 := St.extend hS75 he81
            refine WL.nil ?_
            show W _ _ _ _ _ _
            obtain ⟨x84, hj85, hb47⟩ := bs hb47
            refine W.cutCode (fun fq wq => fq 1 = (Value.func (.func g_together) fst_together cap_together) ∧ fq 5 = u27 ∧ fq 6 = (Value.int .i64 x18) ∧ fq 7 = (Value.int .i64 (k16 : Int)) ∧ fq 8 = Value.int .i64 x84 ∧ InR .i64 x84 ∧ fq 9 = (Value.int .i64 x42) ∧ fq 13 = (Value.int .i64 ((r_Table).length : Int)) ∧ fq 14 = (Value.int .i64 (k16 : Int)) ∧ St wd2 wq [(Ty.sl (Ty.i .i64)).at u27 x17]) ?_ ?_
            · refine W.cond x78 rfl (fun hc86 => ?_) (fun hc86 => ?_)
              · replace hj85 := ip hj85 hc86
                refine W.region ?_
                refine WL.val u27 _ (op_move hf67) rfl ?_
                refine WL.val (Value.int .i64 x42) _ (op_move hf71) rfl ?_
                obtain ⟨x87, hx90, hj85⟩ := bs hj85
                obtain ⟨ha88, hb89, hx90⟩ := idx_some hx90
                refine WL.val (Value.pointer (some (elA u27 (x42).toNat))) _ (op_idx sl_34 (St.rep (t := (Ty.sl (Ty.i .i64))) hS83 0 rfl) rfl rfl ha88 hb89) rfl ?_
                obtain ⟨u91, hc92, hr93⟩ := repSl.el (St.rep (t := (Ty.sl (Ty.i .i64))) hS83 0 rfl) hx90
                obtain ⟨rfl, hr93⟩ := hr93
                refine WL.val (Value.int .i64 x87) _ (op_load one_2 rfl hc92) rfl ?_
                refine WL.val (Value.int .i64 x87) _ (op_assign rfl) rfl ?_
                refine WL.nil ?_
                obtain rfl := Option.some.inj hj85
                exact ⟨hf66, hf67, hf68, hf69, rfl, hr93, hf71, hf72, hf73, hS83⟩
              · replace hj85 := inegb hj85 hc86
                refine W.skip ?_
                obtain rfl := Option.some.inj hj85
                exact ⟨hf66, hf67, hf68, hf69, hf70, hr56, hf71, hf72, hf73, hS83⟩
            · intro f94 wd95 hq96
              obtain ⟨hf97, hf98, hf99, hf100, hf101, hr102, hf103, hf104, hf105, hS106⟩ := hq96
              show W _ _ _ _ _ _
              refine W.region ?_
              refine WL.val (Value.int .i64 x42) _ (op_move hf103) rfl ?_
              refine WL.val (Value.int .i64 (w64 (x42 + (1 : Int)))) _ (op_add rfl rfl) rfl ?_
              refine WL.val (Value.int .i64 (w64 (x42 + (1 : Int)))) _ (op_assign rfl) rfl ?_
              refine WL.nil ?_
              obtain rfl := Option.some.inj hb47
              show ∃ s, _ = Ctl.next s ∧ _
              exact ⟨_, rfl, hf97, hf98, hf99, hf100, hf101, hr102, rfl, (inR_wrap _ _), hf104, hf105, hS106⟩
          · replace hb47 := inegb hb47 hc76
            refine W.exit ?_
            obtain rfl := Option.some.inj hb47
            show _ = _ ∧ _
            exact ⟨rfl, _, hbrk49 _ rfl, hf66, hf67, hf68, hf70, hr56, hf72, hf73, hS75⟩
      · rintro f108 wd109 ⟨s111, rfl, hq110⟩
        replace hb23 := onRes_fin hb23
        obtain ⟨x112, x113⟩ := s111
        replace hq110 : f108 1 = (Value.func (.func g_together) fst_together cap_together) ∧ f108 5 = u27 ∧ f108 6 = (Value.int .i64 x18) ∧ f108 8 = Value.int .i64 x112 ∧ InR .i64 x112 ∧ f108 13 = (Value.int .i64 ((r_Table).length : Int)) ∧ f108 14 = (Value.int .i64 (k16 : Int)) ∧ St wd2 wd109 [(Ty.sl (Ty.i .i64)).at u27 x17] := hq110
        replace hb23 : (_ : Option _) = _ := hb23
        dsimp only at hb23
        obtain ⟨hf114, hf115, hf116, hf117, hr118, hf119, hf120, hS121⟩ := hq110
        refine W.seq (W.seq (W.region ?_))
        refine WL.val (Value.int .i64 x112) _ (op_move hf117) rfl ?_
        refine WL.val (Value.bool (decide (x112 < (0 : Int)))) _ (op_lss rfl rfl) rfl ?_
        refine WL.nil ?_
        show W _ _ _ _ _ _
        obtain ⟨⟨x122, x123⟩, hj124, hb23⟩ := bs hb23
        refine W.cutCode (fun fq wq => fq 1 = (Value.func (.func g_together) fst_together cap_together) ∧ fq 5 = u27 ∧ fq 6 = Value.int .i64 x122 ∧ InR .i64 x122 ∧ fq 8 = Value.int .i64 x123 ∧ InR .i64 x123 ∧ fq 13 = (Value.int .i64 ((r_Table).length : Int)) ∧ fq 14 = (Value.int .i64 (k16 : Int)) ∧ St wd2 wq [(Ty.sl (Ty.i .i64)).at u27 x17]) ?_ ?_
        · refine W.cond (decide (x112 < (0 : Int))) rfl (fun hc125 => ?_) (fun hc125 => ?_)
          · replace hj124 := ip hj124 hc125
            refine W.seq (W.region ?_)
            refine WL.val (Value.int .i64 x18) _ (op_move hf116) rfl ?_
            refine WL.val (Value.int .i64 x18) _ (op_assign rfl) rfl ?_
            refine WL.nil ?_
            show W _ _ _ _ _ _
            refine W.region ?_
            refine WL.val (Value.int .i64 x18) _ (op_move hf116) rfl ?_
            refine WL.val (Value.int .i64 (w64 (x18 + (1 : Int)))) _ (op_add rfl rfl) rfl ?_
            refine WL.val (Value.int .i64 (w64 (x18 + (1 : Int)))) _ (op_assign rfl) rfl ?_
            refine WL.nil ?_
            simp only [Option.some.injEq, Prod.mk.injEq] at hj124
            obtain ⟨rfl, rfl⟩ := hj124
            exact ⟨hf114, hf115, rfl, (inR_wrap _ _), rfl, hr31, hf119, hf120, hS121⟩
          · replace hj124 := inegb hj124 hc125
            refine W.skip ?_
            simp only [Option.some.injEq, Prod.mk.injEq] at hj124
            obtain ⟨rfl, rfl⟩ := hj124
            exact ⟨hf114, hf115, hf116, hr31, hf117, hr118, hf119, hf120, hS121⟩
        · intro f126 wd127 hq128
          obtain ⟨hf129, hf130, hf131, hr132, hf133, hr134, hf135, hf136, hS137⟩ := hq128
          show W _ _ _ _ _ _
          refine W.region ?_
          refine WL.val u27 _ (op_move hf130) rfl ?_
          refine WL.val (Value.int .i64 x123) _ (op_move hf133) rfl ?_
          refine WL.litFlat (t := (Ty.i .i64)) (flat_i .i64) [(Value.int .i64 x123)] [x123] hS137 sl_34 rfl rfl (fillL rfl ⟨rfl, rfl, rfl, trivial⟩) rfl rfl (litL ⟨⟨rfl, hr134⟩, trivial⟩) rfl ?_
          intro u138 wd139 hS140 he141
          replace hS140 : St wd2 wd139 [(Ty.sl (Ty.i .i64)).at u27 x17, (Ty.sl (Ty.i .i64)).at u138 ([x123] : (List Int))] := hS140
          obtain ⟨x142, hx143, hb23⟩ := bs hb23
          refine WL.append (flat_i .i64) hS140 (k := 0) rfl sl_34 rfl rfl rfl rfl (St.rep (t := (Ty.sl (Ty.i .i64))) hS140 1 rfl) hx143 rfl ?_
          intro u144 wd145 hS146 hz147
          replace hS146 : St wd2 wd145 [(Ty.sl (Ty.i .i64)).at u144 x142, (Ty.sl (Ty.i .i64)).at u138 ([x123] : (List Int))] := hS146
          refine WL.val u144 _ (op_assign rfl) rfl ?_
          refine WL.nil ?_
          show W _ _ _ _ _ _
          refine W.region ?_
          refine WL.val (Value.int .i64 (w64 ((k16 : Int) + (1 : Int)))) _ (op_add hf136 rfl) rfl ?_
          refine WL.val (Value.int .i64 (w64 ((k16 : Int) + (1 : Int)))) _ (op_move rfl) rfl ?_
          refine WL.nil ?_
          obtain rfl := Option.some.inj hb23
          show ∃ s, _ = Ctl.next s ∧ _
          exact ⟨_, rfl, u144, hf129, rfl, hf131, hr132, hf135, (ctr_next hl36 hr13), (ctr_rng hl36 hr13), (St.pick hS146 [0] rfl)⟩
    · intro s154 f150 wd151 hs152 hI153
      obtain ⟨x155, x156⟩ := s154
      replace hI153 : ∃ (uu0 : Value), f150 1 = (Value.func (.func g_together) fst_together cap_together) ∧ f150 5 = uu0 ∧ f150 6 = Value.int .i64 x156 ∧ InR .i64 x156 ∧ f150 13 = (Value.int .i64 ((r_Table).length : Int)) ∧ f150 14 = Value.int .i64 (((r_Table).length : Nat) : Int) ∧ InR .i64 (((r_Table).length : Nat) : Int) ∧ St wd2 wd151 [(Ty.sl (Ty.i .i64)).at uu0 x155] := hI153
      obtain ⟨u157, hf158, hf159, hf160, hr161, hf162, hf163, hr164, hS165⟩ := hI153
      refine W.seq (W.region ?_)
      refine WL.val (Value.bool (decide ((((r_Table).length : Nat) : Int) < ((r_Table).length : Int)))) _ (op_lss hf163 hf162) rfl ?_
      have hl166 : ¬ (((r_Table).length : Nat) : Int) < ((r_Table).length : Int) := by omega
      refine WL.nil ?_
      refine W.seq ?_
      refine W.condF (decide ((((r_Table).length : Nat) : Int) < ((r_Table).length : Int))) rfl (decide_eq_false hl166) ?_
      refine W.exit ?_
      show _ = _ ∧ _
      exact ⟨rfl, _, hs152, u157, hf159, hS165⟩
  · rintro f167 wd168 ⟨s170, rfl, hq169⟩
    replace h := onRes_fin h
    obtain ⟨x171, x172⟩ := s170
    replace hq169 : ∃ (uu0 : Value), f167 5 = uu0 ∧ St wd2 wd168 [(Ty.sl (Ty.i .i64)).at uu0 x171] := hq169
    replace h : (_ : Option _) = _ := h
    dsimp only at h
    obtain ⟨u173, hf174, hS175⟩ := hq169
    refine W.seq (W.region ?_)
    refine WL.val u173 _ (op_move hf174) rfl ?_
    refine WL.val u173 _ (op_assign rfl) rfl ?_
    refine WL.nil ?_
    refine W.ret ?_
    obtain rfl := Option.some.inj h
    show FinP _ _ _ _ _ _ _
    exact FinP.ret _ (res1 rfl rfl) ⟨u173, rfl, (Ext.trans hE7 hS175.ext), (St.out (St.pick hS175 [0] rfl) (hE7))⟩

theorem c_laws_markInt64S {w : World} {a : (List Int)} {v_a : Value} {k1 : Int} {w0 : World} {R : Ent} (hS0 : St w0 w [(Ty.sl (Ty.i .i64)).at v_a a, R]) (r_k1 : InR .i64 k1) {res : Int × (List Int)} (h : p_laws_markInt64S a k1  = some res) :
    Ret Tryd.prog 25 #[v_a, (Value.int .i64 k1)] w (fun v w' => v = Value.int .i64 res.1 ∧ InR .i64 res.1 ∧ St w0 w' [(Ty.sl (Ty.i .i64)).at v_a res.2, R]) := by
  unfold p_laws_markInt64S at h
  refine Ret.start (fn := Tryd.f25) Tryd.func25 rfl 19 rfl rfl ?_
  refine W.seq (W.region ?_)
  refine WL.val (Value.int .i64 (0 : Int)) _ (op_assign rfl) rfl ?_
  refine WL.nil ?_
  refine W.seq (W.seq (W.region ?_))
  refine WL.val (Value.int .i64 (0 : Int)) _ (op_assign rfl) rfl ?_
  refine WL.nil ?_
  show W _ _ _ _ _ _
  obtain ⟨res1, hres2, h⟩ := bs h
  refine W.blockLoop (fun fq wq => ∃ s, res1 = Res.fin s ∧ fq 1 = Value.int .i64 s.2 ∧ InR .i64 s.2 ∧ (s.1).length = (a).length ∧ St w0 wq [(Ty.sl (Ty.i .i64)).at v_a s.1, R]) ?_ ?_
  · refine W.forN (fun k (s : (List Int) × Int) fq wq => fq 0 = v_a ∧ fq 1 = Value.int .i64 s.2 ∧ InR .i64 s.2 ∧ fq 5 = Value.int .i64 (k : Int) ∧ InR .i64 (k : Int) ∧ (s.1).length = (a).length ∧ St w0 wq [(Ty.sl (Ty.i .i64)).at v_a s.1, R]) hres2 ⟨rfl, rfl, r_k1, rfl, (inL rfl), rfl, hS0⟩ ?_ ?_
    · intro k3 s30 ct6 f7 wd8 hk9 hb10 hI11 hbrk12 hret13
      obtain ⟨x4, x5⟩ := s30
      replace hI11 : f7 0 = v_a ∧ f7 1 = Value.int .i64 x5 ∧ InR .i64 x5 ∧ f7 5 = Value.int .i64 (k3 : Int) ∧ InR .i64 (k3 : Int) ∧ (x4).length = (a).length ∧ St w0 wd8 [(Ty.sl (Ty.i .i64)).at v_a x4, R] := hI11
      replace hb10 : p_laws_markInt64S_L1  k3 x4 x5 = some ct6 := hb10
      unfold p_laws_markInt64S_L1 at hb10
      obtain ⟨hf14, hf15, hr16, hf17, hr18, hL19, hS20⟩ := hI11
      refine W.seq (W.seq (W.region ?_))
      refine WL.val (Value.int .i64 (k3 : Int)) _ (op_move hf17) rfl ?_
      refine WL.val v_a _ (op_move hf14) rfl ?_
      have hr21 := inR_len (St.rep (t := (Ty.sl (Ty.i .i64))) hS20 0 rfl)
      refine WL.val (Value.int .i64 ((x4).length : Int)) _ (op_lenL sl_34 (St.rep (t := (Ty.sl (Ty.i .i64))) hS20 0 rfl) rfl) rfl ?_
      refine WL.val (Value.bool (decide ((k3 : Int) < ((x4).length : Int)))) _ (op_lss rfl rfl) rfl ?_
      have hl22 : (k3 : Int) < ((x4).length : Int) := by omega
      refine WL.nil ?_
      refine W.condT (decide ((k3 : Int) < ((x4).length : Int))) rfl (decide_eq_true hl22) ?_
      refine W.skip ?_
      refine W.seq ?_
      refine W.block ?_
      refine W.seq (W.region ?_)
      refine WL.val v_a _ (op_move hf14) rfl ?_
      refine WL.val (Value.int .i64 (k3 : Int)) _ (op_move hf17) rfl ?_
      refine WL.val (Value.int .i64 x5) _ (op_move hf15) rfl ?_
      obtain ⟨x24, hx27, hb10⟩ := bs hb10
      obtain ⟨ha25, hb26, hx27⟩ := idx_some hx27
      refine WL.val (Value.pointer (some (elA v_a ((k3 : Int)).toNat))) _ (op_idx sl_34 (St.rep (t := (Ty.sl (Ty.i .i64))) hS20 0 rfl) rfl rfl ha25 hb26) rfl ?_
      refine WL.storeEl (flat_i .i64) hS20 (k := 0) rfl sz_2 rfl rfl (lt_of_idx ha25 hb26) ⟨rfl, hr16⟩ ?_
      intro wd28 hS29
      replace hS29 : St w0 wd28 [(Ty.sl (Ty.i .i64)).at v_a ((x4).set ((k3 : Int)).toNat x5), R] := hS29
      refine WL.nil ?_
      show W _ _ _ _ _ _
      refine W.region ?_
      refine WL.val (Value.int .i64 x5) _ (op_move hf15) rfl ?_
      refine WL.val (Value.int .i64 (w64 (x5 + (1 : Int)))) _ (op_add rfl rfl) rfl ?_
      refine WL.val (Value.int .i64 (w64 (x5 + (1 : Int)))) _ (op_assign rfl) rfl ?_
      refine WL.nil ?_
      show W _ _ _ _ _ _
      refine W.region ?_
      refine WL.val (Value.int .i64 (k3 : Int)) _ (op_move hf17) rfl ?_
      refine WL.val (Value.int .i64 (w64 ((k3 : Int) + (1 : Int)))) _ (op_add rfl rfl) rfl ?_
      refine WL.val (Value.int .i64 (w64 ((k3 : Int) + (1 : Int)))) _ (op_assign rfl) rfl ?_
      refine WL.nil ?_
      obtain rfl := Option.some.inj hb10
      show ∃ s, _ = Ctl.next s ∧ _
      exact ⟨_, rfl, hf14, rfl, (inR_wrap _ _), (ctr_next hl22 hr21), (ctr_rng hl22 hr21), (by first | exact hL19 | (simp only [List.length_set]; exact hL19)), hS29⟩
    · intro s35 f31 wd32 hs33 hI34
      obtain ⟨x36, x37⟩ := s35
      replace hI34 : f31 0 = v_a ∧ f31 1 = Value.int .i64 x37 ∧ InR .i64 x37 ∧ f31 5 = Value.int .i64 (((a).length : Nat) : Int) ∧ InR .i64 (((a).length : Nat) : Int) ∧ (x36).length = (a).length ∧ St w0 wd32 [(Ty.sl (Ty.i .i64)).at v_a x36, R] := hI34
      obtain ⟨hf38, hf39, hr40, hf41, hr42, hL43, hS44⟩ := hI34
      refine W.seq (W.seq (W.region ?_))
      refine WL.val (Value.int .i64 (((a).length : Nat) : Int)) _ (op_move hf41) rfl ?_
      refine WL.val v_a _ (op_move hf38) rfl ?_
      have hr45 := inR_len (St.rep (t := (Ty.sl (Ty.i .i64))) hS44 0 rfl)
      refine WL.val (Value.int .i64 ((x36).length : Int)) _ (op_lenL sl_34 (St.rep (t := (Ty.sl (Ty.i .i64))) hS44 0 rfl) rfl) rfl ?_
      refine WL.val (Value.bool (decide ((((a).length : Nat) : Int) < ((x36).length : Int)))) _ (op_lss rfl rfl) rfl ?_
      have hl46 : ¬ (((a).length : Nat) : Int) < ((x36).length : Int) := by omega
      refine WL.nil ?_
      refine W.condF (decide ((((a).length : Nat) : Int) < ((x36).length : Int))) rfl (decide_eq_false hl46) ?_
      refine W.exit ?_
      show _ = _ ∧ _
      exact ⟨rfl, _, hs33, hf39, hr40, (by first | exact hL43 | (simp only [List.length_set]; exact hL43)), hS44⟩
  · rintro f47 wd48 ⟨s50, rfl, hq49⟩
    replace h := onRes_fin h
    obtain ⟨x51, x52⟩ := s50
    replace hq49 : f47 1 = Value.int .i64 x52 ∧ InR .i64 x52 ∧ (x51).length = (a).length ∧ St w0 wd48 [(Ty.sl (Ty.i .i64)).at v_a x51, R] := hq49
    replace h : (_ : Option _) = _ := h
    dsimp only at h
    obtain ⟨hf53, hr54, hL55, hS56⟩ := hq49
    refine W.seq (W.region ?_)
    refine WL.val (Value.int .i64 x52) _ (op_move hf53) rfl ?_
    refine WL.val (Value.int .i64 x52) _ (op_assign rfl) rfl ?_
    refine WL.nil ?_
    refine W.ret ?_
    obtain rfl := Option.some.inj h
    show FinP _ _ _ _ _ _ _
    exact FinP.ret _ (res1 rfl rfl) ⟨rfl, hr54, (St.pick hS56 [0, 1] rfl)⟩

theorem c_laws_markInt64SS {w : World} {a : (List (List Int))} {v_a : Value} {k1 : Int} {w0 : World} {R : Ent} (hS0 : St w0 w [(Ty.sl (Ty.sl (Ty.i .i64))).at v_a a, R]) (r_k1 : InR .i64 k1) {res : Int × (List (List Int))} (h : p_laws_markInt64SS a k1  = some res) :
    Ret Tryd.prog 69 #[v_a, (Value.int .i64 k1)] w (fun v w' => v = Value.int .i64 res.1 ∧ InR .i64 res.1 ∧ St w0 w' [(Ty.sl (Ty.sl (Ty.i .i64))).at v_a res.2, R]) := by
  unfold p_laws_markInt64SS at h
  refine Ret.start (fn := Tryd.f69) Tryd.func69 rfl 19 rfl rfl ?_
  refine W.seq (W.region ?_)
  refine WL.val (Value.int .i64 (0 : Int)) _ (op_assign rfl) rfl ?_
  refine WL.nil ?_
  refine W.seq (W.seq (W.region ?_))
  refine WL.val (Value.int .i64 (0 : Int)) _ (op_assign rfl) rfl ?_
  refine WL.nil ?_
  show W _ _ _ _ _ _
  obtain ⟨res1, hres2, h⟩ := bs h
  refine W.blockLoop (fun fq wq => ∃ s, res1 = Res.fin s ∧ fq 1 = Value.int .i64 s.2 ∧ InR .i64 s.2 ∧ (s.1).length = (a).length ∧ St w0 wq [(Ty.sl (Ty.sl (Ty.i .i64))).at v_a s.1, R]) ?_ ?_
  · refine W.forN (fun k (s : (List (List Int)) × Int) fq wq => fq 0 = v_a ∧ fq 1 = Value.int .i64 s.2 ∧ InR .i64 s.2 ∧ fq 5 = Value.int .i64 (k : Int) ∧ InR .i64 (k : Int) ∧ (s.1).length = (a).length ∧ St w0 wq [(Ty.sl (Ty.sl (Ty.i .i64))).at v_a s.1, R]) hres2 ⟨rfl, rfl, r_k1, rfl, (inL rfl), rfl, hS0⟩ ?_ ?_
    · intro k3 s40 ct6 f7 wd8 hk9 hb10 hI11 hbrk12 hret13
      obtain ⟨x4, x5⟩ := s40
      replace hI11 : f7 0 = v_a ∧ f7 1 = Value.int .i64 x5 ∧ InR .i64 x5 ∧ f7 5 = Value.int .i64 (k3 : Int) ∧ InR .i64 (k3 : Int) ∧ (x4).length = (a).length ∧ St w0 wd8 [(Ty.sl (Ty.sl (Ty.i .i64))).at v_a x4, R] := hI11
      replace hb10 : p_laws_markInt64SS_L1  k3 x4 x5 = some ct6 := hb10
      unfold p_laws_markInt64SS_L1 at hb10
      obtain ⟨hf14, hf15, hr16, hf17, hr18, hL19, hS20⟩ := hI11
      refine W.seq (W.seq (W.region ?_))
      refine WL.val (Value.int .i64 (k3 : Int)) _ (op_move hf17) rfl ?_
      refine WL.val v_a _ (op_move hf14) rfl ?_
      have hr21 := inR_len (St.rep (t := (Ty.sl (Ty.sl (Ty.i .i64)))) hS20 0 rfl)
      refine WL.val (Value.int .i64 ((x4).length : Int)) _ (op_lenL sl_60 (St.rep (t := (Ty.sl (Ty.sl (Ty.i .i64)))) hS20 0 rfl) rfl) rfl ?_
      refine WL.val (Value.bool (decide ((k3 : Int) < ((x4).length : Int)))) _ (op_lss rfl rfl) rfl ?_
      have hl22 : (k3 : Int) < ((x4).length : Int) := by omega
      refine WL.nil ?_
      refine W.condT (decide ((k3 : Int) < ((x4).length : Int))) rfl (decide_eq_true hl22) ?_
      refine W.skip ?_
      refine W.seq ?_
      refine W.block ?_
      refine W.region ?_
      refine WL.val v_a _ (op_move hf14) rfl ?_
      refine WL.val (Value.int .i64 (k3 : Int)) _ (op_move hf17) rfl ?_
      obtain ⟨x24, hx27, hb10⟩ := bs hb10
      obtain ⟨ha25, hb26, hx27⟩ := idx_some hx27
      refine WL.val (Value.pointer (some (elA v_a ((k3 : Int)).toNat))) _ (op_idx sl_60 (St.rep (t := (Ty.sl (Ty.sl (Ty.i .i64)))) hS20 0 rfl) rfl rfl ha25 hb26) rfl ?_
      obtain ⟨u28, hc29, hr30⟩ := repSl.el (St.rep (t := (Ty.sl (Ty.sl (Ty.i .i64)))) hS20 0 rfl) hx27
      refine WL.val u28 _ (op_load one_34 rfl hc29) rfl ?_
      refine WL.val (Value.int .i64 x5) _ (op_move hf15) rfl ?_
      have hS31 := St.unrow (k := 0) hS20 rfl hx27 hc29
      replace hS31 : St w0 wd8 [holeAt (Ty.sl (Ty.i .i64)) v_a x4 ((k3 : Int)).toNat u28, R, (Ty.sl (Ty.i .i64)).at u28 x24] := hS31
      obtain ⟨x32, hx33, hb10⟩ := bs hb10
      have hS34 := St.fold [(Ty.sl (Ty.i .i64)).at u28 x24] [holeAt (Ty.sl (Ty.i .i64)) v_a x4 ((k3 : Int)).toNat u28, R] (St.pick hS31 [2, 0, 1] rfl)
      refine WL.call _ (op_call fn_25 (args2 rfl rfl)) (c_laws_markInt64S hS34 hr16 hx33) rfl ?_
      rintro _ wd37 ⟨rfl, hr38, hS35⟩
      have hS36 := St.pick (St.unfold [(Ty.sl (Ty.i .i64)).at u28 x32.2] [holeAt (Ty.sl (Ty.i .i64)) v_a x4 ((k3 : Int)).toNat u28, R] hS35) [1, 2, 0] rfl
      replace hS36 : St w0 wd37 [holeAt (Ty.sl (Ty.i .i64)) v_a x4 ((k3 : Int)).toNat u28, R, (Ty.sl (Ty.i .i64)).at u28 x32.2] := hS36
      have hS39 := St.rerow (k := 0) (k2 := 2) hS36 rfl rfl rfl
      replace hS39 : St w0 wd37 [(Ty.sl (Ty.sl (Ty.i .i64))).at v_a ((x4).set ((k3 : Int)).toNat x32.2), R, emp] := hS39
      refine WL.val (Value.int .i64 x32.1) _ (op_assign rfl) rfl ?_
      refine WL.nil ?_
      show W _ _ _ _ _ _
      refine W.region ?_
      refine WL.val (Value.int .i64 (k3 : Int)) _ (op_move hf17) rfl ?_
      refine WL.val (Value.int .i64 (w64 ((k3 : Int) + (1 : Int)))) _ (op_add rfl rfl) rfl ?_
      refine WL.val (Value.int .i64 (w64 ((k3 : Int) + (1 : Int)))) _ (op_assign rfl) rfl ?_
      refine WL.nil ?_
      obtain rfl := Option.some.inj hb10
      show ∃ s, _ = Ctl.next s ∧ _
      exact ⟨_, rfl, hf14, rfl, hr38, (ctr_next hl22 hr21), (ctr_rng hl22 hr21), (by first | exact hL19 | (simp only [List.length_set]; exact hL19)), (St.pick hS39 [0, 1] rfl)⟩
    · intro s45 f41 wd42 hs43 hI44
      obtain ⟨x46, x47⟩ := s45
      replace hI44 : f41 0 = v_a ∧ f41 1 = Value.int .i64 x47 ∧ InR .i64 x47 ∧ f41 5 = Value.int .i64 (((a).length : Nat) : Int) ∧ InR .i64 (((a).length : Nat) : Int) ∧ (x46).length = (a).length ∧ St w0 wd42 [(Ty.sl (Ty.sl (Ty.i .i64))).at v_a x46, R] := hI44
      obtain ⟨hf48, hf49, hr50, hf51, hr52, hL53, hS54⟩ := hI44
      refine W.seq (W.seq (W.region ?_))
      refine WL.val (Value.int .i64 (((a).length : Nat) : Int)) _ (op_move hf51) rfl ?_
      refine WL.val v_a _ (op_move hf48) rfl ?_
      have hr55 := inR_len (St.rep (t := (Ty.sl (Ty.sl (Ty.i .i64)))) hS54 0 rfl)
      refine WL.val (Value.int .i64 ((x46).length : Int)) _ (op_lenL sl_60 (St.rep (t := (Ty.sl (Ty.sl (Ty.i .i64)))) hS54 0 rfl) rfl) rfl ?_
      refine WL.val (Value.bool (decide ((((a).length : Nat) : Int) < ((x46).length : Int)))) _ (op_lss rfl rfl) rfl ?_
      have hl56 : ¬ (((a).length : Nat) : Int) < ((x46).length : Int) := by omega
      refine WL.nil ?_
      refine W.condF (decide ((((a).length : Nat) : Int) < ((x46).length : Int))) rfl (decide_eq_false hl56) ?_
      refine W.exit ?_
      show _ = _ ∧ _
      exact ⟨rfl, _, hs43, hf49, hr50, (by first | exact hL53 | (simp only [List.length_set]; exact hL53)), hS54⟩
  · rintro f57 wd58 ⟨s60, rfl, hq59⟩
    replace h := onRes_fin h
    obtain ⟨x61, x62⟩ := s60
    replace hq59 : f57 1 = Value.int .i64 x62 ∧ InR .i64 x62 ∧ (x61).length = (a).length ∧ St w0 wd58 [(Ty.sl (Ty.sl (Ty.i .i64))).at v_a x61, R] := hq59
    replace h : (_ : Option _) = _ := h
    dsimp only at h
    obtain ⟨hf63, hr64, hL65, hS66⟩ := hq59
    refine W.seq (W.region ?_)
    refine WL.val (Value.int .i64 x62) _ (op_move hf63) rfl ?_
    refine WL.val (Value.int .i64 x62) _ (op_assign rfl) rfl ?_
    refine WL.nil ?_
    refine W.ret ?_
    obtain rfl := Option.some.inj h
    show FinP _ _ _ _ _ _ _
    exact FinP.ret _ (res1 rfl rfl) ⟨rfl, hr64, (St.pick hS66 [0, 1] rfl)⟩

theorem c_laws_markInt64SSS {w : World} {a : (List (List (List Int)))} {v_a : Value} {k1 : Int} {w0 : World} {R : Ent} (hS0 : St w0 w [(Ty.sl (Ty.sl (Ty.sl (Ty.i .i64)))).at v_a a, R]) (r_k1 : InR .i64 k1) {res : Int × (List (List (List Int)))} (h : p_laws_markInt64SSS a k1  = some res) :
    Ret Tryd.prog 47 #[v_a, (Value.int .i64 k1)] w (fun v w' => v = Value.int .i64 res.1 ∧ InR .i64 res.1 ∧ St w0 w' [(Ty.sl (Ty.sl (Ty.sl (Ty.i .i64)))).at v_a res.2, R]) := by
  unfold p_laws_markInt64SSS at h
  refine Ret.start (fn := Tryd.f47) Tryd.func47 rfl 19 rfl rfl ?_
  refine W.seq (W.region ?_)
  refine WL.val (Value.int .i64 (0 : Int)) _ (op_assign rfl) rfl ?_
  refine WL.nil ?_
  refine W.seq (W.seq (W.region ?_))
  refine WL.val (Value.int .i64 (0 : Int)) _ (op_assign rfl) rfl ?_
  refine WL.nil ?_
  show W _ _ _ _ _ _
  obtain ⟨res1, hres2, h⟩ := bs h
  refine W.blockLoop (fun fq wq => ∃ s, res1 = Res.fin s ∧ fq 1 = Value.int .i64 s.2 ∧ InR .i64 s.2 ∧ (s.1).length = (a).length ∧ St w0 wq [(Ty.sl (Ty.sl (Ty.sl (Ty.i .i64)))).at v_a s.1, R]) ?_ ?_
  · refine W.forN (fun k (s : (List (List (List Int))) × Int) fq wq => fq 0 = v_a ∧ fq 1 = Value.int .i64 s.2 ∧ InR .i64 s.2 ∧ fq 5 = Value.int .i64 (k : Int) ∧ InR .i64 (k : Int) ∧ (s.1).length = (a).length ∧ St w0 wq [(Ty.sl (Ty.sl (Ty.sl (Ty.i .i64)))).at v_a s.1, R]) hres2 ⟨rfl, rfl, r_k1, rfl, (inL rfl), rfl, hS0⟩ ?_ ?_
    · intro k3 s40 ct6 f7 wd8 hk9 hb10 hI11 hbrk12 hret13
      obtain ⟨x4, x5⟩ := s40
      replace hI11 : f7 0 = v_a ∧ f7 1 = Value.int .i64 x5 ∧ InR .i64 x5 ∧ f7 5 = Value.int .i64 (k3 : Int) ∧ InR .i64 (k3 : Int) ∧ (x4).length = (a).length ∧ St w0 wd8 [(Ty.sl (Ty.sl (Ty.sl (Ty.i .i64)))).at v_a x4, R] := hI11
      replace hb10 : p_laws_markInt64SSS_L1  k3 x4 x5 = some ct6 := hb10
      unfold p_laws_markInt64SSS_L1 at hb10
      obtain ⟨hf14, hf15, hr16, hf17, hr18, hL19, hS20⟩ := hI11
      refine W.seq (W.seq (W.region ?_))
      refine WL.val (Value.int .i64 (k3 : Int)) _ (op_move hf17) rfl ?_
      refine WL.val v_a _ (op_move hf14) rfl ?_
      have hr21 := inR_len (St.rep (t := (Ty.sl (Ty.sl (Ty.sl (Ty.i .i64))))) hS20 0 rfl)
      refine WL.val (Value.int .i64 ((x4).length : Int)) _ (op_lenL sl_22 (St.rep (t := (Ty.sl (Ty.sl (Ty.sl (Ty.i .i64))))) hS20 0 rfl) rfl) rfl ?_
      refine WL.val (Value.bool (decide ((k3 : Int) < ((x4).length : Int)))) _ (op_lss rfl rfl) rfl ?_
      have hl22 : (k3 : Int) < ((x4).length : Int) := by omega
      refine WL.nil ?_
      refine W.condT (decide ((k3 : Int) < ((x4).length : Int))) rfl (decide_eq_true hl22) ?_
      refine W.skip ?_
      refine W.seq ?_
      refine W.block ?_
      refine W.region ?_
      refine WL.val v_a _ (op_move hf14) rfl ?_
      refine WL.val (Value.int .i64 (k3 : Int)) _ (op_move hf17) rfl ?_
      obtain ⟨x24, hx27, hb10⟩ := bs hb10
      obtain ⟨ha25, hb26, hx27⟩ := idx_some hx27
      refine WL.val (Value.pointer (some (elA v_a ((k3 : Int)).toNat))) _ (op_idx sl_22 (St.rep (t := (Ty.sl (Ty.sl (Ty.sl (Ty.i .i64))))) hS20 0 rfl) rfl rfl ha25 hb26) rfl ?_
      obtain ⟨u28, hc29, hr30⟩ := repSl.el (St.rep (t := (Ty.sl (Ty.sl (Ty.sl (Ty.i .i64))))) hS20 0 rfl) hx27
      refine WL.val u28 _ (op_load one_60 rfl hc29) rfl ?_
      refine WL.val (Value.int .i64 x5) _ (op_move hf15) rfl ?_
      have hS31 := St.unrow (k := 0) hS20 rfl hx27 hc29
      replace hS31 : St w0 wd8 [holeAt (Ty.sl (Ty.sl (Ty.i .i64))) v_a x4 ((k3 : Int)).toNat u28, R, (Ty.sl (Ty.sl (Ty.i .i64))).at u28 x24] := hS31
      obtain ⟨x32, hx33, hb10⟩ := bs hb10
      have hS34 := St.fold [(Ty.sl (Ty.sl (Ty.i .i64))).at u28 x24] [holeAt (Ty.sl (Ty.sl (Ty.i .i64))) v_a x4 ((k3 : Int)).toNat u28, R] (St.pick hS31 [2, 0, 1] rfl)
      refine WL.call _ (op_call fn_69 (args2 rfl rfl)) (c_laws_markInt64SS hS34 hr16 hx33) rfl ?_
      rintro _ wd37 ⟨rfl, hr38, hS35⟩
      have hS36 := St.pick (St.unfold [(Ty.sl (Ty.sl (Ty.i .i64))).at u28 x32.2] [holeAt (Ty.sl (Ty.sl (Ty.i .i64))) v_a x4 ((k3 : Int)).toNat u28, R] hS35) [1, 2, 0] rfl
      replace hS36 : St w0 wd37 [holeAt (Ty.sl (Ty.sl (Ty.i .i64))) v_a x4 ((k3 : Int)).toNat u28, R, (Ty.sl (Ty.sl (Ty.i .i64))).at u28 x32.2] := hS36
      have hS39 := St.rerow (k := 0) (k2 := 2) hS36 rfl rfl rfl
      replace hS39 : St w0 wd37 [(Ty.sl (Ty.sl (Ty.sl (Ty.i .i64)))).at v_a ((x4).set ((k3 : Int)).toNat x32.2), R, emp] := hS39
      refine WL.val (Value.int .i64 x32.1) _ (op_assign rfl) rfl ?_
      refine WL.nil ?_
      show W _ _ _ _ _ _
      refine W.region ?_
      refine WL.val (Value.int .i64 (k3 : Int)) _ (op_move hf17) rfl ?_
      refine WL.val (Value.int .i64 (w64 ((k3 : Int) + (1 : Int)))) _ (op_add rfl rfl) rfl ?_
      refine WL.val (Value.int .i64 (w64 ((k3 : Int) + (1 : Int)))) _ (op_assign rfl) rfl ?_
      refine WL.nil ?_
      obtain rfl := Option.some.inj hb10
      show ∃ s, _ = Ctl.next s ∧ _
      exact ⟨_, rfl, hf14, rfl, hr38, (ctr_next hl22 hr21), (ctr_rng hl22 hr21), (by first | exact hL19 | (simp only [List.length_set]; exact hL19)), (St.pick hS39 [0, 1] rfl)⟩
    · intro s45 f41 wd42 hs43 hI44
      obtain ⟨x46, x47⟩ := s45
      replace hI44 : f41 0 = v_a ∧ f41 1 = Value.int .i64 x47 ∧ InR .i64 x47 ∧ f41 5 = Value.int .i64 (((a).length : Nat) : Int) ∧ InR .i64 (((a).length : Nat) : Int) ∧ (x46).length = (a).length ∧ St w0 wd42 [(Ty.sl (Ty.sl (Ty.sl (Ty.i .i64)))).at v_a x46, R] := hI44
      obtain ⟨hf48, hf49, hr50, hf51, hr52, hL53, hS54⟩ := hI44
      refine W.seq (W.seq (W.region ?_))
      refine WL.val (Value.int .i64 (((a).length : Nat) : Int)) _ (op_move hf51) rfl ?_
      refine WL.val v_a _ (op_move hf48) rfl ?_
      have hr55 := inR_len (St.rep (t := (Ty.sl (Ty.sl (Ty.sl (Ty.i .i64))))) hS54 0 rfl)
      refine WL.val (Value.int .i64 ((x46).length : Int)) _ (op_lenL sl_22 (St.rep (t := (Ty.sl (Ty.sl (Ty.sl (Ty.i .i64))))) hS54 0 rfl) rfl) rfl ?_
      refine WL.val (Value.bool (decide ((((a).length : Nat) : Int) < ((x46).length : Int)))) _ (op_lss rfl rfl) rfl ?_
      have hl56 : ¬ (((a).length : Nat) : Int) < ((x46).length : Int) := by omega
      refine WL.nil ?_
      refine W.condF (decide ((((a).length : Nat) : Int) < ((x46).length : Int))) rfl (decide_eq_false hl56) ?_
      refine W.exit ?_
      show _ = _ ∧ _
      exact ⟨rfl, _, hs43, hf49, hr50, (by first | exact hL53 | (simp only [List.length_set]; exact hL53)), hS54⟩
  · rintro f57 wd58 ⟨s60, rfl, hq59⟩
    replace h := onRes_fin h
    obtain ⟨x61, x62⟩ := s60
    replace hq59 : f57 1 = Value.int .i64 x62 ∧ InR .i64 x62 ∧ (x61).length = (a).length ∧ St w0 wd58 [(Ty.sl (Ty.sl (Ty.sl (Ty.i .i64)))).at v_a x61, R] := hq59
    replace h : (_ : Option _) = _ := h
    dsimp only at h
    obtain ⟨hf63, hr64, hL65, hS66⟩ := hq59
    refine W.seq (W.region ?_)
    refine WL.val (Value.int .i64 x62) _ (op_move hf63) rfl ?_
    refine WL.val (Value.int .i64 x62) _ (op_assign rfl) rfl ?_
    refine WL.nil ?_
    refine W.ret ?_
    obtain rfl := Option.some.inj h
    show FinP _ _ _ _ _ _ _
    exact FinP.ret _ (res1 rfl rfl) ⟨rfl, hr64, (St.pick hS66 [0, 1] rfl)⟩

theorem c_laws_markRing {w : World} {a_Table : (List (List (List Int)))} {v_a_Table : Value} {k1 : Int} {w0 : World} {R : Ent} (hS0 : St w0 w [(Ty.sl (Ty.sl (Ty.sl (Ty.i .i64)))).at v_a_Table a_Table, R]) (r_k1 : InR .i64 k1) {res : Int × (List (List (List Int)))} (h : p_laws_markRing a_Table k1  = some res) :
    Ret Tryd.prog 24 #[(Value.agg #[v_a_Table]), (Value.int .i64 k1)] w (fun v w' => v = Value.int .i64 res.1 ∧ InR .i64 res.1 ∧ St w0 w' [(Ty.sl (Ty.sl (Ty.sl (Ty.i .i64)))).at v_a_Table res.2, R]) := by
  unfold p_laws_markRing at h
  refine Ret.start (fn := Tryd.f24) Tryd.func24 rfl 10 rfl rfl ?_
  refine W.seq (W.region ?_)
  refine WL.box hS0 rfl (cs := [v_a_Table]) rfl rfl ?_
  intro b1 wd2 hS3 he4 hx5
  replace hS3 : St w0 wd2 [(Ty.sl (Ty.sl (Ty.sl (Ty.i .i64)))).at v_a_Table a_Table, R, bx b1 [v_a_Table]] := hS3
  refine WL.val (Value.int .i64 (0 : Int)) _ (op_assign rfl) rfl ?_
  refine WL.nil ?_
  refine W.seq (W.region ?_)
  refine WL.val (Value.pointer (some ⟨b1, 0, none⟩)) _ (op_fieldAddr fd_28_0 rfl) rfl ?_
  refine WL.val v_a_Table _ (op_load one_22 rfl (BoxAt.cell (St.boxAt hS3 2 rfl) rfl)) rfl ?_
  refine WL.val (Value.int .i64 k1) _ (op_move rfl) rfl ?_
  obtain ⟨x6, hx7, h⟩ := bs h
  have hS8 := St.fold [(Ty.sl (Ty.sl (Ty.sl (Ty.i .i64)))).at v_a_Table a_Table] [R, bx b1 [v_a_Table]] (St.pick hS3 [0, 1, 2] rfl)
  refine WL.call _ (op_call fn_47 (args2 rfl rfl)) (c_laws_markInt64SSS hS8 r_k1 hx7) rfl ?_
  rintro _ wd11 ⟨rfl, hr12, hS9⟩
  have hS10 := St.pick (St.unfold [(Ty.sl (Ty.sl (Ty.sl (Ty.i .i64)))).at v_a_Table x6.2] [R, bx b1 [v_a_Table]] hS9) [0, 1, 2] rfl
  replace hS10 : St w0 wd11 [(Ty.sl (Ty.sl (Ty.sl (Ty.i .i64)))).at v_a_Table x6.2, R, bx b1 [v_a_Table]] := hS10
  refine WL.val (Value.int .i64 x6.1) _ (op_assign rfl) rfl ?_
  refine WL.nil ?_
  refine W.seq (W.region ?_)
  refine WL.val (Value.int .i64 x6.1) _ (op_move rfl) rfl ?_
  refine WL.val (Value.int .i64 x6.1) _ (op_assign rfl) rfl ?_
  refine WL.nil ?_
  refine W.ret ?_
  obtain rfl := Option.some.inj h
  show FinP _ _ _ _ _ _ _
  exact FinP.ret _ (res1 rfl rfl) ⟨rfl, hr12, (St.pick hS10 [0, 1] rfl)⟩

theorem c_laws_heldInt64S {w : World} {a : (List Int)} {v_a : Value} {k1 : Int} (r_a : (Ty.sl (Ty.i .i64)).rep w v_a a) (r_k1 : InR .i64 k1) {res : Int} (h : p_laws_heldInt64S a k1  = some res) :
    Ret Tryd.prog 26 #[v_a, (Value.int .i64 k1)] w (fun v w' => v = Value.int .i64 res ∧ InR .i64 res ∧ Ext w w') := by
  unfold p_laws_heldInt64S at h
  have hS0 : St w w [] := St.start w
  refine Ret.start (fn := Tryd.f26) Tryd.func26 rfl 21 rfl rfl ?_
  refine W.seq (W.region ?_)
  refine WL.val (Value.int .i64 (0 : Int)) _ (op_assign rfl) rfl ?_
  refine WL.nil ?_
  refine W.seq (W.seq (W.region ?_))
  refine WL.val (Value.int .i64 (0 : Int)) _ (op_assign rfl) rfl ?_
  refine WL.nil ?_
  show W _ _ _ _ _ _
  obtain ⟨res1, hres2, h⟩ := bs h
  refine W.blockLoop (fun fq wq => ∃ s, res1 = Res.fin s ∧ fq 1 = Value.int .i64 s ∧ InR .i64 s ∧ St w wq []) ?_ ?_
  · refine W.forN (fun k (s : Int) fq wq => fq 0 = v_a ∧ fq 1 = Value.int .i64 s ∧ InR .i64 s ∧ fq 5 = Value.int .i64 (k : Int) ∧ InR .i64 (k : Int) ∧ St w wq []) hres2 ⟨rfl, rfl, r_k1, rfl, (inL rfl), hS0⟩ ?_ ?_
    · intro k3 x4 ct5 f6 wd7 hk8 hb9 hI10 hbrk11 hret12
      replace hI10 : f6 0 = v_a ∧ f6 1 = Value.int .i64 x4 ∧ InR .i64 x4 ∧ f6 5 = Value.int .i64 (k3 : Int) ∧ InR .i64 (k3 : Int) ∧ St w wd7 [] := hI10
      replace hb9 : p_laws_heldInt64S_L1 a k3 x4 = some ct5 := hb9
      unfold p_laws_heldInt64S_L1 at hb9
      obtain ⟨hf13, hf14, hr15, hf16, hr17, hS18⟩ := hI10
      refine W.seq (W.seq (W.region ?_))
      refine WL.val (Value.int .i64 (k3 : Int)) _ (op_move hf16) rfl ?_
      refine WL.val v_a _ (op_move hf13) rfl ?_
      have hr19 := inR_len (Ty.lift _ hS18.ext r_a)
      refine WL.val (Value.int .i64 ((a).length : Int)) _ (op_lenL sl_34 (Ty.lift _ hS18.ext r_a) rfl) rfl ?_
      refine WL.val (Value.bool (decide ((k3 : Int) < ((a).length : Int)))) _ (op_lss rfl rfl) rfl ?_
      have hl20 : (k3 : Int) < ((a).length : Int) := by omega
      refine WL.nil ?_
      refine W.condT (decide ((k3 : Int) < ((a).length : Int))) rfl (decide_eq_true hl20) ?_
      refine W.skip ?_
      refine W.seq ?_
      refine W.block ?_
      refine W.seq (W.seq (W.region ?_))
      refine WL.val v_a _ (op_move hf13) rfl ?_
      refine WL.val (Value.int .i64 (k3 : Int)) _ (op_move hf16) rfl ?_
      obtain ⟨x22, hx25, hb9⟩ := bs hb9
      obtain ⟨ha23, hb24, hx25⟩ := idx_some hx25
      refine WL.val (Value.pointer (some (elA v_a ((k3 : Int)).toNat))) _ (op_idx sl_34 (Ty.lift _ hS18.ext r_a) rfl rfl ha23 hb24) rfl ?_
      obtain ⟨u26, hc27, hr28⟩ := repSl.el r_a hx25
      obtain ⟨rfl, hr28⟩ := hr28
      refine WL.val (Value.int .i64 x22) _ (op_load one_2 rfl (Ext.cell hS18.ext hc27)) rfl ?_
      refine WL.val (Value.int .i64 x4) _ (op_move hf14) rfl ?_
      refine WL.val (Value.bool (x22 != x4)) _ (op_neq rfl rfl) rfl ?_
      refine WL.nil ?_
      refine W.cond (x22 != x4) rfl (fun hc29 => ?_) (fun hc29 => ?_)
      · replace hb9 := ip hb9 hc29
        refine W.seq (W.region ?_)
        refine WL.val (Value.int .i64 (-1 : Int)) _ (op_assign rfl) rfl ?_
        refine WL.nil ?_
        refine W.ret ?_
        obtain rfl := Option.some.inj hb9
        obtain rfl := hret12 _ rfl
        replace h := onRes_ret h
        obtain rfl := Option.some.inj h
        show FinP _ _ _ _ _ _ _
        exact FinP.ret _ (res1 rfl rfl) ⟨rfl, (inR_i64.2 (show (-9223372036854775808 : Int) ≤ -1 ∧ (-1 : Int) ≤ 9223372036854775807 from by decide)), hS18.ext⟩
      · replace hb9 := inegb hb9 hc29
        refine W.skip ?_
        show W _ _ _ _ _ _
        refine W.region ?_
        refine WL.val (Value.int .i64 x4) _ (op_move hf14) rfl ?_
        refine WL.val (Value.int .i64 (w64 (x4 + (1 : Int)))) _ (op_add rfl rfl) rfl ?_
        refine WL.val (Value.int .i64 (w64 (x4 + (1 : Int)))) _ (op_assign rfl) rfl ?_
        refine WL.nil ?_
        show W _ _ _ _ _ _
        refine W.region ?_
        refine WL.val (Value.int .i64 (k3 : Int)) _ (op_move hf16) rfl ?_
        refine WL.val (Value.int .i64 (w64 ((k3 : Int) + (1 : Int)))) _ (op_add rfl rfl) rfl ?_
        refine WL.val (Value.int .i64 (w64 ((k3 : Int) + (1 : Int)))) _ (op_assign rfl) rfl ?_
        refine WL.nil ?_
        obtain rfl := Option.some.inj hb9
        show ∃ s, _ = Ctl.next s ∧ _
        exact ⟨_, rfl, hf13, rfl, (inR_wrap _ _), (ctr_next hl20 hr19), (ctr_rng hl20 hr19), hS18⟩
    · intro x37 f32 wd33 hs34 hI35
      replace hI35 : f32 0 = v_a ∧ f32 1 = Value.int .i64 x37 ∧ InR .i64 x37 ∧ f32 5 = Value.int .i64 (((a).length : Nat) : Int) ∧ InR .i64 (((a).length : Nat) : Int) ∧ St w wd33 [] := hI35
      obtain ⟨hf38, hf39, hr40, hf41, hr42, hS43⟩ := hI35
      refine W.seq (W.seq (W.region ?_))
      refine WL.val (Value.int .i64 (((a).length : Nat) : Int)) _ (op_move hf41) rfl ?_
      refine WL.val v_a _ (op_move hf38) rfl ?_
      have hr44 := inR_len (Ty.lift _ hS43.ext r_a)
      refine WL.val (Value.int .i64 ((a).length : Int)) _ (op_lenL sl_34 (Ty.lift _ hS43.ext r_a) rfl) rfl ?_
      refine WL.val (Value.bool (decide ((((a).length : Nat) : Int) < ((a).length : Int)))) _ (op_lss rfl rfl) rfl ?_
      have hl45 : ¬ (((a).length : Nat) : Int) < ((a).length : Int) := by omega
      refine WL.nil ?_
      refine W.condF (decide ((((a).length : Nat) : Int) < ((a).length : Int))) rfl (decide_eq_false hl45) ?_
      refine W.exit ?_
      show _ = _ ∧ _
      exact ⟨rfl, _, hs34, hf39, hr40, hS43⟩
  · rintro f46 wd47 ⟨x50, rfl, hq48⟩
    replace h := onRes_fin h
    replace hq48 : f46 1 = Value.int .i64 x50 ∧ InR .i64 x50 ∧ St w wd47 [] := hq48
    obtain ⟨hf51, hr52, hS53⟩ := hq48
    refine W.seq (W.region ?_)
    refine WL.val (Value.int .i64 x50) _ (op_move hf51) rfl ?_
    refine WL.val (Value.int .i64 x50) _ (op_assign rfl) rfl ?_
    refine WL.nil ?_
    refine W.ret ?_
    obtain rfl := Option.some.inj h
    show FinP _ _ _ _ _ _ _
    exact FinP.ret _ (res1 rfl rfl) ⟨rfl, hr52, hS53.ext⟩

theorem c_spec_CosetsOf {w : World} {r_Table : (List (List (List Int)))} {v_r_Table : Value} {set : Int} (r_r_Table : (Ty.sl (Ty.sl (Ty.sl (Ty.i .i64)))).rep w v_r_Table r_Table) (r_set : InR .i64 set) {res : (List Int) × Int} (h : p_spec_CosetsOf r_Table set  = some res) :
    Ret Tryd.prog 27 #[(Value.agg #[v_r_Table]), (Value.int .i64 set)] w (fun v w' => ∃ (u0 : Value), v = (Value.tuple #[u0, Value.int .i64 res.2]) ∧ InR .i64 res.2 ∧ Ext w w' ∧ Sep w.heap.size w' [(Ty.sl (Ty.i .i64)).at u0 res.1]) := by
  unfold p_spec_CosetsOf at h
  have hS0 : St w w [] := St.start w
  refine Ret.start (fn := Tryd.f27) Tryd.func27 rfl 22 rfl rfl ?_
  refine W.seq (W.region ?_)
  refine WL.box hS0 rfl (cs := [v_r_Table]) rfl rfl ?_
  intro b1 wd2 hS3 he4 hx5
  replace hS3 : St w wd2 [bx b1 [v_r_Table]] := hS3
  have hx6 := St.boxAt hS3 0 rfl
  have hE7 : Ext w wd2 := hS3.ext
  have hS8 : St wd2 wd2 [] := St.start wd2
  refine WL.val (Value.slice none 0 0) _ (op_assign rfl) rfl ?_
  refine WL.val (Value.int .i64 (0 : Int)) _ (op_assign rfl) rfl ?_
  refine WL.nil ?_
  refine W.seq (W.region ?_)
  refine WL.val (Value.agg #[v_r_Table]) _ (op_loadBox st_28 rfl (BoxAt.lift hS8.ext hx6) rfl rfl) rfl ?_
  refine WL.val (Value.int .i64 set) _ (op_move rfl) rfl ?_
  obtain ⟨x9, hx10, h⟩ := bs h
  refine WL.call _ (op_call fn_36 (args2 rfl rfl)) (c_spec_l05Code (Ty.lift _ (Ext.trans hE7 hS8.ext) r_r_Table) r_set hx10) rfl ?_
  rintro _ wd12 ⟨rfl, hr11, he13⟩
  have hS15 := St.extend hS8 he13
  replace hS15 : St wd2 wd12 [] := hS15
  refine WL.val (Value.int .i64 x9) _ (op_assign rfl) rfl ?_
  refine WL.nil ?_
  refine W.seq ?_
  refine W.block ?_
  refine W.seq (W.region ?_)
  refine WL.val (Value.int .i64 x9) _ (op_move rfl) rfl ?_
  refine WL.val (Value.bool (x9 != (0 : Int))) _ (op_neq rfl rfl) rfl ?_
  refine WL.val (Value.bool (x9 != (0 : Int))) _ (op_assign rfl) rfl ?_
  refine WL.nil ?_
  refine W.cond (x9 != (0 : Int)) rfl (fun hc16 => ?_) (fun hc16 => ?_)
  · replace h := ip h hc16
    refine W.seq (W.region ?_)
    refine WL.val (Value.int .i64 x9) _ (op_move rfl) rfl ?_
    refine WL.val (Value.slice none 0 0) _ (op_assign rfl) rfl ?_
    refine WL.val (Value.int .i64 x9) _ (op_assign rfl) rfl ?_
    refine WL.nil ?_
    refine W.ret ?_
    obtain rfl := Option.some.inj h
    show FinP _ _ _ _ _ _ _
    exact FinP.ret _ (res2 rfl rfl rfl) ⟨(Value.slice none 0 0), rfl, hr11, (Ext.trans hE7 hS15.ext), (St.out (St.pick (St.addNil (Ty.i .i64) hS15) [0] rfl) (hE7))⟩
  · replace h := inegb h hc16
    refine W.seq (W.region ?_)
    refine WL.val (Value.agg #[v_r_Table]) _ (op_loadBox st_28 rfl (BoxAt.lift hS15.ext hx6) rfl rfl) rfl ?_
    refine WL.val (Value.int .i64 set) _ (op_move rfl) rfl ?_
    obtain ⟨x18, hx19, h⟩ := bs h
    refine WL.call _ (op_call fn_37 (args2 rfl rfl)) (c_spec_l05Is (Ty.lift _ (Ext.trans hE7 hS15.ext) r_r_Table) r_set hx19) rfl ?_
    rintro _ wd20 ⟨rfl, he21⟩
    have hS23 := St.extend hS15 he21
    replace hS23 : St wd2 wd20 [] := hS23
    refine WL.val (Value.bool (!x18)) _ (op_not rfl) rfl ?_
    refine WL.val (Value.bool (!x18)) _ (op_assign rfl) rfl ?_
    refine WL.nil ?_
    refine W.cond (!x18) rfl (fun hc24 => ?_) (fun hc24 => ?_)
    · replace h := ip h hc24
      refine W.seq (W.region ?_)
      refine WL.val (Value.slice none 0 0) _ (op_assign rfl) rfl ?_
      refine WL.val (Value.int .i64 (5 : Int)) _ (op_assign rfl) rfl ?_
      refine WL.nil ?_
      refine W.ret ?_
      obtain rfl := Option.some.inj h
      show FinP _ _ _ _ _ _ _
      exact FinP.ret _ (res2 rfl rfl rfl) ⟨(Value.slice none 0 0), rfl, (inL rfl), (Ext.trans hE7 hS23.ext), (St.out (St.pick (St.addNil (Ty.i .i64) hS23) [0] rfl) (hE7))⟩
    · replace h := inegb h hc24
      refine W.skip ?_
      refine W.seq (W.region ?_)
      refine WL.val (Value.agg #[v_r_Table]) _ (op_loadBox st_28 rfl (BoxAt.lift hS23.ext hx6) rfl rfl) rfl ?_
      refine WL.val (Value.int .i64 set) _ (op_move rfl) rfl ?_
      obtain ⟨x26, hx27, h⟩ := bs h
      refine WL.call _ (op_call fn_45 (args2 rfl rfl)) (c_spec_l05Cosets (Ty.lift _ (Ext.trans hE7 hS23.ext) r_r_Table) r_set hx27) rfl ?_
      rintro u28 wd29 ⟨_, rfl, he30, hs31⟩
      have hS32 := St.join hS23 he30 hs31
      replace hS32 : St wd2 wd29 [(Ty.sl (Ty.i .i64)).at u28 x26] := hS32
      refine WL.val u28 _ (op_assign rfl) rfl ?_
      refine WL.val (Value.int .i64 (0 : Int)) _ (op_assign rfl) rfl ?_
      refine WL.nil ?_
      refine W.ret ?_
      obtain rfl := Option.some.inj h
      show FinP _ _ _ _ _ _ _
      exact FinP.ret _ (res2 rfl rfl rfl) ⟨u28, rfl, (inL rfl), (Ext.trans hE7 hS32.ext), (St.out (St.pick hS32 [0] rfl) (hE7))⟩

theorem c_impl_CosetsOf_c1 {w : World} {i : Int} {j : Int} {b_c0 : Nat} {c0 : Int} {b_c1 : Nat} {c1 : (List (List Int))} {v_c1 : Value} (tb : TabAt w) (r_i : InR .i64 i) (r_j : InR .i64 j) (k_c0 : BoxAt w b_c0 [(Value.int .i64 c0)]) (r_c0 : InR .i64 c0) (k_c1 : BoxAt w b_c1 [v_c1]) (r_c1 : (Ty.sl (Ty.sl (Ty.i .i64))).rep w v_c1 c1) {res : Bool} (h : p_impl_CosetsOf_c1 i j c0 c1 = some res) :
    Ret Tryd.prog 50 #[(Value.int .i64 i), (Value.int .i64 j), (Value.pointer (some ⟨b_c0, 0, none⟩)), (Value.pointer (some ⟨b_c1, 0, none⟩))] w (fun v w' => v = Value.bool res ∧ Ext w w') := by
  unfold p_impl_CosetsOf_c1 at h
  have hS0 : St w w [] := St.start w
  refine Ret.start (fn := Tryd.f50) Tryd.func50 rfl 28 rfl rfl ?_
  refine W.seq (W.region ?_)
  refine WL.val (Value.bool false) _ (op_assign rfl) rfl ?_
  refine WL.nil ?_
  refine W.seq (W.seq (W.region ?_))
  refine WL.val (Value.int .i64 c0) _ (op_load one_2 rfl (BoxAt.cell (BoxAt.lift hS0.ext k_c0) rfl)) rfl ?_
  obtain ⟨x1, hx2, h⟩ := bs h
  refine WL.call _ (op_call fn_51 (args1 rfl)) (c_impl_labelsIn (tb.ext hS0.ext) r_c0 hx2) rfl ?_
  rintro u3 wd4 ⟨_, rfl, he5, hs6⟩
  have hS7 := St.join hS0 he5 hs6
  replace hS7 : St w wd4 [(Ty.sl (Ty.i .i64)).at u3 x1] := hS7
  have hb8 := St.rep (t := (Ty.sl (Ty.i .i64))) hS7 0 rfl
  have hE9 : Ext w wd4 := hS7.ext
  have hS10 : St wd4 wd4 [] := St.start wd4
  have hr11 := inR_len (Ty.lift _ hS10.ext hb8)
  refine WL.val (Value.int .i64 ((x1).length : Int)) _ (op_lenL sl_63 (Ty.lift _ hS10.ext hb8) rfl) rfl ?_
  refine WL.val (Value.int .i64 (0 : Int)) _ (op_move rfl) rfl ?_
  refine WL.nil ?_
  show W _ _ _ _ _ _
  obtain ⟨res12, hres13, h⟩ := bs h
  refine W.blockLoop (fun fq wq => ∃ s, res12 = Res.fin s ∧ St wd4 wq []) ?_ ?_
  · refine W.forN (fun k (s : Unit) fq wq => fq 0 = (Value.int .i64 i) ∧ fq 1 = (Value.int .i64 j) ∧ fq 3 = (Value.pointer (some ⟨b_c1, 0, none⟩)) ∧ fq 10 = u3 ∧ fq 11 = (Value.int .i64 ((x1).length : Int)) ∧ fq 12 = Value.int .i64 (k : Int) ∧ InR .i64 (k : Int) ∧ St wd4 wq []) hres13 ⟨rfl, rfl, rfl, rfl, rfl, rfl, (inL rfl), hS10⟩ ?_ ?_
    · intro k14 s60 ct15 f16 wd17 hk18 hb19 hI20 hbrk21 hret22
      obtain ⟨⟩ := s60
      replace hI20 : f16 0 = (Value.int .i64 i) ∧ f16 1 = (Value.int .i64 j) ∧ f16 3 = (Value.pointer (some ⟨b_c1, 0, none⟩)) ∧ f16 10 = u3 ∧ f16 11 = (Value.int .i64 ((x1).length : Int)) ∧ f16 12 = Value.int .i64 (k14 : Int) ∧ InR .i64 (k14 : Int) ∧ St wd4 wd17 [] := hI20
      replace hb19 : p_impl_CosetsOf_c1_L1 x1 c1 i j k14  = some ct15 := hb19
      unfold p_impl_CosetsOf_c1_L1 at hb19
      obtain ⟨hf23, hf24, hf25, hf26, hf27, hf28, hr29, hS30⟩ := hI20
      refine W.seq (W.region ?_)
      refine WL.val (Value.bool (decide ((k14 : Int) < ((x1).length : Int)))) _ (op_lss hf28 hf27) rfl ?_
      have hl31 : (k14 : Int) < ((x1).length : Int) := by omega
      refine WL.nil ?_
      refine W.seq ?_
      refine W.condT (decide ((k14 : Int) < ((x1).length : Int))) rfl (decide_eq_true hl31) ?_
      refine W.skip ?_
      refine W.seq ?_
      refine W.block ?_
      refine W.seq (W.region ?_)
      obtain ⟨x33, hx36, hb19⟩ := bs hb19
      obtain ⟨ha34, hb35, hx36⟩ := idx_some hx36
      refine WL.val (Value.pointer (some (elA u3 ((k14 : Int)).toNat))) _ (op_idx sl_63 (Ty.lift _ hS30.ext hb8) hf26 hf28 ha34 hb35) rfl ?_
      obtain ⟨u37, hc38, hr39⟩ := repSl.el hb8 hx36
      obtain ⟨rfl, hr39⟩ := hr39
      refine WL.val (Value.int .i64 x33) _ (op_load one_3 rfl (Ext.cell hS30.ext hc38)) rfl ?_
      refine WL.val (Value.int .i64 x33) _ (op_assign rfl) rfl ?_
      refine WL.nil ?_
      refine W.seq (W.region ?_)
      refine WL.val v_c1 _ (op_load one_60 hf25 (BoxAt.cell (BoxAt.lift (Ext.trans hE9 hS30.ext) k_c1) rfl)) rfl ?_
      refine WL.val (Value.int .i64 i) _ (op_move hf23) rfl ?_
      obtain ⟨x40, hx43, hb19⟩ := bs hb19
      obtain ⟨ha41, hb42, hx43⟩ := idx_some hx43
      refine WL.val (Value.pointer (some (elA v_c1 (i).toNat))) _ (op_idx sl_60 (Ty.lift _ (Ext.trans hE9 hS30.ext) r_c1) rfl rfl ha41 hb42) rfl ?_
      obtain ⟨u44, hc45, hr46⟩ := repSl.el r_c1 hx43
      refine WL.val u44 _ (op_load one_34 rfl (Ext.cell (Ext.trans hE9 hS30.ext) hc45)) rfl ?_
      refine WL.val (Value.int .i64 x33) _ (op_move rfl) rfl ?_
      obtain ⟨x47, hx50, hb19⟩ := bs hb19
      obtain ⟨ha48, hb49, hx50⟩ := idx_some hx50
      refine WL.val (Value.pointer (some (elA u44 (x33).toNat))) _ (op_idx sl_34 (Ty.lift _ (Ext.trans hE9 hS30.ext) hr46) rfl rfl ha48 hb49) rfl ?_
      obtain ⟨u51, hc52, hr53⟩ := repSl.el hr46 hx50
      obtain ⟨rfl, hr53⟩ := hr53
      refine WL.val (Value.int .i64 x47) _ (op_load one_2 rfl (Ext.cell (Ext.trans hE9 hS30.ext) hc52)) rfl ?_
      refine WL.val (Value.int .i64 j) _ (op_move hf24) rfl ?_
      obtain ⟨x54, hz55, hb19⟩ := bs hb19
      obtain ⟨h056, hz55⟩ := shrI_some hz55
      have hr57 : InR .i64 x54 := by rw [hz55]; exact inR_fdiv _ hr53
      refine WL.val (Value.int .i64 x54) _ (by rw [hz55]; exact op_shr rfl rfl h056) rfl ?_
      refine WL.val (Value.int .i64 (andI .i64 x54 (1 : Int))) _ (op_and rfl rfl) rfl ?_
      refine WL.val (Value.bool ((andI .i64 x54 (1 : Int)) == (1 : Int))) _ (op_eql rfl rfl) rfl ?_
      refine WL.nil ?_
      refine W.cond ((andI .i64 x54 (1 : Int)) == (1 : Int)) rfl (fun hc58 => ?_) (fun hc58 => ?_)
      · replace hb19 := ip hb19 hc58
        refine W.seq (W.region ?_)
        refine WL.val (Value.bool true) _ (op_assign rfl) rfl ?_
        refine WL.nil ?_
        refine W.ret ?_
        obtain rfl := Option.some.inj hb19
        obtain rfl := hret22 _ rfl
        replace h := onRes_ret h
        obtain rfl := Option.some.inj h
        show FinP _ _ _ _ _ _ _
        exact FinP.ret _ (res1 rfl rfl) ⟨rfl, (Ext.trans hE9 hS30.ext)⟩
      · replace hb19 := inegb hb19 hc58
        refine W.skip ?_
        show W _ _ _ _ _ _
        refine W.region ?_
        refine WL.val (Value.int .i64 (w64 ((k14 : Int) + (1 : Int)))) _ (op_add hf28 rfl) rfl ?_
        refine WL.val (Value.int .i64 (w64 ((k14 : Int) + (1 : Int)))) _ (op_move rfl) rfl ?_
        refine WL.nil ?_
        obtain rfl := Option.some.inj hb19
        show ∃ s, _ = Ctl.next s ∧ _
        exact ⟨_, rfl, hf23, hf24, hf25, hf26, hf27, (ctr_next hl31 hr11), (ctr_rng hl31 hr11), hS30⟩
    · intro s65 f61 wd62 hs63 hI64
      obtain ⟨⟩ := s65
      replace hI64 : f61 0 = (Value.int .i64 i) ∧ f61 1 = (Value.int .i64 j) ∧ f61 3 = (Value.pointer (some ⟨b_c1, 0, none⟩)) ∧ f61 10 = u3 ∧ f61 11 = (Value.int .i64 ((x1).length : Int)) ∧ f61 12 = Value.int .i64 (((x1).length : Nat) : Int) ∧ InR .i64 (((x1).length : Nat) : Int) ∧ St wd4 wd62 [] := hI64
      obtain ⟨hf66, hf67, hf68, hf69, hf70, hf71, hr72, hS73⟩ := hI64
      refine W.seq (W.region ?_)
      refine WL.val (Value.bool (decide ((((x1).length : Nat) : Int) < ((x1).length : Int)))) _ (op_lss hf71 hf70) rfl ?_
      have hl74 : ¬ (((x1).length : Nat) : Int) < ((x1).length : Int) := by omega
      refine WL.nil ?_
      refine W.seq ?_
      refine W.condF (decide ((((x1).length : Nat) : Int) < ((x1).length : Int))) rfl (decide_eq_false hl74) ?_
      refine W.exit ?_
      show _ = _ ∧ _
      exact ⟨rfl, _, hs63, hS73⟩
  · rintro f75 wd76 ⟨s78, rfl, hq77⟩
    replace h := onRes_fin h
    obtain ⟨⟩ := s78
    replace hq77 : St wd4 wd76 [] := hq77
    have hS79 := hq77
    refine W.seq (W.region ?_)
    refine WL.val (Value.bool false) _ (op_assign rfl) rfl ?_
    refine WL.nil ?_
    refine W.ret ?_
    obtain rfl := Option.some.inj h
    show FinP _ _ _ _ _ _ _
    exact FinP.ret _ (res1 rfl rfl) ⟨rfl, (Ext.trans hE9 hS79.ext)⟩

theorem c_impl_CosetsOf {w : World} {r_Table : (List (List (List Int)))} {v_r_Table : Value} {set : Int} (tb : TabAt w) (r_r_Table : (Ty.sl (Ty.sl (Ty.sl (Ty.i .i64)))).rep w v_r_Table r_Table) (r_set : InR .i64 set) {res : (List Int) × Int} (h : p_impl_CosetsOf r_Table set  = some res) :
    Ret Tryd.prog 28 #[(Value.agg #[v_r_Table]), (Value.int .i64 set)] w (fun v w' => ∃ (u0 : Value), v = (Value.tuple #[u0, Value.int .i64 res.2]) ∧ InR .i64 res.2 ∧ Ext w w' ∧ Sep w.heap.size w' [(Ty.sl (Ty.i .i64)).at u0 res.1]) := by
  unfold p_impl_CosetsOf at h
  have hS0 : St w w [] := St.start w
  refine Ret.start (fn := Tryd.f28) Tryd.func28 rfl 24 rfl rfl ?_
  refine W.seq (W.region ?_)
  refine WL.box hS0 rfl (cs := [v_r_Table]) rfl rfl ?_
  intro b1 wd2 hS3 he4 hx5
  replace hS3 : St w wd2 [bx b1 [v_r_Table]] := hS3
  have hx6 := St.boxAt hS3 0 rfl
  have hE7 : Ext w wd2 := hS3.ext
  have hS8 : St wd2 wd2 [] := St.start wd2
  refine WL.box hS8 rfl (cs := [(Value.int .i64 set)]) rfl rfl ?_
  intro b9 wd10 hS11 he12 hx13
  replace hS11 : St wd2 wd10 [bx b9 [(Value.int .i64 set)]] := hS11
  have hx14 := St.boxAt hS11 0 rfl
  have hE15 : Ext w wd10 := (Ext.trans hE7 hS11.ext)
  have hE16 : Ext wd2 wd10 := hS11.ext
  have hS17 : St wd10 wd10 [] := St.start wd10
  refine WL.val (Value.slice none 0 0) _ (op_assign rfl) rfl ?_
  refine WL.val (Value.int .i64 (0 : Int)) _ (op_assign rfl) rfl ?_
  refine WL.nil ?_
  refine W.seq (W.seq (W.region ?_))
  refine WL.val (Value.agg #[v_r_Table]) _ (op_loadBox st_28 rfl (BoxAt.lift (Ext.trans hE16 hS17.ext) hx6) rfl rfl) rfl ?_
  refine WL.val (Value.int .i64 set) _ (op_load one_2 rfl (BoxAt.cell (BoxAt.lift hS17.ext hx14) rfl)) rfl ?_
  obtain ⟨x18, hx19, h⟩ := bs h
  refine WL.call _ (op_call fn_38 (args2 rfl rfl)) (c_impl_setCode (Ty.lift _ (Ext.trans hE15 hS17.ext) r_r_Table) r_set hx19) rfl ?_
  rintro _ wd21 ⟨rfl, hr20, he22⟩
  have hS24 := St.extend hS17 he22
  replace hS24 : St wd10 wd21 [] := hS24
  refine WL.val (Value.int .i64 x18) _ (op_assign rfl) rfl ?_
  refine WL.nil ?_
  refine W.seq (W.region ?_)
  refine WL.val (Value.int .i64 x18) _ (op_move rfl) rfl ?_
  refine WL.val (Value.bool (x18 != (0 : Int))) _ (op_neq rfl rfl) rfl ?_
  refine WL.nil ?_
  refine W.cond (x18 != (0 : Int)) rfl (fun hc25 => ?_) (fun hc25 => ?_)
  · replace h := ip h hc25
    refine W.seq (W.region ?_)
    refine WL.val (Value.int .i64 x18) _ (op_move rfl) rfl ?_
    refine WL.val (Value.slice none 0 0) _ (op_assign rfl) rfl ?_
    refine WL.val (Value.int .i64 x18) _ (op_assign rfl) rfl ?_
    refine WL.nil ?_
    refine W.ret ?_
    obtain rfl := Option.some.inj h
    show FinP _ _ _ _ _ _ _
    exact FinP.ret _ (res2 rfl rfl rfl) ⟨(Value.slice none 0 0), rfl, hr20, (Ext.trans hE15 hS24.ext), (St.out (St.pick (St.addNil (Ty.i .i64) hS24) [0] rfl) (hE15))⟩
  · replace h := inegb h hc25
    refine W.skip ?_
    refine W.seq (W.seq ?_)
    obtain ⟨x56, hx57, h⟩ := bs h
    refine W.drawR mixo 4 [] [fun _ v S w' => v = (Value.agg #[v_r_Table]), fun _ v _ _ => v = (Value.int .i64 set) ∧ InR .i64 set, fun _ v _ _ => v = (Value.int .i64 x56) ∧ InR .i64 x56, fun _ v _ _ => v = (Value.int .i64 set) ∧ InR .i64 set] (by kernel_rfl) (by kernel_rfl) ⟨pk, pk, pk, pk, trivial⟩ ⟨?_, ?_, ?_, ?_, trivial⟩ ?_
    · refine ObX.op rfl fun f27 wd28 he29 hout30 hphi31 => ?_
      have hS32 := St.extend hS24 he29
      have e33 : f27 2 = (Value.pointer (some ⟨b1, 0, none⟩)) := (hout30 2 rfl).trans rfl
      exact OpX.val (Value.agg #[v_r_Table]) wd28 rfl (op_loadBox st_28 e33 (BoxAt.lift (Ext.trans hE16 hS32.ext) hx6) rfl rfl) (Ext.refl _) rfl
    · refine ObX.op rfl fun f34 wd35 he36 hout37 hphi38 => ?_
      have hS39 := St.extend hS24 he36
      have e40 : f34 3 = (Value.pointer (some ⟨b9, 0, none⟩)) := (hout37 3 rfl).trans rfl
      exact OpX.val (Value.int .i64 set) wd35 rfl (op_load one_2 e40 (BoxAt.cell (BoxAt.lift hS39.ext hx14) rfl)) (Ext.refl _) ⟨rfl, r_set⟩
    · refine ObX.op rfl fun f41 wd42 he43 hout44 hphi45 => ?_
      have hS46 := St.extend hS24 he43
      obtain ⟨S47, hS48, hf49⟩ := hphi45 0 14 _ rfl rfl rfl
      have e50 : f41 14 = (Value.agg #[v_r_Table]) := hf49
      obtain ⟨S51, hS52, hf53⟩ := hphi45 1 15 _ rfl rfl rfl
      obtain ⟨e54, hr55⟩ := hf53
      refine OpX.call rfl (op_call fn_39 (args2 e50 e54)) (Ret.mono (c_impl_Ring_closed (tb.ext (Ext.trans hE15 hS46.ext)) (Ty.lift _ (Ext.trans hE15 hS46.ext) r_r_Table) hr55 hx57) ?_)
      rintro _ wd59 ⟨rfl, hr58, he60⟩
      exact ⟨he60, _, noS _ _, ⟨rfl, hr58⟩⟩
    · refine ObX.op rfl fun f62 wd63 he64 hout65 hphi66 => ?_
      have hS67 := St.extend hS24 he64
      have e68 : f62 3 = (Value.pointer (some ⟨b9, 0, none⟩)) := (hout65 3 rfl).trans rfl
      exact OpX.val (Value.int .i64 set) wd63 rfl (op_load one_2 e68 (BoxAt.cell (BoxAt.lift hS67.ext hx14) rfl)) (Ext.refl _) ⟨rfl, r_set⟩
    · intro f69 wd70 Ss71 he72 hout73 hSn74 hSd75 hphi76
      show WL _ _ _ _ _ _ _
      have hS77 := St.extend hS24 he72
      obtain ⟨e78, hr79⟩ := hphi76 2 16 _ (by decide) rfl rfl
      obtain ⟨e80, hr81⟩ := hphi76 3 17 _ (by decide) rfl rfl
      have e82 : f69 2 = (Value.pointer (some ⟨b1, 0, none⟩)) := (hout73 2 rfl).trans rfl
      have e83 : f69 3 = (Value.pointer (some ⟨b9, 0, none⟩)) := (hout73 3 rfl).trans rfl
      refine WL.val (Value.bool (x56 != set)) _ (op_neq e78 e80) rfl ?_
      refine WL.nil ?_
      refine W.cond (x56 != set) rfl (fun hc84 => ?_) (fun hc84 => ?_)
      · replace h := ip h hc84
        refine W.seq (W.region ?_)
        refine WL.val (Value.slice none 0 0) _ (op_assign rfl) rfl ?_
        refine WL.val (Value.int .i64 (5 : Int)) _ (op_assign rfl) rfl ?_
        refine WL.nil ?_
        refine W.ret ?_
        obtain rfl := Option.some.inj h
        show FinP _ _ _ _ _ _ _
        exact FinP.ret _ (res2 rfl rfl rfl) ⟨(Value.slice none 0 0), rfl, (inL rfl), (Ext.trans hE15 hS77.ext), (St.out (St.pick (St.addNil (Ty.i .i64) hS77) [0] rfl) (hE15))⟩
      · replace h := inegb h hc84
        refine W.skip ?_
        refine W.seq (W.region ?_)
        refine WL.val (Value.agg #[v_r_Table]) _ (op_loadBox st_28 e82 (BoxAt.lift (Ext.trans hE16 hS77.ext) hx6) rfl rfl) rfl ?_
        obtain ⟨x86, hx87, h⟩ := bs h
        refine WL.call _ (op_call fn_48 (args1 rfl)) (c_impl_Ring_supports (Ty.lift _ (Ext.trans hE15 hS77.ext) r_r_Table) hx87) rfl ?_
        rintro u88 wd89 ⟨_, rfl, he90, hs91⟩
        have hS92 := St.join hS77 he90 hs91
        replace hS92 : St wd10 wd89 [(Ty.sl (Ty.sl (Ty.i .i64))).at u88 x86] := hS92
        refine WL.alloc hS92 ze_60 (cs := [(Value.slice none 0 0)]) rfl rfl ?_
        intro b93 wd94 hS95 he96
        replace hS95 : St wd10 wd94 [(Ty.sl (Ty.sl (Ty.i .i64))).at u88 x86, bx b93 [(Value.slice none 0 0)]] := hS95
        refine WL.storeBox [u88] hS95 (k := 1) rfl rfl rfl (us := [u88]) (cells_rep (St.rep (t := (Ty.sl (Ty.sl (Ty.i .i64)))) hS95 0 rfl)) sz_60 rfl rfl (all_rep (St.rep (t := (Ty.sl (Ty.sl (Ty.i .i64)))) hS95 0 rfl) all_nil) rfl ?_
        intro wd97 hS98
        replace hS98 : St wd10 wd97 [(Ty.sl (Ty.sl (Ty.i .i64))).at u88 x86, bx b93 [u88]] := hS98
        refine WL.nil ?_
        refine W.seq (W.region ?_)
        refine WL.val (Value.agg #[v_r_Table]) _ (op_loadBox st_28 e82 (BoxAt.lift (Ext.trans hE16 hS98.ext) hx6) rfl rfl) rfl ?_
        refine WL.val (Value.func (.func 50) #[] #[(Value.pointer (some ⟨b9, 0, none⟩)), (Value.pointer (some ⟨b93, 0, none⟩))]) _ (op_makeFunc (va := #[]) (vb := #[(Value.pointer (some ⟨b9, 0, none⟩)), (Value.pointer (some ⟨b93, 0, none⟩))]) args0 (args2 e83 rfl)) rfl ?_
        obtain ⟨x103, hx104, h⟩ := bs h
        refine WL.call _ (op_call fn_49 (args2 rfl rfl)) (c_impl_Ring_classes (Ty.lift _ (Ext.trans hE15 hS98.ext) r_r_Table) (⟨50, #[], #[(Value.pointer (some ⟨b9, 0, none⟩)), (Value.pointer (some ⟨b93, 0, none⟩))], rfl, fn_50, fun wd99 a0_100 a1_100 r101 he100 ra0_100 ra1_100 hq102 => c_impl_CosetsOf_c1 (tb.ext (Ext.trans (Ext.trans hE15 hS98.ext) he100)) ra0_100 ra1_100 (BoxAt.lift (Ext.trans hS98.ext he100) hx14) r_set (BoxAt.lift he100 (St.boxAt hS98 1 rfl)) (Ty.lift _ he100 (St.rep (t := (Ty.sl (Ty.sl (Ty.i .i64)))) hS98 0 rfl)) hq102⟩) hx104) rfl ?_
        rintro u105 wd106 ⟨_, rfl, he107, hs108⟩
        have hS109 := St.join hS98 he107 hs108
        replace hS109 : St wd10 wd106 [(Ty.sl (Ty.sl (Ty.i .i64))).at u88 x86, bx b93 [u88], (Ty.sl (Ty.i .i64)).at u105 x103] := hS109
        refine WL.val u105 _ (op_assign rfl) rfl ?_
        refine WL.val (Value.int .i64 (0 : Int)) _ (op_assign rfl) rfl ?_
        refine WL.nil ?_
        refine W.ret ?_
        obtain rfl := Option.some.inj h
        show FinP _ _ _ _ _ _ _
        exact FinP.ret _ (res2 rfl rfl rfl) ⟨u105, rfl, (inL rfl), (Ext.trans hE15 hS109.ext), (St.out (St.pick hS109 [2] rfl) (hE15))⟩

theorem c_laws_FnExactCosetsOf {w : World} {aR_Table : (List (List (List Int)))} {v_aR_Table : Value} {aSet : Int} (tb : TabAt w) (r_aR_Table : (Ty.sl (Ty.sl (Ty.sl (Ty.i .i64)))).rep w v_aR_Table aR_Table) (r_aSet : InR .i64 aSet) {res : Bool} (h : p_laws_FnExactCosetsOf aR_Table aSet  = some res) :
    Ret Tryd.prog 8 #[(Value.agg #[v_aR_Table]), (Value.int .i64 aSet)] w (fun v w' => v = Value.bool res ∧ Ext w w') := by
  unfold p_laws_FnExactCosetsOf at h
  have hS0 : St w w [] := St.start w
  refine Ret.start (fn := Tryd.f8) Tryd.func8 rfl 101 rfl rfl ?_
  refine W.seq (W.region ?_)
  refine WL.box hS0 rfl (cs := [v_aR_Table]) rfl rfl ?_
  intro b1 wd2 hS3 he4 hx5
  replace hS3 : St w wd2 [bx b1 [v_aR_Table]] := hS3
  have hx6 := St.boxAt hS3 0 rfl
  have hE7 : Ext w wd2 := hS3.ext
  have hS8 : St wd2 wd2 [] := St.start wd2
  refine WL.val (Value.bool false) _ (op_assign rfl) rfl ?_
  refine WL.nil ?_
  refine W.seq (W.region ?_)
  refine WL.val (Value.int .i64 (1048576 : Int)) _ (op_assign rfl) rfl ?_
  refine WL.nil ?_
  refine W.seq (W.region ?_)
  refine WL.val (Value.agg #[v_aR_Table]) _ (op_loadBox st_24 rfl (BoxAt.lift hS8.ext hx6) rfl rfl) rfl ?_
  refine WL.val (Value.int .i64 (1048576 : Int)) _ (op_move rfl) rfl ?_
  obtain ⟨x9, hx10, h⟩ := bs h
  refine WL.call _ (op_call fn_9 (args2 rfl rfl)) (c_laws_szRing (Ty.lift _ (Ext.trans hE7 hS8.ext) r_aR_Table) (inL rfl) hx10) rfl ?_
  rintro _ wd12 ⟨rfl, hr11, he13⟩
  have hS15 := St.extend hS8 he13
  replace hS15 : St wd2 wd12 [] := hS15
  refine WL.val (Value.int .i64 x9) _ (op_assign rfl) rfl ?_
  refine WL.nil ?_
  refine W.seq (W.seq (W.region ?_))
  refine WL.val (Value.int .i64 x9) _ (op_move rfl) rfl ?_
  refine WL.val (Value.bool (decide (x9 < (0 : Int)))) _ (op_lss rfl rfl) rfl ?_
  refine WL.nil ?_
  refine W.cond (decide (x9 < (0 : Int))) rfl (fun hc16 => ?_) (fun hc16 => ?_)
  · replace h := ip h hc16
    refine W.seq (W.region ?_)
    refine WL.val (Value.bool true) _ (op_assign rfl) rfl ?_
    refine WL.nil ?_
    refine W.ret ?_
    obtain rfl := Option.some.inj h
    show FinP _ _ _ _ _ _ _
    exact FinP.ret _ (res1 rfl rfl) ⟨rfl, (Ext.trans hE7 hS15.ext)⟩
  · replace h := inegb h hc16
    refine W.skip ?_
    refine W.seq (W.region ?_)
    refine WL.val (Value.agg #[v_aR_Table]) _ (op_loadBox st_24 rfl (BoxAt.lift hS15.ext hx6) rfl rfl) rfl ?_
    obtain ⟨x18, hx19, h⟩ := bs h
    refine WL.call _ (op_call fn_11 (args1 rfl)) (c_laws_toRing (Ty.lift _ (Ext.trans hE7 hS15.ext) r_aR_Table) hx19) rfl ?_
    rintro _ wd21 ⟨u20, rfl, he22, hs23⟩
    have hS24 := St.join hS15 he22 hs23
    replace hS24 : St wd2 wd21 [(Ty.sl (Ty.sl (Ty.sl (Ty.i .i64)))).at u20 x18] := hS24
    have hb25 := St.rep (t := (Ty.sl (Ty.sl (Ty.sl (Ty.i .i64))))) hS24 0 rfl
    have hE26 : Ext w wd21 := (Ext.trans hE7 hS24.ext)
    have hE27 : Ext wd2 wd21 := hS24.ext
    have hS28 : St wd21 wd21 [] := St.start wd21
    refine WL.val (Value.int .i64 aSet) _ (op_move rfl) rfl ?_
    obtain ⟨x29, hx30, h⟩ := bs h
    refine WL.call _ (op_call fn_27 (args2 rfl rfl)) (c_spec_CosetsOf (Ty.lift _ hS28.ext hb25) r_aSet hx30) rfl ?_
    rintro _ wd33 ⟨u31, rfl, hr32, he34, hs35⟩
    have hS36 := St.join hS28 he34 hs35
    replace hS36 : St wd21 wd33 [(Ty.sl (Ty.i .i64)).at u31 x29.1] := hS36
    have hb37 := St.rep (t := (Ty.sl (Ty.i .i64))) hS36 0 rfl
    have hE38 : Ext w wd33 := (Ext.trans hE26 hS36.ext)
    have hE39 : Ext wd2 wd33 := (Ext.trans hE27 hS36.ext)
    have hE40 : Ext wd21 wd33 := hS36.ext
    have hS41 : St wd33 wd33 [] := St.start wd33
    refine WL.val (Value.tuple #[u31, (Value.int .i64 x29.2)]) _ (op_move rfl) rfl ?_
    refine WL.val u31 _ (op_extract rfl rfl) rfl ?_
    refine WL.val (Value.int .i64 x29.2) _ (op_extract rfl rfl) rfl ?_
    refine WL.val u31 _ (op_assign rfl) rfl ?_
    refine WL.val (Value.int .i64 x29.2) _ (op_assign rfl) rfl ?_
    refine WL.nil ?_
    refine W.seq (W.region ?_)
    refine WL.val (Value.agg #[v_aR_Table]) _ (op_loadBox st_24 rfl (BoxAt.lift (Ext.trans hE39 hS41.ext) hx6) rfl rfl) rfl ?_
    obtain ⟨x42, hx43, h⟩ := bs h
    refine WL.call _ (op_call fn_11 (args1 rfl)) (c_laws_toRing (Ty.lift _ (Ext.trans hE38 hS41.ext) r_aR_Table) hx43) rfl ?_
    rintro _ wd45 ⟨u44, rfl, he46, hs47⟩
    have hS48 := St.join hS41 he46 hs47
    replace hS48 : St wd33 wd45 [(Ty.sl (Ty.sl (Ty.sl (Ty.i .i64)))).at u44 x42] := hS48
    refine WL.alloc hS48 ze_28 (cs := [(Value.slice none 0 0)]) rfl rfl ?_
    intro b49 wd50 hS51 he52
    replace hS51 : St wd33 wd50 [(Ty.sl (Ty.sl (Ty.sl (Ty.i .i64)))).at u44 x42, bx b49 [(Value.slice none 0 0)]] := hS51
    refine WL.storeBox [u44] hS51 (k := 1) rfl rfl rfl (us := [u44]) rfl sz_28 rfl rfl (all_rep (St.rep (t := (Ty.sl (Ty.sl (Ty.sl (Ty.i .i64))))) hS51 0 rfl) all_nil) rfl ?_
    intro wd53 hS54
    replace hS54 : St wd33 wd53 [(Ty.sl (Ty.sl (Ty.sl (Ty.i .i64)))).at u44 x42, bx b49 [u44]] := hS54
    refine WL.nil ?_
    refine W.seq (W.region ?_)
    refine WL.val (Value.agg #[u44]) _ (op_loadBox st_28 rfl (St.boxAt hS54 1 rfl) rfl rfl) rfl ?_
    refine WL.val (Value.int .i64 aSet) _ (op_move rfl) rfl ?_
    obtain ⟨x55, hx56, h⟩ := bs h
    refine WL.call _ (op_call fn_28 (args2 rfl rfl)) (c_impl_CosetsOf (tb.ext (Ext.trans hE38 hS54.ext)) (St.rep (t := (Ty.sl (Ty.sl (Ty.sl (Ty.i .i64))))) hS54 0 rfl) r_aSet hx56) rfl ?_
    rintro _ wd59 ⟨u57, rfl, hr58, he60, hs61⟩
    have hS62 := St.join hS54 he60 hs61
    replace hS62 : St wd33 wd59 [(Ty.sl (Ty.sl (Ty.sl (Ty.i .i64)))).at u44 x42, bx b49 [u44], (Ty.sl (Ty.i .i64)).at u57 x55.1] := hS62
    refine WL.val (Value.tuple #[u57, (Value.int .i64 x55.2)]) _ (op_move rfl) rfl ?_
    refine WL.val u57 _ (op_extract rfl rfl) rfl ?_
    refine WL.val (Value.int .i64 x55.2) _ (op_extract rfl rfl) rfl ?_
    refine WL.val u57 _ (op_assign rfl) rfl ?_
    refine WL.val (Value.int .i64 x55.2) _ (op_assign rfl) rfl ?_
    refine WL.nil ?_
    refine W.seq (W.seq (W.region ?_))
    refine WL.val u57 _ (op_move rfl) rfl ?_
    refine WL.val u31 _ (op_move rfl) rfl ?_
    obtain ⟨x63, hx64, h⟩ := bs h
    refine WL.call _ (op_call fn_19 (args2 rfl rfl)) (c_laws_eqInt64S (St.rep (t := (Ty.sl (Ty.i .i64))) hS62 2 rfl) (Ty.lift _ hS62.ext hb37) hx64) rfl ?_
    rintro _ wd65 ⟨rfl, he66⟩
    have hS68 := St.extend hS62 he66
    replace hS68 : St wd33 wd65 [(Ty.sl (Ty.sl (Ty.sl (Ty.i .i64)))).at u44 x42, bx b49 [u44], (Ty.sl (Ty.i .i64)).at u57 x55.1] := hS68
    refine WL.val (Value.bool (!x63)) _ (op_not rfl) rfl ?_
    refine WL.val (Value.bool (!x63)) _ (op_move rfl) rfl ?_
    refine WL.cut 4 (fun fq wq => fq 1 = (Value.int .i64 aSet) ∧ fq 2 = (Value.pointer (some ⟨b1, 0, none⟩)) ∧ fq 6 = u31 ∧ fq 7 = (Value.int .i64 x29.2) ∧ fq 8 = (Value.pointer (some ⟨b49, 0, none⟩)) ∧ fq 9 = u57 ∧ fq 10 = (Value.int .i64 x55.2) ∧ fq 44 = (Value.bool ((!x63) || (x55.2 != x29.2))) ∧ St wd33 wq [(Ty.sl (Ty.sl (Ty.sl (Ty.i .i64)))).at u44 x42, bx b49 [u44], (Ty.sl (Ty.i .i64)).at u57 x55.1]) ?_ ?_
    · rcases Bool.eq_false_or_eq_true (!x63) with hc69 | hc69
      · refine WL.gskip rfl (bool_of rfl hc69) rfl ?_
        refine WL.gskip rfl (bool_of rfl hc69) rfl ?_
        refine WL.gskip rfl (bool_of rfl hc69) rfl ?_
        refine WL.val (Value.bool true) _ (op_pick_t (evb_of rfl hc69) rfl) rfl ?_
        refine WL.nil ?_
        exact ⟨rfl, rfl, rfl, rfl, rfl, rfl, rfl, rfl, (orT hc69), hS68⟩
      · refine WL.grun rfl (bool_of rfl hc69) ?_
        refine WL.val (Value.int .i64 x55.2) _ (op_move rfl) rfl ?_
        refine WL.grun rfl (bool_of rfl hc69) ?_
        refine WL.val (Value.int .i64 x29.2) _ (op_move rfl) rfl ?_
        refine WL.grun rfl (bool_of rfl hc69) ?_
        refine WL.val (Value.bool (x55.2 != x29.2)) _ (op_neq rfl rfl) rfl ?_
        refine WL.val (Value.bool (x55.2 != x29.2)) _ (op_pick_f (evb_of rfl hc69) rfl) rfl ?_
        refine WL.nil ?_
        exact ⟨rfl, rfl, rfl, rfl, rfl, rfl, rfl, rfl, (orF hc69), hS68⟩
    · intro f70 wd71 hq72
      obtain ⟨hf73, hf74, hf75, hf76, hf77, hf78, hf79, hf80, hS81⟩ := hq72
      refine WL.nil ?_
      refine W.cond ((!x63) || (x55.2 != x29.2)) hf80 (fun hc82 => ?_) (fun hc82 => ?_)
      · replace h := ip h hc82
        refine W.seq (W.region ?_)
        refine WL.val (Value.bool false) _ (op_assign rfl) rfl ?_
        refine WL.nil ?_
        refine W.ret ?_
        obtain rfl := Option.some.inj h
        show FinP _ _ _ _ _ _ _
        exact FinP.ret _ (res1 rfl rfl) ⟨rfl, (Ext.trans hE38 hS81.ext)⟩
      · replace h := inegb h hc82
        refine W.skip ?_
        refine W.seq (W.seq ?_)
        obtain ⟨x108, hx109, h⟩ := bs h
        refine W.drawR mixo 3 [] [fun _ v S w' => v = (Value.agg #[u44]), fun _ v S w' => v = (Value.agg #[v_aR_Table]), fun _ v S w' => ∃ (uu0 : Value), v = (Value.agg #[uu0]) ∧ SepS S w' [(Ty.sl (Ty.sl (Ty.sl (Ty.i .i64)))).at uu0 x108]] (by kernel_rfl) (by kernel_rfl) ⟨pk, pk, ⟨fun _ _ _ _ _ he ⟨uu0, h0, r0⟩ => ⟨uu0, h0, SepS.extend he r0⟩, fun _ _ _ _ _ _ h => h⟩, trivial⟩ ⟨?_, ?_, ?_, trivial⟩ ?_
        · refine ObX.op rfl fun f84 wd85 he86 hout87 hphi88 => ?_
          have hS89 := St.extend hS81 he86
          have e90 : f84 8 = (Value.pointer (some ⟨b49, 0, none⟩)) := (hout87 8 rfl).trans hf77
          exact OpX.val (Value.agg #[u44]) wd85 rfl (op_loadBox st_28 e90 (St.boxAt hS89 1 rfl) rfl rfl) (Ext.refl _) rfl
        · refine ObX.op rfl fun f91 wd92 he93 hout94 hphi95 => ?_
          have hS96 := St.extend hS81 he93
          have e97 : f91 2 = (Value.pointer (some ⟨b1, 0, none⟩)) := (hout94 2 rfl).trans hf74
          exact OpX.val (Value.agg #[v_aR_Table]) wd92 rfl (op_loadBox st_24 e97 (BoxAt.lift (Ext.trans hE39 hS96.ext) hx6) rfl rfl) (Ext.refl _) rfl
        · refine ObX.op rfl fun f98 wd99 he100 hout101 hphi102 => ?_
          have hS103 := St.extend hS81 he100
          obtain ⟨S104, hS105, hf106⟩ := hphi102 1 46 _ rfl rfl rfl
          have e107 : f98 46 = (Value.agg #[v_aR_Table]) := hf106
          refine OpX.call rfl (op_call fn_11 (args1 e107)) (Ret.mono (c_laws_toRing (Ty.lift _ (Ext.trans hE38 hS103.ext) r_aR_Table) hx109) ?_)
          rintro _ wd111 ⟨u110, rfl, he112, hs113⟩
          exact ⟨he112, _, newS _ _, ⟨u110, rfl, (Sep.new hs113)⟩⟩
        · intro f114 wd115 Ss116 he117 hout118 hSn119 hSd120 hphi121
          show WL _ _ _ _ _ _ _
          have e123 : f114 45 = (Value.agg #[u44]) := hphi121 0 45 _ (by decide) rfl rfl
          obtain ⟨u125, e124, e124s⟩ := hphi121 2 47 _ (by decide) rfl rfl
          have e126 : f114 1 = (Value.int .i64 aSet) := (hout118 1 rfl).trans hf73
          have e127 : f114 2 = (Value.pointer (some ⟨b1, 0, none⟩)) := (hout118 2 rfl).trans hf74
          have e128 : f114 6 = u31 := (hout118 6 rfl).trans hf75
          have e129 : f114 7 = (Value.int .i64 x29.2) := (hout118 7 rfl).trans hf76
          have e130 : f114 8 = (Value.pointer (some ⟨b49, 0, none⟩)) := (hout118 8 rfl).trans hf77
          have e131 : f114 9 = u57 := (hout118 9 rfl).trans hf78
          have e132 : f114 10 = (Value.int .i64 x55.2) := (hout118 10 rfl).trans hf79
          have hS133 := St.joinS hS81 he117 hSn119 (SepS.consS hSd120 rfl e124s SepS.nilS)
          replace hS133 : St wd33 wd115 [(Ty.sl (Ty.sl (Ty.sl (Ty.i .i64)))).at u44 x42, bx b49 [u44], (Ty.sl (Ty.i .i64)).at u57 x55.1, (Ty.sl (Ty.sl (Ty.sl (Ty.i .i64)))).at u125 x108] := hS133
          obtain ⟨x134, hx135, h⟩ := bs h
          refine WL.call _ (op_call fn_13 (args2 e123 e124)) (c_laws_eqRing (St.rep (t := (Ty.sl (Ty.sl (Ty.sl (Ty.i .i64))))) hS133 0 rfl) (St.rep (t := (Ty.sl (Ty.sl (Ty.sl (Ty.i .i64))))) hS133 3 rfl) hx135) rfl ?_
          rintro _ wd136 ⟨rfl, he137⟩
          have hS139 := St.extend hS133 he137
          replace hS139 : St wd33 wd136 [(Ty.sl (Ty.sl (Ty.sl (Ty.i .i64)))).at u44 x42, bx b49 [u44], (Ty.sl (Ty.i .i64)).at u57 x55.1, (Ty.sl (Ty.sl (Ty.sl (Ty.i .i64)))).at u125 x108] := hS139
          refine WL.val (Value.bool (!x134)) _ (op_not rfl) rfl ?_
          refine WL.nil ?_
          refine W.cond (!x134) rfl (fun hc140 => ?_) (fun hc140 => ?_)
          · replace h := ip h hc140
            refine W.seq (W.region ?_)
            refine WL.val (Value.bool false) _ (op_assign rfl) rfl ?_
            refine WL.nil ?_
            refine W.ret ?_
            obtain rfl := Option.some.inj h
            show FinP _ _ _ _ _ _ _
            exact FinP.ret _ (res1 rfl rfl) ⟨rfl, (Ext.trans hE38 hS139.ext)⟩
          · replace h := inegb h hc140
            refine W.skip ?_
            refine W.seq (W.region ?_)
            refine WL.val (Value.int .i64 (1 : Int)) _ (op_assign rfl) rfl ?_
            refine WL.nil ?_
            refine W.seq (W.region ?_)
            refine WL.val (Value.agg #[u44]) _ (op_loadBox st_28 e130 (St.boxAt hS139 1 rfl) rfl rfl) rfl ?_
            refine WL.val (Value.int .i64 (1 : Int)) _ (op_move rfl) rfl ?_
            obtain ⟨x142, hx143, h⟩ := bs h
            have hS144 := St.fold [(Ty.sl (Ty.sl (Ty.sl (Ty.i .i64)))).at u44 x42] [bx b49 [u44], (Ty.sl (Ty.i .i64)).at u57 x55.1, (Ty.sl (Ty.sl (Ty.sl (Ty.i .i64)))).at u125 x108] (St.pick hS139 [0, 1, 2, 3] rfl)
            refine WL.call _ (op_call fn_24 (args2 rfl rfl)) (c_laws_markRing hS144 (inL rfl) hx143) rfl ?_
            rintro _ wd147 ⟨rfl, hr148, hS145⟩
            have hS146 := St.pick (St.unfold [(Ty.sl (Ty.sl (Ty.sl (Ty.i .i64)))).at u44 x142.2] [bx b49 [u44], (Ty.sl (Ty.i .i64)).at u57 x55.1, (Ty.sl (Ty.sl (Ty.sl (Ty.i .i64)))).at u125 x108] hS145) [0, 1, 2, 3] rfl
            replace hS146 : St wd33 wd147 [(Ty.sl (Ty.sl (Ty.sl (Ty.i .i64)))).at u44 x142.2, bx b49 [u44], (Ty.sl (Ty.i .i64)).at u57 x55.1, (Ty.sl (Ty.sl (Ty.sl (Ty.i .i64)))).at u125 x108] := hS146
            refine WL.val (Value.int .i64 x142.1) _ (op_assign rfl) rfl ?_
            refine WL.nil ?_
            refine W.seq (W.seq (W.region ?_))
            refine WL.val (Value.int .i64 x142.1) _ (op_move rfl) rfl ?_
            refine WL.val (Value.bool (decide (x142.1 < (0 : Int)))) _ (op_lss rfl rfl) rfl ?_
            refine WL.val (Value.bool (decide (x142.1 < (0 : Int)))) _ (op_move rfl) rfl ?_
            obtain ⟨x150, hj151, h⟩ := bs h
            refine WL.cut 5 (fun fq wq => fq 1 = (Value.int .i64 aSet) ∧ fq 2 = (Value.pointer (some ⟨b1, 0, none⟩)) ∧ fq 6 = u31 ∧ fq 7 = (Value.int .i64 x29.2) ∧ fq 9 = u57 ∧ fq 10 = (Value.int .i64 x55.2) ∧ fq 60 = Value.bool x150 ∧ St wd33 wq [(Ty.sl (Ty.i .i64)).at u57 x55.1]) ?_ ?_
            · rcases Bool.eq_false_or_eq_true (decide (x142.1 < (0 : Int))) with hc149 | hc149
              · replace hj151 := ip hj151 hc149
                refine WL.gskip rfl (bool_of rfl hc149) rfl ?_
                refine WL.gskip rfl (bool_of rfl hc149) rfl ?_
                refine WL.gskip rfl (bool_of rfl hc149) rfl ?_
                refine WL.gskip rfl (bool_of rfl hc149) rfl ?_
                refine WL.val (Value.bool true) _ (op_pick_t (evb_of rfl hc149) rfl) rfl ?_
                refine WL.nil ?_
                obtain rfl := Option.some.inj hj151
                exact ⟨rfl, e126, e127, e128, e129, e131, e132, rfl, (St.pick hS146 [2] rfl)⟩
              · replace hj151 := inegb hj151 hc149
                refine WL.grun rfl (bool_of rfl hc149) ?_
                refine WL.val u57 _ (op_move e131) rfl ?_
                refine WL.grun rfl (bool_of rfl hc149) ?_
                refine WL.val u31 _ (op_move e128) rfl ?_
                refine WL.grun rfl (bool_of rfl hc149) ?_
                obtain ⟨x155, hx156, hj151⟩ := bs hj151
                refine WL.call _ (op_call fn_19 (args2 rfl rfl)) (c_laws_eqInt64S (St.rep (t := (Ty.sl (Ty.i .i64))) hS146 2 rfl) (Ty.lift _ hS146.ext hb37) hx156) rfl ?_
                rintro _ wd157 ⟨rfl, he158⟩
                have hS160 := St.extend hS146 he158
                replace hS160 : St wd33 wd157 [(Ty.sl (Ty.sl (Ty.sl (Ty.i .i64)))).at u44 x142.2, bx b49 [u44], (Ty.sl (Ty.i .i64)).at u57 x55.1, (Ty.sl (Ty.sl (Ty.sl (Ty.i .i64)))).at u125 x108] := hS160
                refine WL.grun rfl (bool_of rfl hc149) ?_
                refine WL.val (Value.bool (!x155)) _ (op_not rfl) rfl ?_
                refine WL.val (Value.bool (!x155)) _ (op_pick_f (evb_of rfl hc149) rfl) rfl ?_
                refine WL.nil ?_
                obtain rfl := Option.some.inj hj151
                exact ⟨rfl, e126, e127, e128, e129, e131, e132, rfl, (St.pick hS160 [2] rfl)⟩
            · intro f152 wd153 hq154
              obtain ⟨hf161, hf162, hf163, hf164, hf165, hf166, hf167, hS168⟩ := hq154
              refine WL.val (Value.bool x150) _ (op_move hf167) rfl ?_
              refine WL.cut 4 (fun fq wq => fq 1 = (Value.int .i64 aSet) ∧ fq 2 = (Value.pointer (some ⟨b1, 0, none⟩)) ∧ fq 6 = u31 ∧ fq 7 = (Value.int .i64 x29.2) ∧ fq 9 = u57 ∧ fq 65 = (Value.bool (x150 || (x55.2 != x29.2))) ∧ St wd33 wq [(Ty.sl (Ty.i .i64)).at u57 x55.1]) ?_ ?_
              · rcases Bool.eq_false_or_eq_true x150 with hc169 | hc169
                · refine WL.gskip rfl (bool_of rfl hc169) rfl ?_
                  refine WL.gskip rfl (bool_of rfl hc169) rfl ?_
                  refine WL.gskip rfl (bool_of rfl hc169) rfl ?_
                  refine WL.val (Value.bool true) _ (op_pick_t (evb_of rfl hc169) rfl) rfl ?_
                  refine WL.nil ?_
                  exact ⟨rfl, hf161, hf162, hf163, hf164, hf165, (orT hc169), hS168⟩
                · refine WL.grun rfl (bool_of rfl hc169) ?_
                  refine WL.val (Value.int .i64 x55.2) _ (op_move hf166) rfl ?_
                  refine WL.grun rfl (bool_of rfl hc169) ?_
                  refine WL.val (Value.int .i64 x29.2) _ (op_move hf164) rfl ?_
                  refine WL.grun rfl (bool_of rfl hc169) ?_
                  refine WL.val (Value.bool (x55.2 != x29.2)) _ (op_neq rfl rfl) rfl ?_
                  refine WL.val (Value.bool (x55.2 != x29.2)) _ (op_pick_f (evb_of rfl hc169) rfl) rfl ?_
                  refine WL.nil ?_
                  exact ⟨rfl, hf161, hf162, hf163, hf164, hf165, (orF hc169), hS168⟩
              · intro f170 wd171 hq172
                obtain ⟨hf173, hf174, hf175, hf176, hf177, hf178, hS179⟩ := hq172
                refine WL.nil ?_
                refine W.cond (x150 || (x55.2 != x29.2)) hf178 (fun hc180 => ?_) (fun hc180 => ?_)
                · replace h := ip h hc180
                  refine W.seq (W.region ?_)
                  refine WL.val (Value.bool false) _ (op_assign rfl) rfl ?_
                  refine WL.nil ?_
                  refine W.ret ?_
                  obtain rfl := Option.some.inj h
                  show FinP _ _ _ _ _ _ _
                  exact FinP.ret _ (res1 rfl rfl) ⟨rfl, (Ext.trans hE38 hS179.ext)⟩
                · replace h := inegb h hc180
                  refine W.skip ?_
                  refine W.seq (W.region ?_)
                  refine WL.val (Value.int .i64 (1 : Int)) _ (op_assign rfl) rfl ?_
                  refine WL.nil ?_
                  refine W.seq (W.region ?_)
                  refine WL.val u57 _ (op_move hf177) rfl ?_
                  refine WL.val (Value.int .i64 (1 : Int)) _ (op_move rfl) rfl ?_
                  obtain ⟨x182, hx183, h⟩ := bs h
                  have hS184 := St.fold [(Ty.sl (Ty.i .i64)).at u57 x55.1] [] (St.pick hS179 [0] rfl)
                  refine WL.call _ (op_call fn_25 (args2 rfl rfl)) (c_laws_markInt64S hS184 (inL rfl) hx183) rfl ?_
                  rintro _ wd187 ⟨rfl, hr188, hS185⟩
                  have hS186 := St.pick (St.unfold [(Ty.sl (Ty.i .i64)).at u57 x182.2] [] hS185) [0] rfl
                  replace hS186 : St wd33 wd187 [(Ty.sl (Ty.i .i64)).at u57 x182.2] := hS186
                  refine WL.val (Value.int .i64 x182.1) _ (op_assign rfl) rfl ?_
                  refine WL.nil ?_
                  refine W.seq (W.region ?_)
                  refine WL.val (Value.int .i64 (1 : Int)) _ (op_assign rfl) rfl ?_
                  refine WL.nil ?_
                  refine W.seq (W.region ?_)
                  refine WL.val u57 _ (op_move hf177) rfl ?_
                  refine WL.val (Value.int .i64 (1 : Int)) _ (op_move rfl) rfl ?_
                  obtain ⟨x189, hx190, h⟩ := bs h
                  refine WL.call _ (op_call fn_26 (args2 rfl rfl)) (c_laws_heldInt64S (St.rep (t := (Ty.sl (Ty.i .i64))) hS186 0 rfl) (inL rfl) hx190) rfl ?_
                  rintro _ wd192 ⟨rfl, hr191, he193⟩
                  have hS195 := St.extend hS186 he193
                  replace hS195 : St wd33 wd192 [(Ty.sl (Ty.i .i64)).at u57 x182.2] := hS195
                  refine WL.val (Value.int .i64 x189) _ (op_assign rfl) rfl ?_
                  refine WL.nil ?_
                  refine W.seq (W.seq (W.region ?_))
                  refine WL.val (Value.int .i64 x189) _ (op_move rfl) rfl ?_
                  refine WL.val (Value.bool (decide (x189 < (0 : Int)))) _ (op_lss rfl rfl) rfl ?_
                  refine WL.nil ?_
                  refine W.cond (decide (x189 < (0 : Int))) rfl (fun hc196 => ?_) (fun hc196 => ?_)
                  · replace h := ip h hc196
                    refine W.seq (W.region ?_)
                    refine WL.val (Value.bool false) _ (op_assign rfl) rfl ?_
                    refine WL.nil ?_
                    refine W.ret ?_
                    obtain rfl := Option.some.inj h
                    show FinP _ _ _ _ _ _ _
                    exact FinP.ret _ (res1 rfl rfl) ⟨rfl, (Ext.trans hE38 hS195.ext)⟩
                  · replace h := inegb h hc196
                    refine W.skip ?_
                    refine W.seq (W.seq (W.region ?_))
                    refine WL.val (Value.int .i64 x189) _ (op_move rfl) rfl ?_
                    refine WL.val (Value.int .i64 x182.1) _ (op_move rfl) rfl ?_
                    refine WL.val (Value.bool (x189 != x182.1)) _ (op_neq rfl rfl) rfl ?_
                    refine WL.nil ?_
                    refine W.cond (x189 != x182.1) rfl (fun hc198 => ?_) (fun hc198 => ?_)
                    · replace h := ip h hc198
                      refine W.seq (W.region ?_)
                      refine WL.val (Value.bool false) _ (op_assign rfl) rfl ?_
                      refine WL.nil ?_
                      refine W.ret ?_
                      obtain rfl := Option.some.inj h
                      show FinP _ _ _ _ _ _ _
                      exact FinP.ret _ (res1 rfl rfl) ⟨rfl, (Ext.trans hE38 hS195.ext)⟩
                    · replace h := inegb h hc198
                      refine W.skip ?_
                      refine W.seq (W.region ?_)
                      refine WL.val (Value.agg #[v_aR_Table]) _ (op_loadBox st_24 hf174 (BoxAt.lift (Ext.trans hE39 hS195.ext) hx6) rfl rfl) rfl ?_
                      obtain ⟨x200, hx201, h⟩ := bs h
                      refine WL.call _ (op_call fn_11 (args1 rfl)) (c_laws_toRing (Ty.lift _ (Ext.trans hE38 hS195.ext) r_aR_Table) hx201) rfl ?_
                      rintro _ wd203 ⟨u202, rfl, he204, hs205⟩
                      have hS206 := St.join hS195 he204 hs205
                      replace hS206 : St wd33 wd203 [(Ty.sl (Ty.i .i64)).at u57 x182.2, (Ty.sl (Ty.sl (Ty.sl (Ty.i .i64)))).at u202 x200] := hS206
                      refine WL.val (Value.int .i64 aSet) _ (op_move hf173) rfl ?_
                      obtain ⟨x207, hx208, h⟩ := bs h
                      refine WL.call _ (op_call fn_28 (args2 rfl rfl)) (c_impl_CosetsOf (tb.ext (Ext.trans hE38 hS206.ext)) (St.rep (t := (Ty.sl (Ty.sl (Ty.sl (Ty.i .i64))))) hS206 1 rfl) r_aSet hx208) rfl ?_
                      rintro _ wd211 ⟨u209, rfl, hr210, he212, hs213⟩
                      have hS214 := St.join hS206 he212 hs213
                      replace hS214 : St wd33 wd211 [(Ty.sl (Ty.i .i64)).at u57 x182.2, (Ty.sl (Ty.sl (Ty.sl (Ty.i .i64)))).at u202 x200, (Ty.sl (Ty.i .i64)).at u209 x207.1] := hS214
                      refine WL.val (Value.tuple #[u209, (Value.int .i64 x207.2)]) _ (op_move rfl) rfl ?_
                      refine WL.val u209 _ (op_extract rfl rfl) rfl ?_
                      refine WL.val (Value.int .i64 x207.2) _ (op_extract rfl rfl) rfl ?_
                      refine WL.val u209 _ (op_assign rfl) rfl ?_
                      refine WL.val (Value.int .i64 x207.2) _ (op_assign rfl) rfl ?_
                      refine WL.nil ?_
                      refine W.seq (W.seq (W.region ?_))
                      refine WL.val u209 _ (op_move rfl) rfl ?_
                      refine WL.val u31 _ (op_move hf175) rfl ?_
                      obtain ⟨x215, hx216, h⟩ := bs h
                      refine WL.call _ (op_call fn_19 (args2 rfl rfl)) (c_laws_eqInt64S (St.rep (t := (Ty.sl (Ty.i .i64))) hS214 2 rfl) (Ty.lift _ hS214.ext hb37) hx216) rfl ?_
                      rintro _ wd217 ⟨rfl, he218⟩
                      have hS220 := St.extend hS214 he218
                      replace hS220 : St wd33 wd217 [(Ty.sl (Ty.i .i64)).at u57 x182.2, (Ty.sl (Ty.sl (Ty.sl (Ty.i .i64)))).at u202 x200, (Ty.sl (Ty.i .i64)).at u209 x207.1] := hS220
                      refine WL.val (Value.bool (!x215)) _ (op_not rfl) rfl ?_
                      refine WL.val (Value.bool (!x215)) _ (op_move rfl) rfl ?_
                      refine WL.cut 4 (fun fq wq => fq 9 = u57 ∧ fq 12 = (Value.int .i64 x182.1) ∧ fq 92 = (Value.bool ((!x215) || (x207.2 != x29.2))) ∧ St wd33 wq [(Ty.sl (Ty.i .i64)).at u57 x182.2]) ?_ ?_
                      · rcases Bool.eq_false_or_eq_true (!x215) with hc221 | hc221
                        · refine WL.gskip rfl (bool_of rfl hc221) rfl ?_
                          refine WL.gskip rfl (bool_of rfl hc221) rfl ?_
                          refine WL.gskip rfl (bool_of rfl hc221) rfl ?_
                          refine WL.val (Value.bool true) _ (op_pick_t (evb_of rfl hc221) rfl) rfl ?_
                          refine WL.nil ?_
                          exact ⟨rfl, hf177, rfl, (orT hc221), (St.pick hS220 [0] rfl)⟩
                        · refine WL.grun rfl (bool_of rfl hc221) ?_
                          refine WL.val (Value.int .i64 x207.2) _ (op_move rfl) rfl ?_
                          refine WL.grun rfl (bool_of rfl hc221) ?_
                          refine WL.val (Value.int .i64 x29.2) _ (op_move hf176) rfl ?_
                          refine WL.grun rfl (bool_of rfl hc221) ?_
                          refine WL.val (Value.bool (x207.2 != x29.2)) _ (op_neq rfl rfl) rfl ?_
                          refine WL.val (Value.bool (x207.2 != x29.2)) _ (op_pick_f (evb_of rfl hc221) rfl) rfl ?_
                          refine WL.nil ?_
                          exact ⟨rfl, hf177, rfl, (orF hc221), (St.pick hS220 [0] rfl)⟩
                      · intro f222 wd223 hq224
                        obtain ⟨hf225, hf226, hf227, hS228⟩ := hq224
                        refine WL.nil ?_
                        refine W.cond ((!x215) || (x207.2 != x29.2)) hf227 (fun hc229 => ?_) (fun hc229 => ?_)
                        · replace h := ip h hc229
                          refine W.seq (W.region ?_)
                          refine WL.val (Value.bool false) _ (op_assign rfl) rfl ?_
                          refine WL.nil ?_
                          refine W.ret ?_
                          obtain rfl := Option.some.inj h
                          show FinP _ _ _ _ _ _ _
                          exact FinP.ret _ (res1 rfl rfl) ⟨rfl, (Ext.trans hE38 hS228.ext)⟩
                        · replace h := inegb h hc229
                          refine W.skip ?_
                          refine W.seq (W.region ?_)
                          refine WL.val (Value.int .i64 (1 : Int)) _ (op_assign rfl) rfl ?_
                          refine WL.nil ?_
                          refine W.seq (W.region ?_)
                          refine WL.val u57 _ (op_move hf225) rfl ?_
                          refine WL.val (Value.int .i64 (1 : Int)) _ (op_move rfl) rfl ?_
                          obtain ⟨x231, hx232, h⟩ := bs h
                          refine WL.call _ (op_call fn_26 (args2 rfl rfl)) (c_laws_heldInt64S (St.rep (t := (Ty.sl (Ty.i .i64))) hS228 0 rfl) (inL rfl) hx232) rfl ?_
                          rintro _ wd234 ⟨rfl, hr233, he235⟩
                          have hS237 := St.extend hS228 he235
                          replace hS237 : St wd33 wd234 [(Ty.sl (Ty.i .i64)).at u57 x182.2] := hS237
                          refine WL.val (Value.int .i64 x231) _ (op_assign rfl) rfl ?_
                          refine WL.nil ?_
                          refine W.seq (W.seq (W.region ?_))
                          refine WL.val (Value.int .i64 x231) _ (op_move rfl) rfl ?_
                          refine WL.val (Value.bool (decide (x231 < (0 : Int)))) _ (op_lss rfl rfl) rfl ?_
                          refine WL.nil ?_
                          refine W.cond (decide (x231 < (0 : Int))) rfl (fun hc238 => ?_) (fun hc238 => ?_)
                          · replace h := ip h hc238
                            refine W.seq (W.region ?_)
                            refine WL.val (Value.bool false) _ (op_assign rfl) rfl ?_
                            refine WL.nil ?_
                            refine W.ret ?_
                            obtain rfl := Option.some.inj h
                            show FinP _ _ _ _ _ _ _
                            exact FinP.ret _ (res1 rfl rfl) ⟨rfl, (Ext.trans hE38 hS237.ext)⟩
                          · replace h := inegb h hc238
                            refine W.skip ?_
                            refine W.seq (W.seq (W.region ?_))
                            refine WL.val (Value.int .i64 x231) _ (op_move rfl) rfl ?_
                            refine WL.val (Value.int .i64 x182.1) _ (op_move hf226) rfl ?_
                            refine WL.val (Value.bool (x231 != x182.1)) _ (op_neq rfl rfl) rfl ?_
                            refine WL.nil ?_
                            refine W.cond (x231 != x182.1) rfl (fun hc240 => ?_) (fun hc240 => ?_)
                            · replace h := ip h hc240
                              refine W.seq (W.region ?_)
                              refine WL.val (Value.bool false) _ (op_assign rfl) rfl ?_
                              refine WL.nil ?_
                              refine W.ret ?_
                              obtain rfl := Option.some.inj h
                              show FinP _ _ _ _ _ _ _
                              exact FinP.ret _ (res1 rfl rfl) ⟨rfl, (Ext.trans hE38 hS237.ext)⟩
                            · replace h := inegb h hc240
                              refine W.skip ?_
                              refine W.seq (W.region ?_)
                              refine WL.val (Value.bool true) _ (op_assign rfl) rfl ?_
                              refine WL.nil ?_
                              refine W.ret ?_
                              obtain rfl := Option.some.inj h
                              show FinP _ _ _ _ _ _ _
                              exact FinP.ret _ (res1 rfl rfl) ⟨rfl, (Ext.trans hE38 hS237.ext)⟩

end Go.VG
