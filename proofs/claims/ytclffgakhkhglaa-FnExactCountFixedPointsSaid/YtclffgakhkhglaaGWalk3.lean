/- The walks, part 3: each Go function returns what its plain twin returns. No condition beyond what each names. -/
import Derived.Test.YtclffgakhkhglaaGWalk2
set_option linter.all false
namespace Go.VG
open Go.Proofs
attribute [local irreducible] W WL Sep FinP

theorem c_slices_EqualFunc_LLint64_LLint64_Lint64_Lint64 {w : World} {s1 : (List (List Int))} {v_s1 : Value} {s2 : (List (List Int))} {v_s2 : Value} {eq : (List Int) → (List Int) → Option Bool} {v_eq : Value} (r_s1 : (Ty.sl (Ty.sl (Ty.i .i64))).rep w v_s1 s1) (r_s2 : (Ty.sl (Ty.sl (Ty.i .i64))).rep w v_s2 s2) (r_eq : FnT_li_li_to_b Try.prog v_eq w eq) {res : Bool} (h : p_slices_EqualFunc_LLint64_LLint64_Lint64_Lint64 s1 s2 eq  = some res) :
    Ret Try.prog 109 #[v_s1, v_s2, v_eq] w (fun v w' => v = Value.bool res ∧ Ext w w') := by
  unfold p_slices_EqualFunc_LLint64_LLint64_Lint64_Lint64 at h
  have hS0 : St w w [] := St.start w
  have q_eq := r_eq
  obtain ⟨g_eq, fst_eq, cap_eq, eq_eq, ok_eq, call_eq⟩ := q_eq
  subst eq_eq
  refine Ret.start (fn := Try.f109) Try.func109 rfl 32 rfl rfl ?_
  refine W.seq (W.region ?_)
  refine WL.val (Value.bool false) _ (op_assign rfl) rfl ?_
  refine WL.nil ?_
  show W _ _ _ _ _ _
  refine W.seq (W.seq (W.region ?_))
  refine WL.val v_s1 _ (op_move rfl) rfl ?_
  have hr1 := inR_len (Ty.lift _ hS0.ext r_s1)
  refine WL.val (Value.int .i64 ((s1).length : Int)) _ (op_lenL sl_65 (Ty.lift _ hS0.ext r_s1) rfl) rfl ?_
  refine WL.val v_s2 _ (op_move rfl) rfl ?_
  have hr2 := inR_len (Ty.lift _ hS0.ext r_s2)
  refine WL.val (Value.int .i64 ((s2).length : Int)) _ (op_lenL sl_65 (Ty.lift _ hS0.ext r_s2) rfl) rfl ?_
  refine WL.val (Value.bool (((s1).length : Int) != ((s2).length : Int))) _ (op_neq rfl rfl) rfl ?_
  refine WL.nil ?_
  show W _ _ _ _ _ _
  refine W.cond (((s1).length : Int) != ((s2).length : Int)) rfl (fun hc3 => ?_) (fun hc3 => ?_)
  · replace h := ip h hc3
    refine W.seq (W.region ?_)
    refine WL.val (Value.bool false) _ (op_assign rfl) rfl ?_
    refine WL.nil ?_
    show W _ _ _ _ _ _
    refine W.ret ?_
    obtain rfl := Option.some.inj h
    show FinP _ _ _ _ _ _ _
    exact FinP.ret _ (res1 rfl rfl) ⟨rfl, hS0.ext⟩
  · replace h := inegb h hc3
    refine W.skip ?_
    show W _ _ _ _ _ _
    refine W.seq (W.seq (W.region ?_))
    refine WL.val v_s1 _ (op_move rfl) rfl ?_
    have hr5 := inR_len (Ty.lift _ hS0.ext r_s1)
    refine WL.val (Value.int .i64 ((s1).length : Int)) _ (op_lenL sl_65 (Ty.lift _ hS0.ext r_s1) rfl) rfl ?_
    refine WL.val (Value.int .i64 (0 : Int)) _ (op_move rfl) rfl ?_
    refine WL.nil ?_
    show W _ _ _ _ _ _
    obtain ⟨res6, hres7, h⟩ := bs h
    refine W.blockLoop (fun fq wq => ∃ s, res6 = Res.fin s ∧ St w wq []) ?_ ?_
    · refine W.forN (fun k (s : Unit) fq wq => fq 1 = v_s2 ∧ fq 2 = (Value.func (.func g_eq) fst_eq cap_eq) ∧ fq 15 = v_s1 ∧ fq 16 = (Value.int .i64 ((s1).length : Int)) ∧ fq 17 = Value.int .i64 (k : Int) ∧ InR .i64 (k : Int) ∧ St w wq []) hres7 ⟨rfl, rfl, rfl, rfl, rfl, (inR_i64.2 (show (-9223372036854775808 : Int) ≤ 0 ∧ (0 : Int) ≤ 9223372036854775807 from by decide)), hS0⟩ ?_ ?_
      · intro k8 s48 ct9 f10 wd11 hk12 hb13 hI14 hbrk15 hret16
        obtain ⟨⟩ := s48
        replace hI14 : f10 1 = v_s2 ∧ f10 2 = (Value.func (.func g_eq) fst_eq cap_eq) ∧ f10 15 = v_s1 ∧ f10 16 = (Value.int .i64 ((s1).length : Int)) ∧ f10 17 = Value.int .i64 (k8 : Int) ∧ InR .i64 (k8 : Int) ∧ St w wd11 [] := hI14
        replace hb13 : p_slices_EqualFunc_LLint64_LLint64_Lint64_Lint64_L1 s1 s2 eq k8  = some ct9 := hb13
        unfold p_slices_EqualFunc_LLint64_LLint64_Lint64_Lint64_L1 at hb13
        obtain ⟨hf17, hf18, hf19, hf20, hf21, hr22, hS23⟩ := hI14
        refine W.seq (W.region ?_)
        refine WL.val (Value.bool (decide ((k8 : Int) < ((s1).length : Int)))) _ (op_lss hf21 hf20) rfl ?_
        have hl24 : (k8 : Int) < ((s1).length : Int) := by omega
        refine WL.nil ?_
        show W _ _ _ _ _ _
        refine W.seq ?_
        refine W.condT (decide ((k8 : Int) < ((s1).length : Int))) rfl (decide_eq_true hl24) ?_
        refine W.skip ?_
        show W _ _ _ _ _ _
        refine W.seq ?_
        refine W.block ?_
        refine W.seq (W.region ?_)
        refine WL.val (Value.int .i64 (k8 : Int)) _ (op_move hf21) rfl ?_
        obtain ⟨x26, hx29, hb13⟩ := bs hb13
        obtain ⟨ha27, hb28, hx29⟩ := idx_some hx29
        refine WL.val (Value.pointer (some (elA v_s1 ((k8 : Int)).toNat))) _ (op_idx sl_65 (Ty.lift _ hS23.ext r_s1) hf19 hf21 ha27 hb28) rfl ?_
        obtain ⟨u30, hc31, hr32⟩ := repSl.el r_s1 hx29
        refine WL.val u30 _ (op_load one_25 rfl (Ext.cell hS23.ext hc31)) rfl ?_
        refine WL.val (Value.int .i64 (k8 : Int)) _ (op_assign rfl) rfl ?_
        refine WL.val u30 _ (op_assign rfl) rfl ?_
        refine WL.nil ?_
        show W _ _ _ _ _ _
        refine W.seq (W.region ?_)
        refine WL.val v_s2 _ (op_move hf17) rfl ?_
        refine WL.val (Value.int .i64 (k8 : Int)) _ (op_move rfl) rfl ?_
        obtain ⟨x33, hx36, hb13⟩ := bs hb13
        obtain ⟨ha34, hb35, hx36⟩ := idx_some hx36
        refine WL.val (Value.pointer (some (elA v_s2 ((k8 : Int)).toNat))) _ (op_idx sl_65 (Ty.lift _ hS23.ext r_s2) rfl rfl ha34 hb35) rfl ?_
        obtain ⟨u37, hc38, hr39⟩ := repSl.el r_s2 hx36
        refine WL.val u37 _ (op_load one_25 rfl (Ext.cell hS23.ext hc38)) rfl ?_
        refine WL.val u37 _ (op_assign rfl) rfl ?_
        refine WL.nil ?_
        show W _ _ _ _ _ _
        refine W.seq (W.region ?_)
        refine WL.val (Value.func (.func g_eq) fst_eq cap_eq) _ (op_move hf18) rfl ?_
        refine WL.val u30 _ (op_move rfl) rfl ?_
        refine WL.val u37 _ (op_move rfl) rfl ?_
        obtain ⟨x40, hx41, hb13⟩ := bs hb13
        refine WL.call _ (op_callV rfl ok_eq (args2 rfl rfl)) (call_eq wd11 u30 x26 u37 x33 x40 hS23.ext (Ty.lift _ hS23.ext hr32) (Ty.lift _ hS23.ext hr39) hx41) rfl ?_
        rintro _ wd42 ⟨rfl, he43⟩
        have hS45 := St.extend hS23 he43
        refine WL.val (Value.bool (!x40)) _ (op_not rfl) rfl ?_
        refine WL.nil ?_
        show W _ _ _ _ _ _
        refine W.cond (!x40) rfl (fun hc46 => ?_) (fun hc46 => ?_)
        · replace hb13 := ip hb13 hc46
          refine W.seq (W.region ?_)
          refine WL.val (Value.bool false) _ (op_assign rfl) rfl ?_
          refine WL.nil ?_
          show W _ _ _ _ _ _
          refine W.ret ?_
          obtain rfl := Option.some.inj hb13
          obtain rfl := hret16 _ rfl
          replace h := onRes_ret h
          obtain rfl := Option.some.inj h
          show FinP _ _ _ _ _ _ _
          exact FinP.ret _ (res1 rfl rfl) ⟨rfl, hS45.ext⟩
        · replace hb13 := inegb hb13 hc46
          refine W.skip ?_
          show W _ _ _ _ _ _
          refine W.region ?_
          refine WL.val (Value.int .i64 (w64 ((k8 : Int) + (1 : Int)))) _ (op_add hf21 rfl) rfl ?_
          refine WL.val (Value.int .i64 (w64 ((k8 : Int) + (1 : Int)))) _ (op_move rfl) rfl ?_
          refine WL.nil ?_
          obtain rfl := Option.some.inj hb13
          show ∃ s, _ = Ctl.next s ∧ _
          exact ⟨_, rfl, hf17, hf18, hf19, hf20, (ctr_next hl24 hr5), (ctr_rng hl24 hr5), hS45⟩
      · intro s53 f49 wd50 hs51 hI52
        obtain ⟨⟩ := s53
        replace hI52 : f49 1 = v_s2 ∧ f49 2 = (Value.func (.func g_eq) fst_eq cap_eq) ∧ f49 15 = v_s1 ∧ f49 16 = (Value.int .i64 ((s1).length : Int)) ∧ f49 17 = Value.int .i64 (((s1).length : Nat) : Int) ∧ InR .i64 (((s1).length : Nat) : Int) ∧ St w wd50 [] := hI52
        obtain ⟨hf54, hf55, hf56, hf57, hf58, hr59, hS60⟩ := hI52
        refine W.seq (W.region ?_)
        refine WL.val (Value.bool (decide ((((s1).length : Nat) : Int) < ((s1).length : Int)))) _ (op_lss hf58 hf57) rfl ?_
        have hl61 : ¬ (((s1).length : Nat) : Int) < ((s1).length : Int) := by omega
        refine WL.nil ?_
        show W _ _ _ _ _ _
        refine W.seq ?_
        refine W.condF (decide ((((s1).length : Nat) : Int) < ((s1).length : Int))) rfl (decide_eq_false hl61) ?_
        refine W.exit ?_
        show _ = _ ∧ _
        exact ⟨rfl, _, hs51, hS60⟩
    · rintro f62 wd63 ⟨s65, rfl, hq64⟩
      replace h := onRes_fin h
      obtain ⟨⟩ := s65
      replace hq64 : St w wd63 [] := hq64
      have hS66 := hq64
      show W _ _ _ _ _ _
      refine W.seq (W.region ?_)
      refine WL.val (Value.bool true) _ (op_assign rfl) rfl ?_
      refine WL.nil ?_
      show W _ _ _ _ _ _
      refine W.ret ?_
      obtain rfl := Option.some.inj h
      show FinP _ _ _ _ _ _ _
      exact FinP.ret _ (res1 rfl rfl) ⟨rfl, hS66.ext⟩

theorem c_slices_Equal_Lint64_int64 {w : World} {s1 : (List Int)} {v_s1 : Value} {s2 : (List Int)} {v_s2 : Value} (r_s1 : (Ty.sl (Ty.i .i64)).rep w v_s1 s1) (r_s2 : (Ty.sl (Ty.i .i64)).rep w v_s2 s2) {res : Bool} (h : p_slices_Equal_Lint64_int64 s1 s2  = some res) :
    Ret Try.prog 56 #[v_s1, v_s2] w (fun v w' => v = Value.bool res ∧ Ext w w') := by
  unfold p_slices_Equal_Lint64_int64 at h
  have hS0 : St w w [] := St.start w
  refine Ret.start (fn := Try.f56) Try.func56 rfl 26 rfl rfl ?_
  refine W.seq (W.region ?_)
  refine WL.val (Value.bool false) _ (op_assign rfl) rfl ?_
  refine WL.nil ?_
  show W _ _ _ _ _ _
  refine W.seq (W.seq (W.region ?_))
  refine WL.val v_s1 _ (op_move rfl) rfl ?_
  have hr1 := inR_len (Ty.lift _ hS0.ext r_s1)
  refine WL.val (Value.int .i64 ((s1).length : Int)) _ (op_lenL sl_25 (Ty.lift _ hS0.ext r_s1) rfl) rfl ?_
  refine WL.val v_s2 _ (op_move rfl) rfl ?_
  have hr2 := inR_len (Ty.lift _ hS0.ext r_s2)
  refine WL.val (Value.int .i64 ((s2).length : Int)) _ (op_lenL sl_25 (Ty.lift _ hS0.ext r_s2) rfl) rfl ?_
  refine WL.val (Value.bool (((s1).length : Int) != ((s2).length : Int))) _ (op_neq rfl rfl) rfl ?_
  refine WL.nil ?_
  show W _ _ _ _ _ _
  refine W.cond (((s1).length : Int) != ((s2).length : Int)) rfl (fun hc3 => ?_) (fun hc3 => ?_)
  · replace h := ip h hc3
    refine W.seq (W.region ?_)
    refine WL.val (Value.bool false) _ (op_assign rfl) rfl ?_
    refine WL.nil ?_
    show W _ _ _ _ _ _
    refine W.ret ?_
    obtain rfl := Option.some.inj h
    show FinP _ _ _ _ _ _ _
    exact FinP.ret _ (res1 rfl rfl) ⟨rfl, hS0.ext⟩
  · replace h := inegb h hc3
    refine W.skip ?_
    show W _ _ _ _ _ _
    refine W.seq (W.seq (W.region ?_))
    refine WL.val v_s1 _ (op_move rfl) rfl ?_
    have hr5 := inR_len (Ty.lift _ hS0.ext r_s1)
    refine WL.val (Value.int .i64 ((s1).length : Int)) _ (op_lenL sl_25 (Ty.lift _ hS0.ext r_s1) rfl) rfl ?_
    refine WL.val (Value.int .i64 (0 : Int)) _ (op_move rfl) rfl ?_
    refine WL.nil ?_
    show W _ _ _ _ _ _
    obtain ⟨res6, hres7, h⟩ := bs h
    refine W.blockLoop (fun fq wq => ∃ s, res6 = Res.fin s ∧ St w wq []) ?_ ?_
    · refine W.forN (fun k (s : Unit) fq wq => fq 0 = v_s1 ∧ fq 1 = v_s2 ∧ fq 12 = (Value.int .i64 ((s1).length : Int)) ∧ fq 13 = Value.int .i64 (k : Int) ∧ InR .i64 (k : Int) ∧ St w wq []) hres7 ⟨rfl, rfl, rfl, rfl, (inR_i64.2 (show (-9223372036854775808 : Int) ≤ 0 ∧ (0 : Int) ≤ 9223372036854775807 from by decide)), hS0⟩ ?_ ?_
      · intro k8 s136 ct9 f10 wd11 hk12 hb13 hI14 hbrk15 hret16
        obtain ⟨⟩ := s136
        replace hI14 : f10 0 = v_s1 ∧ f10 1 = v_s2 ∧ f10 12 = (Value.int .i64 ((s1).length : Int)) ∧ f10 13 = Value.int .i64 (k8 : Int) ∧ InR .i64 (k8 : Int) ∧ St w wd11 [] := hI14
        replace hb13 : p_slices_Equal_Lint64_int64_L1 s1 s2 k8  = some ct9 := hb13
        unfold p_slices_Equal_Lint64_int64_L1 at hb13
        obtain ⟨hf17, hf18, hf19, hf20, hr21, hS22⟩ := hI14
        refine W.seq (W.region ?_)
        refine WL.val (Value.bool (decide ((k8 : Int) < ((s1).length : Int)))) _ (op_lss hf20 hf19) rfl ?_
        have hl23 : (k8 : Int) < ((s1).length : Int) := by omega
        refine WL.nil ?_
        show W _ _ _ _ _ _
        refine W.seq ?_
        refine W.condT (decide ((k8 : Int) < ((s1).length : Int))) rfl (decide_eq_true hl23) ?_
        refine W.skip ?_
        show W _ _ _ _ _ _
        refine W.seq ?_
        refine W.block ?_
        refine W.seq (W.region ?_)
        refine WL.val (Value.int .i64 (k8 : Int)) _ (op_move hf20) rfl ?_
        refine WL.val (Value.int .i64 (k8 : Int)) _ (op_assign rfl) rfl ?_
        refine WL.nil ?_
        show W _ _ _ _ _ _
        refine W.seq ?_
        obtain ⟨x54, hx57, hb13⟩ := bs hb13
        obtain ⟨ha55, hb56, hx57⟩ := idx_some hx57
        obtain ⟨u68, hc69, hr70⟩ := repSl.el r_s1 hx57
        obtain ⟨rfl, hr70⟩ := hr70
        obtain ⟨x100, hx103, hb13⟩ := bs hb13
        obtain ⟨ha101, hb102, hx103⟩ := idx_some hx103
        obtain ⟨u114, hc115, hr116⟩ := repSl.el r_s2 hx103
        obtain ⟨rfl, hr116⟩ := hr116
        refine W.drawR mixo 8 [] [fun _ v _ _ => v = v_s1, fun _ v _ _ => v = (Value.int .i64 (k8 : Int)) ∧ InR .i64 (k8 : Int), fun _ v _ _ => v = (Value.pointer (some (elA v_s1 ((k8 : Int)).toNat))), fun _ v _ _ => v = (Value.int .i64 x54) ∧ InR .i64 x54, fun _ v _ _ => v = v_s2, fun _ v _ _ => v = (Value.int .i64 (k8 : Int)) ∧ InR .i64 (k8 : Int), fun _ v _ _ => v = (Value.pointer (some (elA v_s2 ((k8 : Int)).toNat))), fun _ v _ _ => v = (Value.int .i64 x100) ∧ InR .i64 x100] (by kernel_rfl) (by kernel_rfl) ⟨⟨fun _ _ _ _ _ _ h => h, fun _ _ _ _ _ _ h => h⟩, ⟨fun _ _ _ _ _ _ h => h, fun _ _ _ _ _ _ h => h⟩, ⟨fun _ _ _ _ _ _ h => h, fun _ _ _ _ _ _ h => h⟩, ⟨fun _ _ _ _ _ _ h => h, fun _ _ _ _ _ _ h => h⟩, ⟨fun _ _ _ _ _ _ h => h, fun _ _ _ _ _ _ h => h⟩, ⟨fun _ _ _ _ _ _ h => h, fun _ _ _ _ _ _ h => h⟩, ⟨fun _ _ _ _ _ _ h => h, fun _ _ _ _ _ _ h => h⟩, ⟨fun _ _ _ _ _ _ h => h, fun _ _ _ _ _ _ h => h⟩, trivial⟩ ⟨?_, ?_, ?_, ?_, ?_, ?_, ?_, ?_, trivial⟩ ?_
        · refine ObX.op rfl ?_
          intro f25 wd26 he27 hout28 hphi29
          have hS30 : St w wd26 [] := St.extend hS22 he27
          have e31 : f25 0 = v_s1 := (hout28 0 rfl).trans hf17
          exact OpX.val v_s1 wd26 rfl (op_move e31) (Ext.refl _) rfl
        · refine ObX.op rfl ?_
          intro f32 wd33 he34 hout35 hphi36
          have hS37 : St w wd33 [] := St.extend hS22 he34
          have e38 : f32 5 = (Value.int .i64 (k8 : Int)) := (hout35 5 rfl).trans rfl
          exact OpX.val (Value.int .i64 (k8 : Int)) wd33 rfl (op_move e38) (Ext.refl _) ⟨rfl, hr21⟩
        · refine ObX.op rfl ?_
          intro f39 wd40 he41 hout42 hphi43
          have hS44 : St w wd40 [] := St.extend hS22 he41
          obtain ⟨S45, hS46, hf47⟩ := hphi43 0 16 _ rfl rfl rfl
          have e48 : f39 16 = v_s1 := hf47
          obtain ⟨S49, hS50, hf51⟩ := hphi43 1 17 _ rfl rfl rfl
          obtain ⟨e52, hr53⟩ : f39 17 = (Value.int .i64 (k8 : Int)) ∧ InR .i64 (k8 : Int) := hf51
          exact OpX.val (Value.pointer (some (elA v_s1 ((k8 : Int)).toNat))) wd40 rfl (op_idx sl_25 (Ty.lift _ hS44.ext r_s1) e48 e52 ha55 hb56) (Ext.refl _) rfl
        · refine ObX.op rfl ?_
          intro f58 wd59 he60 hout61 hphi62
          have hS63 : St w wd59 [] := St.extend hS22 he60
          obtain ⟨S64, hS65, hf66⟩ := hphi62 2 18 _ rfl rfl rfl
          have e67 : f58 18 = (Value.pointer (some (elA v_s1 ((k8 : Int)).toNat))) := hf66
          exact OpX.val (Value.int .i64 x54) wd59 rfl (op_load one_2 e67 (Ext.cell hS63.ext hc69)) (Ext.refl _) ⟨rfl, hr70⟩
        · refine ObX.op rfl ?_
          intro f71 wd72 he73 hout74 hphi75
          have hS76 : St w wd72 [] := St.extend hS22 he73
          have e77 : f71 1 = v_s2 := (hout74 1 rfl).trans hf18
          exact OpX.val v_s2 wd72 rfl (op_move e77) (Ext.refl _) rfl
        · refine ObX.op rfl ?_
          intro f78 wd79 he80 hout81 hphi82
          have hS83 : St w wd79 [] := St.extend hS22 he80
          have e84 : f78 5 = (Value.int .i64 (k8 : Int)) := (hout81 5 rfl).trans rfl
          exact OpX.val (Value.int .i64 (k8 : Int)) wd79 rfl (op_move e84) (Ext.refl _) ⟨rfl, hr21⟩
        · refine ObX.op rfl ?_
          intro f85 wd86 he87 hout88 hphi89
          have hS90 : St w wd86 [] := St.extend hS22 he87
          obtain ⟨S91, hS92, hf93⟩ := hphi89 4 20 _ rfl rfl rfl
          have e94 : f85 20 = v_s2 := hf93
          obtain ⟨S95, hS96, hf97⟩ := hphi89 5 21 _ rfl rfl rfl
          obtain ⟨e98, hr99⟩ : f85 21 = (Value.int .i64 (k8 : Int)) ∧ InR .i64 (k8 : Int) := hf97
          exact OpX.val (Value.pointer (some (elA v_s2 ((k8 : Int)).toNat))) wd86 rfl (op_idx sl_25 (Ty.lift _ hS90.ext r_s2) e94 e98 ha101 hb102) (Ext.refl _) rfl
        · refine ObX.op rfl ?_
          intro f104 wd105 he106 hout107 hphi108
          have hS109 : St w wd105 [] := St.extend hS22 he106
          obtain ⟨S110, hS111, hf112⟩ := hphi108 6 22 _ rfl rfl rfl
          have e113 : f104 22 = (Value.pointer (some (elA v_s2 ((k8 : Int)).toNat))) := hf112
          exact OpX.val (Value.int .i64 x100) wd105 rfl (op_load one_2 e113 (Ext.cell hS109.ext hc115)) (Ext.refl _) ⟨rfl, hr116⟩
        · intro f117 wd118 Ss119 he120 hout121 hSn122 hSd123 hphi124
          show WL _ _ _ _ _ _ _
          have hS125 : St w wd118 [] := St.extend hS22 he120
          obtain ⟨e126, hr127⟩ : f117 19 = (Value.int .i64 x54) ∧ InR .i64 x54 := hphi124 3 19 _ (by decide) rfl rfl
          obtain ⟨e128, hr129⟩ : f117 23 = (Value.int .i64 x100) ∧ InR .i64 x100 := hphi124 7 23 _ (by decide) rfl rfl
          have e130 : f117 0 = v_s1 := (hout121 0 rfl).trans hf17
          have e131 : f117 1 = v_s2 := (hout121 1 rfl).trans hf18
          have e132 : f117 12 = (Value.int .i64 ((s1).length : Int)) := (hout121 12 rfl).trans hf19
          have e133 : f117 13 = (Value.int .i64 (k8 : Int)) := (hout121 13 rfl).trans hf20
          refine WL.val (Value.bool (x54 != x100)) _ (op_neq e126 e128) rfl ?_
          refine WL.nil ?_
          show W _ _ _ _ _ _
          refine W.cond (x54 != x100) rfl (fun hc134 => ?_) (fun hc134 => ?_)
          · replace hb13 := ip hb13 hc134
            refine W.seq (W.region ?_)
            refine WL.val (Value.bool false) _ (op_assign rfl) rfl ?_
            refine WL.nil ?_
            show W _ _ _ _ _ _
            refine W.ret ?_
            obtain rfl := Option.some.inj hb13
            obtain rfl := hret16 _ rfl
            replace h := onRes_ret h
            obtain rfl := Option.some.inj h
            show FinP _ _ _ _ _ _ _
            exact FinP.ret _ (res1 rfl rfl) ⟨rfl, hS125.ext⟩
          · replace hb13 := inegb hb13 hc134
            refine W.skip ?_
            show W _ _ _ _ _ _
            refine W.region ?_
            refine WL.val (Value.int .i64 (w64 ((k8 : Int) + (1 : Int)))) _ (op_add e133 rfl) rfl ?_
            refine WL.val (Value.int .i64 (w64 ((k8 : Int) + (1 : Int)))) _ (op_move rfl) rfl ?_
            refine WL.nil ?_
            obtain rfl := Option.some.inj hb13
            show ∃ s, _ = Ctl.next s ∧ _
            exact ⟨_, rfl, e130, e131, e132, (ctr_next hl23 hr5), (ctr_rng hl23 hr5), hS125⟩
      · intro s141 f137 wd138 hs139 hI140
        obtain ⟨⟩ := s141
        replace hI140 : f137 0 = v_s1 ∧ f137 1 = v_s2 ∧ f137 12 = (Value.int .i64 ((s1).length : Int)) ∧ f137 13 = Value.int .i64 (((s1).length : Nat) : Int) ∧ InR .i64 (((s1).length : Nat) : Int) ∧ St w wd138 [] := hI140
        obtain ⟨hf142, hf143, hf144, hf145, hr146, hS147⟩ := hI140
        refine W.seq (W.region ?_)
        refine WL.val (Value.bool (decide ((((s1).length : Nat) : Int) < ((s1).length : Int)))) _ (op_lss hf145 hf144) rfl ?_
        have hl148 : ¬ (((s1).length : Nat) : Int) < ((s1).length : Int) := by omega
        refine WL.nil ?_
        show W _ _ _ _ _ _
        refine W.seq ?_
        refine W.condF (decide ((((s1).length : Nat) : Int) < ((s1).length : Int))) rfl (decide_eq_false hl148) ?_
        refine W.exit ?_
        show _ = _ ∧ _
        exact ⟨rfl, _, hs139, hS147⟩
    · rintro f149 wd150 ⟨s152, rfl, hq151⟩
      replace h := onRes_fin h
      obtain ⟨⟩ := s152
      replace hq151 : St w wd150 [] := hq151
      have hS153 := hq151
      show W _ _ _ _ _ _
      refine W.seq (W.region ?_)
      refine WL.val (Value.bool true) _ (op_assign rfl) rfl ?_
      refine WL.nil ?_
      show W _ _ _ _ _ _
      refine W.ret ?_
      obtain rfl := Option.some.inj h
      show FinP _ _ _ _ _ _ _
      exact FinP.ret _ (res1 rfl rfl) ⟨rfl, hS153.ext⟩

theorem c_laws_eqInt64S {w : World} {a : (List Int)} {v_a : Value} {b : (List Int)} {v_b : Value} (r_a : (Ty.sl (Ty.i .i64)).rep w v_a a) (r_b : (Ty.sl (Ty.i .i64)).rep w v_b b) {res : Bool} (h : p_laws_eqInt64S a b  = some res) :
    Ret Try.prog 15 #[v_a, v_b] w (fun v w' => v = Value.bool res ∧ Ext w w') := by
  unfold p_laws_eqInt64S at h
  have hS0 : St w w [] := St.start w
  refine Ret.start (fn := Try.f15) Try.func15 rfl 26 rfl rfl ?_
  refine W.seq (W.region ?_)
  refine WL.val (Value.bool false) _ (op_assign rfl) rfl ?_
  refine WL.nil ?_
  show W _ _ _ _ _ _
  refine W.seq (W.seq (W.region ?_))
  refine WL.val v_a _ (op_move rfl) rfl ?_
  have hr1 := inR_len (Ty.lift _ hS0.ext r_a)
  refine WL.val (Value.int .i64 ((a).length : Int)) _ (op_lenL sl_25 (Ty.lift _ hS0.ext r_a) rfl) rfl ?_
  refine WL.val v_b _ (op_move rfl) rfl ?_
  have hr2 := inR_len (Ty.lift _ hS0.ext r_b)
  refine WL.val (Value.int .i64 ((b).length : Int)) _ (op_lenL sl_25 (Ty.lift _ hS0.ext r_b) rfl) rfl ?_
  refine WL.val (Value.bool (((a).length : Int) != ((b).length : Int))) _ (op_neq rfl rfl) rfl ?_
  refine WL.nil ?_
  show W _ _ _ _ _ _
  refine W.cond (((a).length : Int) != ((b).length : Int)) rfl (fun hc3 => ?_) (fun hc3 => ?_)
  · replace h := ip h hc3
    refine W.seq (W.region ?_)
    refine WL.val (Value.bool false) _ (op_assign rfl) rfl ?_
    refine WL.nil ?_
    show W _ _ _ _ _ _
    refine W.ret ?_
    obtain rfl := Option.some.inj h
    show FinP _ _ _ _ _ _ _
    exact FinP.ret _ (res1 rfl rfl) ⟨rfl, hS0.ext⟩
  · replace h := inegb h hc3
    refine W.skip ?_
    show W _ _ _ _ _ _
    refine W.seq (W.seq (W.region ?_))
    refine WL.val (Value.int .i64 (0 : Int)) _ (op_assign rfl) rfl ?_
    refine WL.nil ?_
    show W _ _ _ _ _ _
    obtain ⟨res5, hres6, h⟩ := bs h
    refine W.blockLoop (fun fq wq => ∃ s, res5 = Res.fin s ∧ St w wq []) ?_ ?_
    · refine W.forN (fun k (s : Unit) fq wq => fq 0 = v_a ∧ fq 1 = v_b ∧ fq 5 = Value.int .i64 (k : Int) ∧ InR .i64 (k : Int) ∧ St w wq []) hres6 ⟨rfl, rfl, rfl, (inR_i64.2 (show (-9223372036854775808 : Int) ≤ 0 ∧ (0 : Int) ≤ 9223372036854775807 from by decide)), hS0⟩ ?_ ?_
      · intro k7 s134 ct8 f9 wd10 hk11 hb12 hI13 hbrk14 hret15
        obtain ⟨⟩ := s134
        replace hI13 : f9 0 = v_a ∧ f9 1 = v_b ∧ f9 5 = Value.int .i64 (k7 : Int) ∧ InR .i64 (k7 : Int) ∧ St w wd10 [] := hI13
        replace hb12 : p_laws_eqInt64S_L1 a b k7  = some ct8 := hb12
        unfold p_laws_eqInt64S_L1 at hb12
        obtain ⟨hf16, hf17, hf18, hr19, hS20⟩ := hI13
        refine W.seq (W.seq (W.region ?_))
        refine WL.val (Value.int .i64 (k7 : Int)) _ (op_move hf18) rfl ?_
        refine WL.val v_a _ (op_move hf16) rfl ?_
        have hr21 := inR_len (Ty.lift _ hS20.ext r_a)
        refine WL.val (Value.int .i64 ((a).length : Int)) _ (op_lenL sl_25 (Ty.lift _ hS20.ext r_a) rfl) rfl ?_
        refine WL.val (Value.bool (decide ((k7 : Int) < ((a).length : Int)))) _ (op_lss rfl rfl) rfl ?_
        have hl22 : (k7 : Int) < ((a).length : Int) := by omega
        refine WL.nil ?_
        show W _ _ _ _ _ _
        refine W.condT (decide ((k7 : Int) < ((a).length : Int))) rfl (decide_eq_true hl22) ?_
        refine W.skip ?_
        show W _ _ _ _ _ _
        refine W.seq ?_
        refine W.block ?_
        refine W.seq ?_
        obtain ⟨x53, hx56, hb12⟩ := bs hb12
        obtain ⟨ha54, hb55, hx56⟩ := idx_some hx56
        obtain ⟨u67, hc68, hr69⟩ := repSl.el r_a hx56
        obtain ⟨rfl, hr69⟩ := hr69
        obtain ⟨x99, hx102, hb12⟩ := bs hb12
        obtain ⟨ha100, hb101, hx102⟩ := idx_some hx102
        obtain ⟨u113, hc114, hr115⟩ := repSl.el r_b hx102
        obtain ⟨rfl, hr115⟩ := hr115
        refine W.drawR mixo 8 [] [fun _ v _ _ => v = v_a, fun _ v _ _ => v = (Value.int .i64 (k7 : Int)) ∧ InR .i64 (k7 : Int), fun _ v _ _ => v = (Value.pointer (some (elA v_a ((k7 : Int)).toNat))), fun _ v _ _ => v = (Value.int .i64 x53) ∧ InR .i64 x53, fun _ v _ _ => v = v_b, fun _ v _ _ => v = (Value.int .i64 (k7 : Int)) ∧ InR .i64 (k7 : Int), fun _ v _ _ => v = (Value.pointer (some (elA v_b ((k7 : Int)).toNat))), fun _ v _ _ => v = (Value.int .i64 x99) ∧ InR .i64 x99] (by kernel_rfl) (by kernel_rfl) ⟨⟨fun _ _ _ _ _ _ h => h, fun _ _ _ _ _ _ h => h⟩, ⟨fun _ _ _ _ _ _ h => h, fun _ _ _ _ _ _ h => h⟩, ⟨fun _ _ _ _ _ _ h => h, fun _ _ _ _ _ _ h => h⟩, ⟨fun _ _ _ _ _ _ h => h, fun _ _ _ _ _ _ h => h⟩, ⟨fun _ _ _ _ _ _ h => h, fun _ _ _ _ _ _ h => h⟩, ⟨fun _ _ _ _ _ _ h => h, fun _ _ _ _ _ _ h => h⟩, ⟨fun _ _ _ _ _ _ h => h, fun _ _ _ _ _ _ h => h⟩, ⟨fun _ _ _ _ _ _ h => h, fun _ _ _ _ _ _ h => h⟩, trivial⟩ ⟨?_, ?_, ?_, ?_, ?_, ?_, ?_, ?_, trivial⟩ ?_
        · refine ObX.op rfl ?_
          intro f24 wd25 he26 hout27 hphi28
          have hS29 : St w wd25 [] := St.extend hS20 he26
          have e30 : f24 0 = v_a := (hout27 0 rfl).trans hf16
          exact OpX.val v_a wd25 rfl (op_move e30) (Ext.refl _) rfl
        · refine ObX.op rfl ?_
          intro f31 wd32 he33 hout34 hphi35
          have hS36 : St w wd32 [] := St.extend hS20 he33
          have e37 : f31 5 = (Value.int .i64 (k7 : Int)) := (hout34 5 rfl).trans hf18
          exact OpX.val (Value.int .i64 (k7 : Int)) wd32 rfl (op_move e37) (Ext.refl _) ⟨rfl, hr19⟩
        · refine ObX.op rfl ?_
          intro f38 wd39 he40 hout41 hphi42
          have hS43 : St w wd39 [] := St.extend hS20 he40
          obtain ⟨S44, hS45, hf46⟩ := hphi42 0 17 _ rfl rfl rfl
          have e47 : f38 17 = v_a := hf46
          obtain ⟨S48, hS49, hf50⟩ := hphi42 1 18 _ rfl rfl rfl
          obtain ⟨e51, hr52⟩ : f38 18 = (Value.int .i64 (k7 : Int)) ∧ InR .i64 (k7 : Int) := hf50
          exact OpX.val (Value.pointer (some (elA v_a ((k7 : Int)).toNat))) wd39 rfl (op_idx sl_25 (Ty.lift _ hS43.ext r_a) e47 e51 ha54 hb55) (Ext.refl _) rfl
        · refine ObX.op rfl ?_
          intro f57 wd58 he59 hout60 hphi61
          have hS62 : St w wd58 [] := St.extend hS20 he59
          obtain ⟨S63, hS64, hf65⟩ := hphi61 2 19 _ rfl rfl rfl
          have e66 : f57 19 = (Value.pointer (some (elA v_a ((k7 : Int)).toNat))) := hf65
          exact OpX.val (Value.int .i64 x53) wd58 rfl (op_load one_2 e66 (Ext.cell hS62.ext hc68)) (Ext.refl _) ⟨rfl, hr69⟩
        · refine ObX.op rfl ?_
          intro f70 wd71 he72 hout73 hphi74
          have hS75 : St w wd71 [] := St.extend hS20 he72
          have e76 : f70 1 = v_b := (hout73 1 rfl).trans hf17
          exact OpX.val v_b wd71 rfl (op_move e76) (Ext.refl _) rfl
        · refine ObX.op rfl ?_
          intro f77 wd78 he79 hout80 hphi81
          have hS82 : St w wd78 [] := St.extend hS20 he79
          have e83 : f77 5 = (Value.int .i64 (k7 : Int)) := (hout80 5 rfl).trans hf18
          exact OpX.val (Value.int .i64 (k7 : Int)) wd78 rfl (op_move e83) (Ext.refl _) ⟨rfl, hr19⟩
        · refine ObX.op rfl ?_
          intro f84 wd85 he86 hout87 hphi88
          have hS89 : St w wd85 [] := St.extend hS20 he86
          obtain ⟨S90, hS91, hf92⟩ := hphi88 4 21 _ rfl rfl rfl
          have e93 : f84 21 = v_b := hf92
          obtain ⟨S94, hS95, hf96⟩ := hphi88 5 22 _ rfl rfl rfl
          obtain ⟨e97, hr98⟩ : f84 22 = (Value.int .i64 (k7 : Int)) ∧ InR .i64 (k7 : Int) := hf96
          exact OpX.val (Value.pointer (some (elA v_b ((k7 : Int)).toNat))) wd85 rfl (op_idx sl_25 (Ty.lift _ hS89.ext r_b) e93 e97 ha100 hb101) (Ext.refl _) rfl
        · refine ObX.op rfl ?_
          intro f103 wd104 he105 hout106 hphi107
          have hS108 : St w wd104 [] := St.extend hS20 he105
          obtain ⟨S109, hS110, hf111⟩ := hphi107 6 23 _ rfl rfl rfl
          have e112 : f103 23 = (Value.pointer (some (elA v_b ((k7 : Int)).toNat))) := hf111
          exact OpX.val (Value.int .i64 x99) wd104 rfl (op_load one_2 e112 (Ext.cell hS108.ext hc114)) (Ext.refl _) ⟨rfl, hr115⟩
        · intro f116 wd117 Ss118 he119 hout120 hSn121 hSd122 hphi123
          show WL _ _ _ _ _ _ _
          have hS124 : St w wd117 [] := St.extend hS20 he119
          obtain ⟨e125, hr126⟩ : f116 20 = (Value.int .i64 x53) ∧ InR .i64 x53 := hphi123 3 20 _ (by decide) rfl rfl
          obtain ⟨e127, hr128⟩ : f116 24 = (Value.int .i64 x99) ∧ InR .i64 x99 := hphi123 7 24 _ (by decide) rfl rfl
          have e129 : f116 0 = v_a := (hout120 0 rfl).trans hf16
          have e130 : f116 1 = v_b := (hout120 1 rfl).trans hf17
          have e131 : f116 5 = (Value.int .i64 (k7 : Int)) := (hout120 5 rfl).trans hf18
          refine WL.val (Value.bool (x53 != x99)) _ (op_neq e125 e127) rfl ?_
          refine WL.nil ?_
          show W _ _ _ _ _ _
          refine W.cond (x53 != x99) rfl (fun hc132 => ?_) (fun hc132 => ?_)
          · replace hb12 := ip hb12 hc132
            refine W.seq (W.region ?_)
            refine WL.val (Value.bool false) _ (op_assign rfl) rfl ?_
            refine WL.nil ?_
            show W _ _ _ _ _ _
            refine W.ret ?_
            obtain rfl := Option.some.inj hb12
            obtain rfl := hret15 _ rfl
            replace h := onRes_ret h
            obtain rfl := Option.some.inj h
            show FinP _ _ _ _ _ _ _
            exact FinP.ret _ (res1 rfl rfl) ⟨rfl, hS124.ext⟩
          · replace hb12 := inegb hb12 hc132
            refine W.skip ?_
            show W _ _ _ _ _ _
            refine W.region ?_
            refine WL.val (Value.int .i64 (k7 : Int)) _ (op_move e131) rfl ?_
            refine WL.val (Value.int .i64 (w64 ((k7 : Int) + (1 : Int)))) _ (op_add rfl rfl) rfl ?_
            refine WL.val (Value.int .i64 (w64 ((k7 : Int) + (1 : Int)))) _ (op_assign rfl) rfl ?_
            refine WL.nil ?_
            obtain rfl := Option.some.inj hb12
            show ∃ s, _ = Ctl.next s ∧ _
            exact ⟨_, rfl, e129, e130, (ctr_next hl22 hr21), (ctr_rng hl22 hr21), hS124⟩
      · intro s139 f135 wd136 hs137 hI138
        obtain ⟨⟩ := s139
        replace hI138 : f135 0 = v_a ∧ f135 1 = v_b ∧ f135 5 = Value.int .i64 (((a).length : Nat) : Int) ∧ InR .i64 (((a).length : Nat) : Int) ∧ St w wd136 [] := hI138
        obtain ⟨hf140, hf141, hf142, hr143, hS144⟩ := hI138
        refine W.seq (W.seq (W.region ?_))
        refine WL.val (Value.int .i64 (((a).length : Nat) : Int)) _ (op_move hf142) rfl ?_
        refine WL.val v_a _ (op_move hf140) rfl ?_
        have hr145 := inR_len (Ty.lift _ hS144.ext r_a)
        refine WL.val (Value.int .i64 ((a).length : Int)) _ (op_lenL sl_25 (Ty.lift _ hS144.ext r_a) rfl) rfl ?_
        refine WL.val (Value.bool (decide ((((a).length : Nat) : Int) < ((a).length : Int)))) _ (op_lss rfl rfl) rfl ?_
        have hl146 : ¬ (((a).length : Nat) : Int) < ((a).length : Int) := by omega
        refine WL.nil ?_
        show W _ _ _ _ _ _
        refine W.condF (decide ((((a).length : Nat) : Int) < ((a).length : Int))) rfl (decide_eq_false hl146) ?_
        refine W.exit ?_
        show _ = _ ∧ _
        exact ⟨rfl, _, hs137, hS144⟩
    · rintro f147 wd148 ⟨s150, rfl, hq149⟩
      replace h := onRes_fin h
      obtain ⟨⟩ := s150
      replace hq149 : St w wd148 [] := hq149
      have hS151 := hq149
      show W _ _ _ _ _ _
      refine W.seq (W.region ?_)
      refine WL.val (Value.bool true) _ (op_assign rfl) rfl ?_
      refine WL.nil ?_
      show W _ _ _ _ _ _
      refine W.ret ?_
      obtain rfl := Option.some.inj h
      show FinP _ _ _ _ _ _ _
      exact FinP.ret _ (res1 rfl rfl) ⟨rfl, hS151.ext⟩

theorem c_laws_eqInt64SS {w : World} {a : (List (List Int))} {v_a : Value} {b : (List (List Int))} {v_b : Value} (r_a : (Ty.sl (Ty.sl (Ty.i .i64))).rep w v_a a) (r_b : (Ty.sl (Ty.sl (Ty.i .i64))).rep w v_b b) {res : Bool} (h : p_laws_eqInt64SS a b  = some res) :
    Ret Try.prog 74 #[v_a, v_b] w (fun v w' => v = Value.bool res ∧ Ext w w') := by
  unfold p_laws_eqInt64SS at h
  have hS0 : St w w [] := St.start w
  refine Ret.start (fn := Try.f74) Try.func74 rfl 27 rfl rfl ?_
  refine W.seq (W.region ?_)
  refine WL.val (Value.bool false) _ (op_assign rfl) rfl ?_
  refine WL.nil ?_
  show W _ _ _ _ _ _
  refine W.seq (W.seq (W.region ?_))
  refine WL.val v_a _ (op_move rfl) rfl ?_
  have hr1 := inR_len (Ty.lift _ hS0.ext r_a)
  refine WL.val (Value.int .i64 ((a).length : Int)) _ (op_lenL sl_65 (Ty.lift _ hS0.ext r_a) rfl) rfl ?_
  refine WL.val v_b _ (op_move rfl) rfl ?_
  have hr2 := inR_len (Ty.lift _ hS0.ext r_b)
  refine WL.val (Value.int .i64 ((b).length : Int)) _ (op_lenL sl_65 (Ty.lift _ hS0.ext r_b) rfl) rfl ?_
  refine WL.val (Value.bool (((a).length : Int) != ((b).length : Int))) _ (op_neq rfl rfl) rfl ?_
  refine WL.nil ?_
  show W _ _ _ _ _ _
  refine W.cond (((a).length : Int) != ((b).length : Int)) rfl (fun hc3 => ?_) (fun hc3 => ?_)
  · replace h := ip h hc3
    refine W.seq (W.region ?_)
    refine WL.val (Value.bool false) _ (op_assign rfl) rfl ?_
    refine WL.nil ?_
    show W _ _ _ _ _ _
    refine W.ret ?_
    obtain rfl := Option.some.inj h
    show FinP _ _ _ _ _ _ _
    exact FinP.ret _ (res1 rfl rfl) ⟨rfl, hS0.ext⟩
  · replace h := inegb h hc3
    refine W.skip ?_
    show W _ _ _ _ _ _
    refine W.seq (W.seq (W.region ?_))
    refine WL.val (Value.int .i64 (0 : Int)) _ (op_assign rfl) rfl ?_
    refine WL.nil ?_
    show W _ _ _ _ _ _
    obtain ⟨res5, hres6, h⟩ := bs h
    refine W.blockLoop (fun fq wq => ∃ s, res5 = Res.fin s ∧ St w wq []) ?_ ?_
    · refine W.forN (fun k (s : Unit) fq wq => fq 0 = v_a ∧ fq 1 = v_b ∧ fq 5 = Value.int .i64 (k : Int) ∧ InR .i64 (k : Int) ∧ St w wq []) hres6 ⟨rfl, rfl, rfl, (inR_i64.2 (show (-9223372036854775808 : Int) ≤ 0 ∧ (0 : Int) ≤ 9223372036854775807 from by decide)), hS0⟩ ?_ ?_
      · intro k7 s138 ct8 f9 wd10 hk11 hb12 hI13 hbrk14 hret15
        obtain ⟨⟩ := s138
        replace hI13 : f9 0 = v_a ∧ f9 1 = v_b ∧ f9 5 = Value.int .i64 (k7 : Int) ∧ InR .i64 (k7 : Int) ∧ St w wd10 [] := hI13
        replace hb12 : p_laws_eqInt64SS_L1 a b k7  = some ct8 := hb12
        unfold p_laws_eqInt64SS_L1 at hb12
        obtain ⟨hf16, hf17, hf18, hr19, hS20⟩ := hI13
        refine W.seq (W.seq (W.region ?_))
        refine WL.val (Value.int .i64 (k7 : Int)) _ (op_move hf18) rfl ?_
        refine WL.val v_a _ (op_move hf16) rfl ?_
        have hr21 := inR_len (Ty.lift _ hS20.ext r_a)
        refine WL.val (Value.int .i64 ((a).length : Int)) _ (op_lenL sl_65 (Ty.lift _ hS20.ext r_a) rfl) rfl ?_
        refine WL.val (Value.bool (decide ((k7 : Int) < ((a).length : Int)))) _ (op_lss rfl rfl) rfl ?_
        have hl22 : (k7 : Int) < ((a).length : Int) := by omega
        refine WL.nil ?_
        show W _ _ _ _ _ _
        refine W.condT (decide ((k7 : Int) < ((a).length : Int))) rfl (decide_eq_true hl22) ?_
        refine W.skip ?_
        show W _ _ _ _ _ _
        refine W.seq ?_
        refine W.block ?_
        refine W.seq ?_
        obtain ⟨x53, hx56, hb12⟩ := bs hb12
        obtain ⟨ha54, hb55, hx56⟩ := idx_some hx56
        obtain ⟨u67, hc68, hr69⟩ := repSl.el r_a hx56
        obtain ⟨x99, hx102, hb12⟩ := bs hb12
        obtain ⟨ha100, hb101, hx102⟩ := idx_some hx102
        obtain ⟨u113, hc114, hr115⟩ := repSl.el r_b hx102
        refine W.drawR mixo 8 [] [fun _ v _ _ => v = v_a, fun _ v _ _ => v = (Value.int .i64 (k7 : Int)) ∧ InR .i64 (k7 : Int), fun _ v _ _ => v = (Value.pointer (some (elA v_a ((k7 : Int)).toNat))), fun _ v _ _ => v = u67, fun _ v _ _ => v = v_b, fun _ v _ _ => v = (Value.int .i64 (k7 : Int)) ∧ InR .i64 (k7 : Int), fun _ v _ _ => v = (Value.pointer (some (elA v_b ((k7 : Int)).toNat))), fun _ v _ _ => v = u113] (by kernel_rfl) (by kernel_rfl) ⟨⟨fun _ _ _ _ _ _ h => h, fun _ _ _ _ _ _ h => h⟩, ⟨fun _ _ _ _ _ _ h => h, fun _ _ _ _ _ _ h => h⟩, ⟨fun _ _ _ _ _ _ h => h, fun _ _ _ _ _ _ h => h⟩, ⟨fun _ _ _ _ _ _ h => h, fun _ _ _ _ _ _ h => h⟩, ⟨fun _ _ _ _ _ _ h => h, fun _ _ _ _ _ _ h => h⟩, ⟨fun _ _ _ _ _ _ h => h, fun _ _ _ _ _ _ h => h⟩, ⟨fun _ _ _ _ _ _ h => h, fun _ _ _ _ _ _ h => h⟩, ⟨fun _ _ _ _ _ _ h => h, fun _ _ _ _ _ _ h => h⟩, trivial⟩ ⟨?_, ?_, ?_, ?_, ?_, ?_, ?_, ?_, trivial⟩ ?_
        · refine ObX.op rfl ?_
          intro f24 wd25 he26 hout27 hphi28
          have hS29 : St w wd25 [] := St.extend hS20 he26
          have e30 : f24 0 = v_a := (hout27 0 rfl).trans hf16
          exact OpX.val v_a wd25 rfl (op_move e30) (Ext.refl _) rfl
        · refine ObX.op rfl ?_
          intro f31 wd32 he33 hout34 hphi35
          have hS36 : St w wd32 [] := St.extend hS20 he33
          have e37 : f31 5 = (Value.int .i64 (k7 : Int)) := (hout34 5 rfl).trans hf18
          exact OpX.val (Value.int .i64 (k7 : Int)) wd32 rfl (op_move e37) (Ext.refl _) ⟨rfl, hr19⟩
        · refine ObX.op rfl ?_
          intro f38 wd39 he40 hout41 hphi42
          have hS43 : St w wd39 [] := St.extend hS20 he40
          obtain ⟨S44, hS45, hf46⟩ := hphi42 0 17 _ rfl rfl rfl
          have e47 : f38 17 = v_a := hf46
          obtain ⟨S48, hS49, hf50⟩ := hphi42 1 18 _ rfl rfl rfl
          obtain ⟨e51, hr52⟩ : f38 18 = (Value.int .i64 (k7 : Int)) ∧ InR .i64 (k7 : Int) := hf50
          exact OpX.val (Value.pointer (some (elA v_a ((k7 : Int)).toNat))) wd39 rfl (op_idx sl_65 (Ty.lift _ hS43.ext r_a) e47 e51 ha54 hb55) (Ext.refl _) rfl
        · refine ObX.op rfl ?_
          intro f57 wd58 he59 hout60 hphi61
          have hS62 : St w wd58 [] := St.extend hS20 he59
          obtain ⟨S63, hS64, hf65⟩ := hphi61 2 19 _ rfl rfl rfl
          have e66 : f57 19 = (Value.pointer (some (elA v_a ((k7 : Int)).toNat))) := hf65
          exact OpX.val u67 wd58 rfl (op_load one_25 e66 (Ext.cell hS62.ext hc68)) (Ext.refl _) rfl
        · refine ObX.op rfl ?_
          intro f70 wd71 he72 hout73 hphi74
          have hS75 : St w wd71 [] := St.extend hS20 he72
          have e76 : f70 1 = v_b := (hout73 1 rfl).trans hf17
          exact OpX.val v_b wd71 rfl (op_move e76) (Ext.refl _) rfl
        · refine ObX.op rfl ?_
          intro f77 wd78 he79 hout80 hphi81
          have hS82 : St w wd78 [] := St.extend hS20 he79
          have e83 : f77 5 = (Value.int .i64 (k7 : Int)) := (hout80 5 rfl).trans hf18
          exact OpX.val (Value.int .i64 (k7 : Int)) wd78 rfl (op_move e83) (Ext.refl _) ⟨rfl, hr19⟩
        · refine ObX.op rfl ?_
          intro f84 wd85 he86 hout87 hphi88
          have hS89 : St w wd85 [] := St.extend hS20 he86
          obtain ⟨S90, hS91, hf92⟩ := hphi88 4 21 _ rfl rfl rfl
          have e93 : f84 21 = v_b := hf92
          obtain ⟨S94, hS95, hf96⟩ := hphi88 5 22 _ rfl rfl rfl
          obtain ⟨e97, hr98⟩ : f84 22 = (Value.int .i64 (k7 : Int)) ∧ InR .i64 (k7 : Int) := hf96
          exact OpX.val (Value.pointer (some (elA v_b ((k7 : Int)).toNat))) wd85 rfl (op_idx sl_65 (Ty.lift _ hS89.ext r_b) e93 e97 ha100 hb101) (Ext.refl _) rfl
        · refine ObX.op rfl ?_
          intro f103 wd104 he105 hout106 hphi107
          have hS108 : St w wd104 [] := St.extend hS20 he105
          obtain ⟨S109, hS110, hf111⟩ := hphi107 6 23 _ rfl rfl rfl
          have e112 : f103 23 = (Value.pointer (some (elA v_b ((k7 : Int)).toNat))) := hf111
          exact OpX.val u113 wd104 rfl (op_load one_25 e112 (Ext.cell hS108.ext hc114)) (Ext.refl _) rfl
        · intro f116 wd117 Ss118 he119 hout120 hSn121 hSd122 hphi123
          show WL _ _ _ _ _ _ _
          have hS124 : St w wd117 [] := St.extend hS20 he119
          have e125 : f116 20 = u67 := hphi123 3 20 _ (by decide) rfl rfl
          have e126 : f116 24 = u113 := hphi123 7 24 _ (by decide) rfl rfl
          have e127 : f116 0 = v_a := (hout120 0 rfl).trans hf16
          have e128 : f116 1 = v_b := (hout120 1 rfl).trans hf17
          have e129 : f116 5 = (Value.int .i64 (k7 : Int)) := (hout120 5 rfl).trans hf18
          obtain ⟨x130, hx131, hb12⟩ := bs hb12
          refine WL.call _ (op_call fn_15 (args2 e125 e126)) (c_laws_eqInt64S (Ty.lift _ hS124.ext hr69) (Ty.lift _ hS124.ext hr115) hx131) rfl ?_
          rintro _ wd132 ⟨rfl, he133⟩
          have hS135 := St.extend hS124 he133
          replace hS135 : St w wd132 [] := hS135
          refine WL.val (Value.bool (!x130)) _ (op_not rfl) rfl ?_
          refine WL.nil ?_
          show W _ _ _ _ _ _
          refine W.cond (!x130) rfl (fun hc136 => ?_) (fun hc136 => ?_)
          · replace hb12 := ip hb12 hc136
            refine W.seq (W.region ?_)
            refine WL.val (Value.bool false) _ (op_assign rfl) rfl ?_
            refine WL.nil ?_
            show W _ _ _ _ _ _
            refine W.ret ?_
            obtain rfl := Option.some.inj hb12
            obtain rfl := hret15 _ rfl
            replace h := onRes_ret h
            obtain rfl := Option.some.inj h
            show FinP _ _ _ _ _ _ _
            exact FinP.ret _ (res1 rfl rfl) ⟨rfl, hS135.ext⟩
          · replace hb12 := inegb hb12 hc136
            refine W.skip ?_
            show W _ _ _ _ _ _
            refine W.region ?_
            refine WL.val (Value.int .i64 (k7 : Int)) _ (op_move e129) rfl ?_
            refine WL.val (Value.int .i64 (w64 ((k7 : Int) + (1 : Int)))) _ (op_add rfl rfl) rfl ?_
            refine WL.val (Value.int .i64 (w64 ((k7 : Int) + (1 : Int)))) _ (op_assign rfl) rfl ?_
            refine WL.nil ?_
            obtain rfl := Option.some.inj hb12
            show ∃ s, _ = Ctl.next s ∧ _
            exact ⟨_, rfl, e127, e128, (ctr_next hl22 hr21), (ctr_rng hl22 hr21), hS135⟩
      · intro s143 f139 wd140 hs141 hI142
        obtain ⟨⟩ := s143
        replace hI142 : f139 0 = v_a ∧ f139 1 = v_b ∧ f139 5 = Value.int .i64 (((a).length : Nat) : Int) ∧ InR .i64 (((a).length : Nat) : Int) ∧ St w wd140 [] := hI142
        obtain ⟨hf144, hf145, hf146, hr147, hS148⟩ := hI142
        refine W.seq (W.seq (W.region ?_))
        refine WL.val (Value.int .i64 (((a).length : Nat) : Int)) _ (op_move hf146) rfl ?_
        refine WL.val v_a _ (op_move hf144) rfl ?_
        have hr149 := inR_len (Ty.lift _ hS148.ext r_a)
        refine WL.val (Value.int .i64 ((a).length : Int)) _ (op_lenL sl_65 (Ty.lift _ hS148.ext r_a) rfl) rfl ?_
        refine WL.val (Value.bool (decide ((((a).length : Nat) : Int) < ((a).length : Int)))) _ (op_lss rfl rfl) rfl ?_
        have hl150 : ¬ (((a).length : Nat) : Int) < ((a).length : Int) := by omega
        refine WL.nil ?_
        show W _ _ _ _ _ _
        refine W.condF (decide ((((a).length : Nat) : Int) < ((a).length : Int))) rfl (decide_eq_false hl150) ?_
        refine W.exit ?_
        show _ = _ ∧ _
        exact ⟨rfl, _, hs141, hS148⟩
    · rintro f151 wd152 ⟨s154, rfl, hq153⟩
      replace h := onRes_fin h
      obtain ⟨⟩ := s154
      replace hq153 : St w wd152 [] := hq153
      have hS155 := hq153
      show W _ _ _ _ _ _
      refine W.seq (W.region ?_)
      refine WL.val (Value.bool true) _ (op_assign rfl) rfl ?_
      refine WL.nil ?_
      show W _ _ _ _ _ _
      refine W.ret ?_
      obtain rfl := Option.some.inj h
      show FinP _ _ _ _ _ _ _
      exact FinP.ret _ (res1 rfl rfl) ⟨rfl, hS155.ext⟩

theorem c_laws_eqInt64SSS {w : World} {a : (List (List (List Int)))} {v_a : Value} {b : (List (List (List Int)))} {v_b : Value} (r_a : (Ty.sl (Ty.sl (Ty.sl (Ty.i .i64)))).rep w v_a a) (r_b : (Ty.sl (Ty.sl (Ty.sl (Ty.i .i64)))).rep w v_b b) {res : Bool} (h : p_laws_eqInt64SSS a b  = some res) :
    Ret Try.prog 41 #[v_a, v_b] w (fun v w' => v = Value.bool res ∧ Ext w w') := by
  unfold p_laws_eqInt64SSS at h
  have hS0 : St w w [] := St.start w
  refine Ret.start (fn := Try.f41) Try.func41 rfl 27 rfl rfl ?_
  refine W.seq (W.region ?_)
  refine WL.val (Value.bool false) _ (op_assign rfl) rfl ?_
  refine WL.nil ?_
  show W _ _ _ _ _ _
  refine W.seq (W.seq (W.region ?_))
  refine WL.val v_a _ (op_move rfl) rfl ?_
  have hr1 := inR_len (Ty.lift _ hS0.ext r_a)
  refine WL.val (Value.int .i64 ((a).length : Int)) _ (op_lenL sl_22 (Ty.lift _ hS0.ext r_a) rfl) rfl ?_
  refine WL.val v_b _ (op_move rfl) rfl ?_
  have hr2 := inR_len (Ty.lift _ hS0.ext r_b)
  refine WL.val (Value.int .i64 ((b).length : Int)) _ (op_lenL sl_22 (Ty.lift _ hS0.ext r_b) rfl) rfl ?_
  refine WL.val (Value.bool (((a).length : Int) != ((b).length : Int))) _ (op_neq rfl rfl) rfl ?_
  refine WL.nil ?_
  show W _ _ _ _ _ _
  refine W.cond (((a).length : Int) != ((b).length : Int)) rfl (fun hc3 => ?_) (fun hc3 => ?_)
  · replace h := ip h hc3
    refine W.seq (W.region ?_)
    refine WL.val (Value.bool false) _ (op_assign rfl) rfl ?_
    refine WL.nil ?_
    show W _ _ _ _ _ _
    refine W.ret ?_
    obtain rfl := Option.some.inj h
    show FinP _ _ _ _ _ _ _
    exact FinP.ret _ (res1 rfl rfl) ⟨rfl, hS0.ext⟩
  · replace h := inegb h hc3
    refine W.skip ?_
    show W _ _ _ _ _ _
    refine W.seq (W.seq (W.region ?_))
    refine WL.val (Value.int .i64 (0 : Int)) _ (op_assign rfl) rfl ?_
    refine WL.nil ?_
    show W _ _ _ _ _ _
    obtain ⟨res5, hres6, h⟩ := bs h
    refine W.blockLoop (fun fq wq => ∃ s, res5 = Res.fin s ∧ St w wq []) ?_ ?_
    · refine W.forN (fun k (s : Unit) fq wq => fq 0 = v_a ∧ fq 1 = v_b ∧ fq 5 = Value.int .i64 (k : Int) ∧ InR .i64 (k : Int) ∧ St w wq []) hres6 ⟨rfl, rfl, rfl, (inR_i64.2 (show (-9223372036854775808 : Int) ≤ 0 ∧ (0 : Int) ≤ 9223372036854775807 from by decide)), hS0⟩ ?_ ?_
      · intro k7 s138 ct8 f9 wd10 hk11 hb12 hI13 hbrk14 hret15
        obtain ⟨⟩ := s138
        replace hI13 : f9 0 = v_a ∧ f9 1 = v_b ∧ f9 5 = Value.int .i64 (k7 : Int) ∧ InR .i64 (k7 : Int) ∧ St w wd10 [] := hI13
        replace hb12 : p_laws_eqInt64SSS_L1 a b k7  = some ct8 := hb12
        unfold p_laws_eqInt64SSS_L1 at hb12
        obtain ⟨hf16, hf17, hf18, hr19, hS20⟩ := hI13
        refine W.seq (W.seq (W.region ?_))
        refine WL.val (Value.int .i64 (k7 : Int)) _ (op_move hf18) rfl ?_
        refine WL.val v_a _ (op_move hf16) rfl ?_
        have hr21 := inR_len (Ty.lift _ hS20.ext r_a)
        refine WL.val (Value.int .i64 ((a).length : Int)) _ (op_lenL sl_22 (Ty.lift _ hS20.ext r_a) rfl) rfl ?_
        refine WL.val (Value.bool (decide ((k7 : Int) < ((a).length : Int)))) _ (op_lss rfl rfl) rfl ?_
        have hl22 : (k7 : Int) < ((a).length : Int) := by omega
        refine WL.nil ?_
        show W _ _ _ _ _ _
        refine W.condT (decide ((k7 : Int) < ((a).length : Int))) rfl (decide_eq_true hl22) ?_
        refine W.skip ?_
        show W _ _ _ _ _ _
        refine W.seq ?_
        refine W.block ?_
        refine W.seq ?_
        obtain ⟨x53, hx56, hb12⟩ := bs hb12
        obtain ⟨ha54, hb55, hx56⟩ := idx_some hx56
        obtain ⟨u67, hc68, hr69⟩ := repSl.el r_a hx56
        obtain ⟨x99, hx102, hb12⟩ := bs hb12
        obtain ⟨ha100, hb101, hx102⟩ := idx_some hx102
        obtain ⟨u113, hc114, hr115⟩ := repSl.el r_b hx102
        refine W.drawR mixo 8 [] [fun _ v _ _ => v = v_a, fun _ v _ _ => v = (Value.int .i64 (k7 : Int)) ∧ InR .i64 (k7 : Int), fun _ v _ _ => v = (Value.pointer (some (elA v_a ((k7 : Int)).toNat))), fun _ v _ _ => v = u67, fun _ v _ _ => v = v_b, fun _ v _ _ => v = (Value.int .i64 (k7 : Int)) ∧ InR .i64 (k7 : Int), fun _ v _ _ => v = (Value.pointer (some (elA v_b ((k7 : Int)).toNat))), fun _ v _ _ => v = u113] (by kernel_rfl) (by kernel_rfl) ⟨⟨fun _ _ _ _ _ _ h => h, fun _ _ _ _ _ _ h => h⟩, ⟨fun _ _ _ _ _ _ h => h, fun _ _ _ _ _ _ h => h⟩, ⟨fun _ _ _ _ _ _ h => h, fun _ _ _ _ _ _ h => h⟩, ⟨fun _ _ _ _ _ _ h => h, fun _ _ _ _ _ _ h => h⟩, ⟨fun _ _ _ _ _ _ h => h, fun _ _ _ _ _ _ h => h⟩, ⟨fun _ _ _ _ _ _ h => h, fun _ _ _ _ _ _ h => h⟩, ⟨fun _ _ _ _ _ _ h => h, fun _ _ _ _ _ _ h => h⟩, ⟨fun _ _ _ _ _ _ h => h, fun _ _ _ _ _ _ h => h⟩, trivial⟩ ⟨?_, ?_, ?_, ?_, ?_, ?_, ?_, ?_, trivial⟩ ?_
        · refine ObX.op rfl ?_
          intro f24 wd25 he26 hout27 hphi28
          have hS29 : St w wd25 [] := St.extend hS20 he26
          have e30 : f24 0 = v_a := (hout27 0 rfl).trans hf16
          exact OpX.val v_a wd25 rfl (op_move e30) (Ext.refl _) rfl
        · refine ObX.op rfl ?_
          intro f31 wd32 he33 hout34 hphi35
          have hS36 : St w wd32 [] := St.extend hS20 he33
          have e37 : f31 5 = (Value.int .i64 (k7 : Int)) := (hout34 5 rfl).trans hf18
          exact OpX.val (Value.int .i64 (k7 : Int)) wd32 rfl (op_move e37) (Ext.refl _) ⟨rfl, hr19⟩
        · refine ObX.op rfl ?_
          intro f38 wd39 he40 hout41 hphi42
          have hS43 : St w wd39 [] := St.extend hS20 he40
          obtain ⟨S44, hS45, hf46⟩ := hphi42 0 17 _ rfl rfl rfl
          have e47 : f38 17 = v_a := hf46
          obtain ⟨S48, hS49, hf50⟩ := hphi42 1 18 _ rfl rfl rfl
          obtain ⟨e51, hr52⟩ : f38 18 = (Value.int .i64 (k7 : Int)) ∧ InR .i64 (k7 : Int) := hf50
          exact OpX.val (Value.pointer (some (elA v_a ((k7 : Int)).toNat))) wd39 rfl (op_idx sl_22 (Ty.lift _ hS43.ext r_a) e47 e51 ha54 hb55) (Ext.refl _) rfl
        · refine ObX.op rfl ?_
          intro f57 wd58 he59 hout60 hphi61
          have hS62 : St w wd58 [] := St.extend hS20 he59
          obtain ⟨S63, hS64, hf65⟩ := hphi61 2 19 _ rfl rfl rfl
          have e66 : f57 19 = (Value.pointer (some (elA v_a ((k7 : Int)).toNat))) := hf65
          exact OpX.val u67 wd58 rfl (op_load one_65 e66 (Ext.cell hS62.ext hc68)) (Ext.refl _) rfl
        · refine ObX.op rfl ?_
          intro f70 wd71 he72 hout73 hphi74
          have hS75 : St w wd71 [] := St.extend hS20 he72
          have e76 : f70 1 = v_b := (hout73 1 rfl).trans hf17
          exact OpX.val v_b wd71 rfl (op_move e76) (Ext.refl _) rfl
        · refine ObX.op rfl ?_
          intro f77 wd78 he79 hout80 hphi81
          have hS82 : St w wd78 [] := St.extend hS20 he79
          have e83 : f77 5 = (Value.int .i64 (k7 : Int)) := (hout80 5 rfl).trans hf18
          exact OpX.val (Value.int .i64 (k7 : Int)) wd78 rfl (op_move e83) (Ext.refl _) ⟨rfl, hr19⟩
        · refine ObX.op rfl ?_
          intro f84 wd85 he86 hout87 hphi88
          have hS89 : St w wd85 [] := St.extend hS20 he86
          obtain ⟨S90, hS91, hf92⟩ := hphi88 4 21 _ rfl rfl rfl
          have e93 : f84 21 = v_b := hf92
          obtain ⟨S94, hS95, hf96⟩ := hphi88 5 22 _ rfl rfl rfl
          obtain ⟨e97, hr98⟩ : f84 22 = (Value.int .i64 (k7 : Int)) ∧ InR .i64 (k7 : Int) := hf96
          exact OpX.val (Value.pointer (some (elA v_b ((k7 : Int)).toNat))) wd85 rfl (op_idx sl_22 (Ty.lift _ hS89.ext r_b) e93 e97 ha100 hb101) (Ext.refl _) rfl
        · refine ObX.op rfl ?_
          intro f103 wd104 he105 hout106 hphi107
          have hS108 : St w wd104 [] := St.extend hS20 he105
          obtain ⟨S109, hS110, hf111⟩ := hphi107 6 23 _ rfl rfl rfl
          have e112 : f103 23 = (Value.pointer (some (elA v_b ((k7 : Int)).toNat))) := hf111
          exact OpX.val u113 wd104 rfl (op_load one_65 e112 (Ext.cell hS108.ext hc114)) (Ext.refl _) rfl
        · intro f116 wd117 Ss118 he119 hout120 hSn121 hSd122 hphi123
          show WL _ _ _ _ _ _ _
          have hS124 : St w wd117 [] := St.extend hS20 he119
          have e125 : f116 20 = u67 := hphi123 3 20 _ (by decide) rfl rfl
          have e126 : f116 24 = u113 := hphi123 7 24 _ (by decide) rfl rfl
          have e127 : f116 0 = v_a := (hout120 0 rfl).trans hf16
          have e128 : f116 1 = v_b := (hout120 1 rfl).trans hf17
          have e129 : f116 5 = (Value.int .i64 (k7 : Int)) := (hout120 5 rfl).trans hf18
          obtain ⟨x130, hx131, hb12⟩ := bs hb12
          refine WL.call _ (op_call fn_74 (args2 e125 e126)) (c_laws_eqInt64SS (Ty.lift _ hS124.ext hr69) (Ty.lift _ hS124.ext hr115) hx131) rfl ?_
          rintro _ wd132 ⟨rfl, he133⟩
          have hS135 := St.extend hS124 he133
          replace hS135 : St w wd132 [] := hS135
          refine WL.val (Value.bool (!x130)) _ (op_not rfl) rfl ?_
          refine WL.nil ?_
          show W _ _ _ _ _ _
          refine W.cond (!x130) rfl (fun hc136 => ?_) (fun hc136 => ?_)
          · replace hb12 := ip hb12 hc136
            refine W.seq (W.region ?_)
            refine WL.val (Value.bool false) _ (op_assign rfl) rfl ?_
            refine WL.nil ?_
            show W _ _ _ _ _ _
            refine W.ret ?_
            obtain rfl := Option.some.inj hb12
            obtain rfl := hret15 _ rfl
            replace h := onRes_ret h
            obtain rfl := Option.some.inj h
            show FinP _ _ _ _ _ _ _
            exact FinP.ret _ (res1 rfl rfl) ⟨rfl, hS135.ext⟩
          · replace hb12 := inegb hb12 hc136
            refine W.skip ?_
            show W _ _ _ _ _ _
            refine W.region ?_
            refine WL.val (Value.int .i64 (k7 : Int)) _ (op_move e129) rfl ?_
            refine WL.val (Value.int .i64 (w64 ((k7 : Int) + (1 : Int)))) _ (op_add rfl rfl) rfl ?_
            refine WL.val (Value.int .i64 (w64 ((k7 : Int) + (1 : Int)))) _ (op_assign rfl) rfl ?_
            refine WL.nil ?_
            obtain rfl := Option.some.inj hb12
            show ∃ s, _ = Ctl.next s ∧ _
            exact ⟨_, rfl, e127, e128, (ctr_next hl22 hr21), (ctr_rng hl22 hr21), hS135⟩
      · intro s143 f139 wd140 hs141 hI142
        obtain ⟨⟩ := s143
        replace hI142 : f139 0 = v_a ∧ f139 1 = v_b ∧ f139 5 = Value.int .i64 (((a).length : Nat) : Int) ∧ InR .i64 (((a).length : Nat) : Int) ∧ St w wd140 [] := hI142
        obtain ⟨hf144, hf145, hf146, hr147, hS148⟩ := hI142
        refine W.seq (W.seq (W.region ?_))
        refine WL.val (Value.int .i64 (((a).length : Nat) : Int)) _ (op_move hf146) rfl ?_
        refine WL.val v_a _ (op_move hf144) rfl ?_
        have hr149 := inR_len (Ty.lift _ hS148.ext r_a)
        refine WL.val (Value.int .i64 ((a).length : Int)) _ (op_lenL sl_22 (Ty.lift _ hS148.ext r_a) rfl) rfl ?_
        refine WL.val (Value.bool (decide ((((a).length : Nat) : Int) < ((a).length : Int)))) _ (op_lss rfl rfl) rfl ?_
        have hl150 : ¬ (((a).length : Nat) : Int) < ((a).length : Int) := by omega
        refine WL.nil ?_
        show W _ _ _ _ _ _
        refine W.condF (decide ((((a).length : Nat) : Int) < ((a).length : Int))) rfl (decide_eq_false hl150) ?_
        refine W.exit ?_
        show _ = _ ∧ _
        exact ⟨rfl, _, hs141, hS148⟩
    · rintro f151 wd152 ⟨s154, rfl, hq153⟩
      replace h := onRes_fin h
      obtain ⟨⟩ := s154
      replace hq153 : St w wd152 [] := hq153
      have hS155 := hq153
      show W _ _ _ _ _ _
      refine W.seq (W.region ?_)
      refine WL.val (Value.bool true) _ (op_assign rfl) rfl ?_
      refine WL.nil ?_
      show W _ _ _ _ _ _
      refine W.ret ?_
      obtain rfl := Option.some.inj h
      show FinP _ _ _ _ _ _ _
      exact FinP.ret _ (res1 rfl rfl) ⟨rfl, hS155.ext⟩

theorem c_laws_eqRing {w : World} {a_Table : (List (List (List Int)))} {v_a_Table : Value} {b_Table : (List (List (List Int)))} {v_b_Table : Value} (r_a_Table : (Ty.sl (Ty.sl (Ty.sl (Ty.i .i64)))).rep w v_a_Table a_Table) (r_b_Table : (Ty.sl (Ty.sl (Ty.sl (Ty.i .i64)))).rep w v_b_Table b_Table) {res : Bool} (h : p_laws_eqRing a_Table b_Table  = some res) :
    Ret Try.prog 14 #[(Value.agg #[v_a_Table]), (Value.agg #[v_b_Table])] w (fun v w' => v = Value.bool res ∧ Ext w w') := by
  unfold p_laws_eqRing at h
  have hS0 : St w w [] := St.start w
  refine Ret.start (fn := Try.f14) Try.func14 rfl 11 rfl rfl ?_
  refine W.seq (W.region ?_)
  refine WL.box hS0 rfl (cs := [v_a_Table]) rfl rfl ?_
  intro b1 wd2 hS3 he4 hx5
  replace hS3 : St w wd2 [bx b1 [v_a_Table]] := hS3
  have hx6 := St.boxAt hS3 0 rfl
  have hE7 : Ext w wd2 := hS3.ext
  have hS8 : St wd2 wd2 [] := St.start wd2
  refine WL.box hS8 rfl (cs := [v_b_Table]) rfl rfl ?_
  intro b9 wd10 hS11 he12 hx13
  replace hS11 : St wd2 wd10 [bx b9 [v_b_Table]] := hS11
  have hx14 := St.boxAt hS11 0 rfl
  have hE15 : Ext w wd10 := (Ext.trans hE7 hS11.ext)
  have hE16 : Ext wd2 wd10 := hS11.ext
  have hS17 : St wd10 wd10 [] := St.start wd10
  refine WL.val (Value.bool false) _ (op_assign rfl) rfl ?_
  refine WL.nil ?_
  show W _ _ _ _ _ _
  refine W.seq (W.seq (W.region ?_))
  refine WL.val (Value.pointer (some ⟨b1, 0, none⟩)) _ (op_fieldAddr fd_29_0 rfl) rfl ?_
  refine WL.val v_a_Table _ (op_load one_22 rfl (BoxAt.cell (BoxAt.lift (Ext.trans hE16 hS17.ext) hx6) rfl)) rfl ?_
  refine WL.val (Value.pointer (some ⟨b9, 0, none⟩)) _ (op_fieldAddr fd_29_0 rfl) rfl ?_
  refine WL.val v_b_Table _ (op_load one_22 rfl (BoxAt.cell (BoxAt.lift hS17.ext hx14) rfl)) rfl ?_
  obtain ⟨x18, hx19, h⟩ := bs h
  refine WL.call _ (op_call fn_41 (args2 rfl rfl)) (c_laws_eqInt64SSS (Ty.lift _ (Ext.trans hE15 hS17.ext) r_a_Table) (Ty.lift _ (Ext.trans hE15 hS17.ext) r_b_Table) hx19) rfl ?_
  rintro _ wd20 ⟨rfl, he21⟩
  have hS23 := St.extend hS17 he21
  replace hS23 : St wd10 wd20 [] := hS23
  refine WL.val (Value.bool (!x18)) _ (op_not rfl) rfl ?_
  refine WL.nil ?_
  show W _ _ _ _ _ _
  refine W.cond (!x18) rfl (fun hc24 => ?_) (fun hc24 => ?_)
  · replace h := ip h hc24
    refine W.seq (W.region ?_)
    refine WL.val (Value.bool false) _ (op_assign rfl) rfl ?_
    refine WL.nil ?_
    show W _ _ _ _ _ _
    refine W.ret ?_
    obtain rfl := Option.some.inj h
    show FinP _ _ _ _ _ _ _
    exact FinP.ret _ (res1 rfl rfl) ⟨rfl, (Ext.trans hE15 hS23.ext)⟩
  · replace h := inegb h hc24
    refine W.skip ?_
    show W _ _ _ _ _ _
    refine W.seq (W.region ?_)
    refine WL.val (Value.bool true) _ (op_assign rfl) rfl ?_
    refine WL.nil ?_
    show W _ _ _ _ _ _
    refine W.ret ?_
    obtain rfl := Option.some.inj h
    show FinP _ _ _ _ _ _ _
    exact FinP.ret _ (res1 rfl rfl) ⟨rfl, (Ext.trans hE15 hS23.ext)⟩

theorem c_laws_szAction {w : World} {a_Matrices : (List (List (List Int)))} {v_a_Matrices : Value} {left : Int} (r_a_Matrices : (Ty.sl (Ty.sl (Ty.sl (Ty.i .i64)))).rep w v_a_Matrices a_Matrices) (r_left : InR .i64 left) {res : Int} (h : p_laws_szAction a_Matrices left  = some res) :
    Ret Try.prog 18 #[(Value.agg #[v_a_Matrices]), (Value.int .i64 left)] w (fun v w' => v = Value.int .i64 res ∧ InR .i64 res ∧ Ext w w') := by
  unfold p_laws_szAction at h
  have hS0 : St w w [] := St.start w
  refine Ret.start (fn := Try.f18) Try.func18 rfl 12 rfl rfl ?_
  refine W.seq (W.region ?_)
  refine WL.box hS0 rfl (cs := [v_a_Matrices]) rfl rfl ?_
  intro b1 wd2 hS3 he4 hx5
  replace hS3 : St w wd2 [bx b1 [v_a_Matrices]] := hS3
  have hx6 := St.boxAt hS3 0 rfl
  have hE7 : Ext w wd2 := hS3.ext
  have hS8 : St wd2 wd2 [] := St.start wd2
  refine WL.val (Value.int .i64 (0 : Int)) _ (op_assign rfl) rfl ?_
  refine WL.nil ?_
  show W _ _ _ _ _ _
  refine W.seq (W.region ?_)
  refine WL.val (Value.pointer (some ⟨b1, 0, none⟩)) _ (op_fieldAddr fd_39_0 rfl) rfl ?_
  refine WL.val v_a_Matrices _ (op_load one_22 rfl (BoxAt.cell (BoxAt.lift hS8.ext hx6) rfl)) rfl ?_
  refine WL.val (Value.int .i64 left) _ (op_move rfl) rfl ?_
  obtain ⟨x9, hx10, h⟩ := bs h
  refine WL.call _ (op_call fn_34 (args2 rfl rfl)) (c_laws_szInt64SSS (Ty.lift _ (Ext.trans hE7 hS8.ext) r_a_Matrices) r_left hx10) rfl ?_
  rintro _ wd12 ⟨rfl, hr11, he13⟩
  have hS15 := St.extend hS8 he13
  replace hS15 : St wd2 wd12 [] := hS15
  refine WL.val (Value.int .i64 x9) _ (op_assign rfl) rfl ?_
  refine WL.nil ?_
  show W _ _ _ _ _ _
  refine W.seq (W.seq (W.region ?_))
  refine WL.val (Value.int .i64 x9) _ (op_move rfl) rfl ?_
  refine WL.val (Value.bool (decide (x9 < (0 : Int)))) _ (op_lss rfl rfl) rfl ?_
  refine WL.nil ?_
  show W _ _ _ _ _ _
  refine W.cond (decide (x9 < (0 : Int))) rfl (fun hc16 => ?_) (fun hc16 => ?_)
  · replace h := ip h hc16
    refine W.seq (W.region ?_)
    refine WL.val (Value.int .i64 (-1 : Int)) _ (op_assign rfl) rfl ?_
    refine WL.nil ?_
    show W _ _ _ _ _ _
    refine W.ret ?_
    obtain rfl := Option.some.inj h
    show FinP _ _ _ _ _ _ _
    exact FinP.ret _ (res1 rfl rfl) ⟨rfl, (inR_i64.2 (show (-9223372036854775808 : Int) ≤ -1 ∧ (-1 : Int) ≤ 9223372036854775807 from by decide)), (Ext.trans hE7 hS15.ext)⟩
  · replace h := inegb h hc16
    refine W.skip ?_
    show W _ _ _ _ _ _
    refine W.seq (W.region ?_)
    refine WL.val (Value.int .i64 x9) _ (op_move rfl) rfl ?_
    refine WL.val (Value.int .i64 x9) _ (op_assign rfl) rfl ?_
    refine WL.nil ?_
    show W _ _ _ _ _ _
    refine W.ret ?_
    obtain rfl := Option.some.inj h
    show FinP _ _ _ _ _ _ _
    exact FinP.ret _ (res1 rfl rfl) ⟨rfl, hr11, (Ext.trans hE7 hS15.ext)⟩

theorem c_laws_toAction {w : World} {a_Matrices : (List (List (List Int)))} {v_a_Matrices : Value} (r_a_Matrices : (Ty.sl (Ty.sl (Ty.sl (Ty.i .i64)))).rep w v_a_Matrices a_Matrices) {res : (List (List (List Int)))} (h : p_laws_toAction a_Matrices  = some res) :
    Ret Try.prog 20 #[(Value.agg #[v_a_Matrices])] w (fun v w' => ∃ (u0 : Value), v = (Value.agg #[u0]) ∧ Ext w w' ∧ Sep w.heap.size w' [(Ty.sl (Ty.sl (Ty.sl (Ty.i .i64)))).at u0 res]) := by
  unfold p_laws_toAction at h
  have hS0 : St w w [] := St.start w
  refine Ret.start (fn := Try.f20) Try.func20 rfl 9 rfl rfl ?_
  refine W.seq (W.region ?_)
  refine WL.box hS0 rfl (cs := [v_a_Matrices]) rfl rfl ?_
  intro b1 wd2 hS3 he4 hx5
  replace hS3 : St w wd2 [bx b1 [v_a_Matrices]] := hS3
  have hx6 := St.boxAt hS3 0 rfl
  have hE7 : Ext w wd2 := hS3.ext
  have hS8 : St wd2 wd2 [] := St.start wd2
  refine WL.alloc hS8 ze_42 (cs := [(Value.slice none 0 0)]) rfl rfl ?_
  intro b9 wd10 hS11 he12
  replace hS11 : St wd2 wd10 [bx b9 [(Value.slice none 0 0)]] := hS11
  refine WL.nil ?_
  show W _ _ _ _ _ _
  refine W.seq (W.region ?_)
  refine WL.alloc hS11 ze_42 (cs := [(Value.slice none 0 0)]) rfl rfl ?_
  intro b13 wd14 hS15 he16
  replace hS15 : St wd2 wd14 [bx b9 [(Value.slice none 0 0)], bx b13 [(Value.slice none 0 0)]] := hS15
  refine WL.nil ?_
  show W _ _ _ _ _ _
  refine W.seq (W.region ?_)
  refine WL.val (Value.pointer (some ⟨b1, 0, none⟩)) _ (op_fieldAddr fd_39_0 rfl) rfl ?_
  refine WL.val v_a_Matrices _ (op_load one_22 rfl (BoxAt.cell (BoxAt.lift hS15.ext hx6) rfl)) rfl ?_
  obtain ⟨x17, hx18, h⟩ := bs h
  refine WL.call _ (op_call fn_37 (args1 rfl)) (c_laws_toInt64SSS (Ty.lift _ (Ext.trans hE7 hS15.ext) r_a_Matrices) hx18) rfl ?_
  rintro u19 wd20 ⟨_, rfl, he21, hs22⟩
  have hS23 := St.join hS15 he21 hs22
  replace hS23 : St wd2 wd20 [bx b9 [(Value.slice none 0 0)], bx b13 [(Value.slice none 0 0)], (Ty.sl (Ty.sl (Ty.sl (Ty.i .i64)))).at u19 x17] := hS23
  refine WL.val (Value.pointer (some ⟨b13, 0, none⟩)) _ (op_fieldAddr fd_42_0 rfl) rfl ?_
  refine WL.storeBox [u19] hS23 (k := 1) rfl rfl rfl (us := [u19]) (cells_rep (St.rep (t := (Ty.sl (Ty.sl (Ty.sl (Ty.i .i64))))) hS23 2 rfl)) sz_22 rfl rfl (all_rep (St.rep (t := (Ty.sl (Ty.sl (Ty.sl (Ty.i .i64))))) hS23 2 rfl) all_nil) rfl ?_
  intro wd24 hS25
  replace hS25 : St wd2 wd24 [bx b9 [(Value.slice none 0 0)], bx b13 [u19], (Ty.sl (Ty.sl (Ty.sl (Ty.i .i64)))).at u19 x17] := hS25
  refine WL.nil ?_
  show W _ _ _ _ _ _
  refine W.seq (W.region ?_)
  refine WL.val (Value.agg #[u19]) _ (op_loadBox st_42 rfl (St.boxAt hS25 1 rfl) rfl rfl) rfl ?_
  refine WL.storeBox [u19] hS25 (k := 0) rfl rfl rfl (us := [u19]) rfl sz_42 rfl rfl (all_rep (St.rep (t := (Ty.sl (Ty.sl (Ty.sl (Ty.i .i64))))) hS25 2 rfl) all_nil) rfl ?_
  intro wd26 hS27
  replace hS27 : St wd2 wd26 [bx b9 [u19], bx b13 [u19], (Ty.sl (Ty.sl (Ty.sl (Ty.i .i64)))).at u19 x17] := hS27
  refine WL.nil ?_
  show W _ _ _ _ _ _
  refine W.ret ?_
  obtain rfl := Option.some.inj h
  show FinP _ _ _ _ _ _ _
  exact FinP.ret _ (resC rfl rfl st_42 (St.boxAt hS27 0 rfl) rfl) ⟨u19, rfl, (Ext.trans hE7 hS27.ext), (St.out (St.pick hS27 [2] rfl) (hE7))⟩

theorem c_spec_l09Family {w : World} {r_Table : (List (List (List Int)))} {v_r_Table : Value} {a_Matrices : (List (List (List Int)))} {v_a_Matrices : Value} (r_r_Table : (Ty.sl (Ty.sl (Ty.sl (Ty.i .i64)))).rep w v_r_Table r_Table) (r_a_Matrices : (Ty.sl (Ty.sl (Ty.sl (Ty.i .i64)))).rep w v_a_Matrices a_Matrices) {res : Bool} (h : p_spec_l09Family r_Table a_Matrices  = some res) :
    Ret Try.prog 77 #[(Value.agg #[v_r_Table]), (Value.agg #[v_a_Matrices])] w (fun v w' => v = Value.bool res ∧ Ext w w') := by
  unfold p_spec_l09Family at h
  have hS0 : St w w [] := St.start w
  refine Ret.start (fn := Try.f77) Try.func77 rfl 82 rfl rfl ?_
  refine W.seq (W.region ?_)
  refine WL.box hS0 rfl (cs := [v_r_Table]) rfl rfl ?_
  intro b1 wd2 hS3 he4 hx5
  replace hS3 : St w wd2 [bx b1 [v_r_Table]] := hS3
  have hx6 := St.boxAt hS3 0 rfl
  have hE7 : Ext w wd2 := hS3.ext
  have hS8 : St wd2 wd2 [] := St.start wd2
  refine WL.box hS8 rfl (cs := [v_a_Matrices]) rfl rfl ?_
  intro b9 wd10 hS11 he12 hx13
  replace hS11 : St wd2 wd10 [bx b9 [v_a_Matrices]] := hS11
  have hx14 := St.boxAt hS11 0 rfl
  have hE15 : Ext w wd10 := (Ext.trans hE7 hS11.ext)
  have hE16 : Ext wd2 wd10 := hS11.ext
  have hS17 : St wd10 wd10 [] := St.start wd10
  refine WL.val (Value.bool false) _ (op_assign rfl) rfl ?_
  refine WL.nil ?_
  show W _ _ _ _ _ _
  refine W.seq (W.seq (W.region ?_))
  refine WL.val (Value.pointer (some ⟨b9, 0, none⟩)) _ (op_fieldAddr fd_42_0 rfl) rfl ?_
  refine WL.val v_a_Matrices _ (op_load one_22 rfl (BoxAt.cell (BoxAt.lift hS17.ext hx14) rfl)) rfl ?_
  have hr18 := inR_len (Ty.lift _ (Ext.trans hE15 hS17.ext) r_a_Matrices)
  refine WL.val (Value.int .i64 ((a_Matrices).length : Int)) _ (op_lenL sl_22 (Ty.lift _ (Ext.trans hE15 hS17.ext) r_a_Matrices) rfl) rfl ?_
  refine WL.val (Value.pointer (some ⟨b1, 0, none⟩)) _ (op_fieldAddr fd_29_0 rfl) rfl ?_
  refine WL.val v_r_Table _ (op_load one_22 rfl (BoxAt.cell (BoxAt.lift (Ext.trans hE16 hS17.ext) hx6) rfl)) rfl ?_
  have hr19 := inR_len (Ty.lift _ (Ext.trans hE15 hS17.ext) r_r_Table)
  refine WL.val (Value.int .i64 ((r_Table).length : Int)) _ (op_lenL sl_22 (Ty.lift _ (Ext.trans hE15 hS17.ext) r_r_Table) rfl) rfl ?_
  refine WL.val (Value.bool (((a_Matrices).length : Int) != ((r_Table).length : Int))) _ (op_neq rfl rfl) rfl ?_
  refine WL.val (Value.bool (((a_Matrices).length : Int) != ((r_Table).length : Int))) _ (op_move rfl) rfl ?_
  refine WL.cut 5 (fun fq wq => fq 3 = (Value.pointer (some ⟨b9, 0, none⟩)) ∧ fq 21 = (Value.bool ((((a_Matrices).length : Int) != ((r_Table).length : Int)) || (((a_Matrices).length : Int) == (0 : Int)))) ∧ St wd10 wq []) ?_ ?_
  · rcases Bool.eq_false_or_eq_true (((a_Matrices).length : Int) != ((r_Table).length : Int)) with hc20 | hc20
    · refine WL.gskip rfl (bool_of rfl hc20) rfl ?_
      refine WL.gskip rfl (bool_of rfl hc20) rfl ?_
      refine WL.gskip rfl (bool_of rfl hc20) rfl ?_
      refine WL.gskip rfl (bool_of rfl hc20) rfl ?_
      refine WL.val (Value.bool true) _ (op_pick_t (evb_of rfl hc20) rfl) rfl ?_
      refine WL.nil ?_
      exact ⟨rfl, rfl, (orT hc20), hS17⟩
    · refine WL.grun rfl (bool_of rfl hc20) ?_
      refine WL.val (Value.pointer (some ⟨b9, 0, none⟩)) _ (op_fieldAddr fd_42_0 rfl) rfl ?_
      refine WL.grun rfl (bool_of rfl hc20) ?_
      refine WL.val v_a_Matrices _ (op_load one_22 rfl (BoxAt.cell (BoxAt.lift hS17.ext hx14) rfl)) rfl ?_
      refine WL.grun rfl (bool_of rfl hc20) ?_
      have hr24 := inR_len (Ty.lift _ (Ext.trans hE15 hS17.ext) r_a_Matrices)
      refine WL.val (Value.int .i64 ((a_Matrices).length : Int)) _ (op_lenL sl_22 (Ty.lift _ (Ext.trans hE15 hS17.ext) r_a_Matrices) rfl) rfl ?_
      refine WL.grun rfl (bool_of rfl hc20) ?_
      refine WL.val (Value.bool (((a_Matrices).length : Int) == (0 : Int))) _ (op_eql rfl rfl) rfl ?_
      refine WL.val (Value.bool (((a_Matrices).length : Int) == (0 : Int))) _ (op_pick_f (evb_of rfl hc20) rfl) rfl ?_
      refine WL.nil ?_
      exact ⟨rfl, rfl, (orF hc20), hS17⟩
  · intro f21 wd22 hq23
    obtain ⟨hf25, hf26, hS27⟩ := hq23
    refine WL.nil ?_
    show W _ _ _ _ _ _
    refine W.cond ((((a_Matrices).length : Int) != ((r_Table).length : Int)) || (((a_Matrices).length : Int) == (0 : Int))) hf26 (fun hc28 => ?_) (fun hc28 => ?_)
    · replace h := ip h hc28
      refine W.seq (W.region ?_)
      refine WL.val (Value.bool false) _ (op_assign rfl) rfl ?_
      refine WL.nil ?_
      show W _ _ _ _ _ _
      refine W.ret ?_
      obtain rfl := Option.some.inj h
      show FinP _ _ _ _ _ _ _
      exact FinP.ret _ (res1 rfl rfl) ⟨rfl, (Ext.trans hE15 hS27.ext)⟩
    · replace h := inegb h hc28
      refine W.skip ?_
      show W _ _ _ _ _ _
      refine W.seq (W.region ?_)
      refine WL.val (Value.pointer (some ⟨b9, 0, none⟩)) _ (op_fieldAddr fd_42_0 hf25) rfl ?_
      refine WL.val v_a_Matrices _ (op_load one_22 rfl (BoxAt.cell (BoxAt.lift hS27.ext hx14) rfl)) rfl ?_
      obtain ⟨x30, hx33, h⟩ := bs h
      obtain ⟨ha31, hb32, hx33⟩ := idx_some hx33
      refine WL.val (Value.pointer (some (elA v_a_Matrices ((0 : Int)).toNat))) _ (op_idx sl_22 (Ty.lift _ (Ext.trans hE15 hS27.ext) r_a_Matrices) rfl rfl ha31 hb32) rfl ?_
      obtain ⟨u34, hc35, hr36⟩ := repSl.el r_a_Matrices hx33
      refine WL.val u34 _ (op_load one_65 rfl (Ext.cell (Ext.trans hE15 hS27.ext) hc35)) rfl ?_
      have hr37 := inR_len (Ty.lift _ (Ext.trans hE15 hS27.ext) hr36)
      refine WL.val (Value.int .i64 ((x30).length : Int)) _ (op_lenL sl_65 (Ty.lift _ (Ext.trans hE15 hS27.ext) hr36) rfl) rfl ?_
      refine WL.val (Value.int .i64 ((x30).length : Int)) _ (op_assign rfl) rfl ?_
      refine WL.nil ?_
      show W _ _ _ _ _ _
      refine W.seq (W.seq (W.region ?_))
      refine WL.val (Value.int .i64 ((x30).length : Int)) _ (op_move rfl) rfl ?_
      refine WL.val (Value.bool (decide (((x30).length : Int) < (1 : Int)))) _ (op_lss rfl rfl) rfl ?_
      refine WL.val (Value.bool (decide (((x30).length : Int) < (1 : Int)))) _ (op_move rfl) rfl ?_
      refine WL.cut 3 (fun fq wq => fq 3 = (Value.pointer (some ⟨b9, 0, none⟩)) ∧ fq 5 = (Value.int .i64 ((x30).length : Int)) ∧ fq 32 = (Value.bool ((decide (((x30).length : Int) < (1 : Int))) || (decide (((x30).length : Int) > (16 : Int))))) ∧ St wd10 wq []) ?_ ?_
      · rcases Bool.eq_false_or_eq_true (decide (((x30).length : Int) < (1 : Int))) with hc38 | hc38
        · refine WL.gskip rfl (bool_of rfl hc38) rfl ?_
          refine WL.gskip rfl (bool_of rfl hc38) rfl ?_
          refine WL.val (Value.bool true) _ (op_pick_t (evb_of rfl hc38) rfl) rfl ?_
          refine WL.nil ?_
          exact ⟨rfl, hf25, rfl, (orT hc38), hS27⟩
        · refine WL.grun rfl (bool_of rfl hc38) ?_
          refine WL.val (Value.int .i64 ((x30).length : Int)) _ (op_move rfl) rfl ?_
          refine WL.grun rfl (bool_of rfl hc38) ?_
          refine WL.val (Value.bool (decide (((x30).length : Int) > (16 : Int)))) _ (op_gtr rfl rfl) rfl ?_
          refine WL.val (Value.bool (decide (((x30).length : Int) > (16 : Int)))) _ (op_pick_f (evb_of rfl hc38) rfl) rfl ?_
          refine WL.nil ?_
          exact ⟨rfl, hf25, rfl, (orF hc38), hS27⟩
      · intro f39 wd40 hq41
        obtain ⟨hf42, hf43, hf44, hS45⟩ := hq41
        refine WL.nil ?_
        show W _ _ _ _ _ _
        refine W.cond ((decide (((x30).length : Int) < (1 : Int))) || (decide (((x30).length : Int) > (16 : Int)))) hf44 (fun hc46 => ?_) (fun hc46 => ?_)
        · replace h := ip h hc46
          refine W.seq (W.region ?_)
          refine WL.val (Value.bool false) _ (op_assign rfl) rfl ?_
          refine WL.nil ?_
          show W _ _ _ _ _ _
          refine W.ret ?_
          obtain rfl := Option.some.inj h
          show FinP _ _ _ _ _ _ _
          exact FinP.ret _ (res1 rfl rfl) ⟨rfl, (Ext.trans hE15 hS45.ext)⟩
        · replace h := inegb h hc46
          refine W.skip ?_
          show W _ _ _ _ _ _
          refine W.seq (W.seq (W.region ?_))
          refine WL.val (Value.int .i64 (0 : Int)) _ (op_assign rfl) rfl ?_
          refine WL.nil ?_
          show W _ _ _ _ _ _
          obtain ⟨res48, hres49, h⟩ := bs h
          refine W.blockLoop (fun fq wq => ∃ s, res48 = Res.fin s ∧ St wd10 wq []) ?_ ?_
          · refine W.forN (fun k (s : Unit) fq wq => fq 3 = (Value.pointer (some ⟨b9, 0, none⟩)) ∧ fq 5 = (Value.int .i64 ((x30).length : Int)) ∧ fq 6 = Value.int .i64 (k : Int) ∧ InR .i64 (k : Int) ∧ St wd10 wq []) hres49 ⟨hf42, hf43, rfl, (inR_i64.2 (show (-9223372036854775808 : Int) ≤ 0 ∧ (0 : Int) ≤ 9223372036854775807 from by decide)), hS45⟩ ?_ ?_
            · intro k50 s196 ct51 f52 wd53 hk54 hb55 hI56 hbrk57 hret58
              obtain ⟨⟩ := s196
              replace hI56 : f52 3 = (Value.pointer (some ⟨b9, 0, none⟩)) ∧ f52 5 = (Value.int .i64 ((x30).length : Int)) ∧ f52 6 = Value.int .i64 (k50 : Int) ∧ InR .i64 (k50 : Int) ∧ St wd10 wd53 [] := hI56
              replace hb55 : p_spec_l09Family_L1 a_Matrices x30 k50  = some ct51 := hb55
              unfold p_spec_l09Family_L1 at hb55
              obtain ⟨hf59, hf60, hf61, hr62, hS63⟩ := hI56
              refine W.seq (W.seq (W.region ?_))
              refine WL.val (Value.int .i64 (k50 : Int)) _ (op_move hf61) rfl ?_
              refine WL.val (Value.pointer (some ⟨b9, 0, none⟩)) _ (op_fieldAddr fd_42_0 hf59) rfl ?_
              refine WL.val v_a_Matrices _ (op_load one_22 rfl (BoxAt.cell (BoxAt.lift hS63.ext hx14) rfl)) rfl ?_
              have hr64 := inR_len (Ty.lift _ (Ext.trans hE15 hS63.ext) r_a_Matrices)
              refine WL.val (Value.int .i64 ((a_Matrices).length : Int)) _ (op_lenL sl_22 (Ty.lift _ (Ext.trans hE15 hS63.ext) r_a_Matrices) rfl) rfl ?_
              refine WL.val (Value.bool (decide ((k50 : Int) < ((a_Matrices).length : Int)))) _ (op_lss rfl rfl) rfl ?_
              have hl65 : (k50 : Int) < ((a_Matrices).length : Int) := by omega
              refine WL.nil ?_
              show W _ _ _ _ _ _
              refine W.condT (decide ((k50 : Int) < ((a_Matrices).length : Int))) rfl (decide_eq_true hl65) ?_
              refine W.skip ?_
              show W _ _ _ _ _ _
              refine W.seq ?_
              refine W.block ?_
              refine W.seq (W.seq (W.region ?_))
              refine WL.val (Value.pointer (some ⟨b9, 0, none⟩)) _ (op_fieldAddr fd_42_0 hf59) rfl ?_
              refine WL.val v_a_Matrices _ (op_load one_22 rfl (BoxAt.cell (BoxAt.lift hS63.ext hx14) rfl)) rfl ?_
              refine WL.val (Value.int .i64 (k50 : Int)) _ (op_move hf61) rfl ?_
              obtain ⟨x67, hx70, hb55⟩ := bs hb55
              obtain ⟨ha68, hb69, hx70⟩ := idx_some hx70
              refine WL.val (Value.pointer (some (elA v_a_Matrices ((k50 : Int)).toNat))) _ (op_idx sl_22 (Ty.lift _ (Ext.trans hE15 hS63.ext) r_a_Matrices) rfl rfl ha68 hb69) rfl ?_
              obtain ⟨u71, hc72, hr73⟩ := repSl.el r_a_Matrices hx70
              refine WL.val u71 _ (op_load one_65 rfl (Ext.cell (Ext.trans hE15 hS63.ext) hc72)) rfl ?_
              have hr74 := inR_len (Ty.lift _ (Ext.trans hE15 hS63.ext) hr73)
              refine WL.val (Value.int .i64 ((x67).length : Int)) _ (op_lenL sl_65 (Ty.lift _ (Ext.trans hE15 hS63.ext) hr73) rfl) rfl ?_
              refine WL.val (Value.int .i64 ((x30).length : Int)) _ (op_move hf60) rfl ?_
              refine WL.val (Value.bool (((x67).length : Int) != ((x30).length : Int))) _ (op_neq rfl rfl) rfl ?_
              refine WL.nil ?_
              show W _ _ _ _ _ _
              refine W.cond (((x67).length : Int) != ((x30).length : Int)) rfl (fun hc75 => ?_) (fun hc75 => ?_)
              · replace hb55 := ip hb55 hc75
                refine W.seq (W.region ?_)
                refine WL.val (Value.bool false) _ (op_assign rfl) rfl ?_
                refine WL.nil ?_
                show W _ _ _ _ _ _
                refine W.ret ?_
                obtain rfl := Option.some.inj hb55
                obtain rfl := hret58 _ rfl
                replace h := onRes_ret h
                obtain rfl := Option.some.inj h
                show FinP _ _ _ _ _ _ _
                exact FinP.ret _ (res1 rfl rfl) ⟨rfl, (Ext.trans hE15 hS63.ext)⟩
              · replace hb55 := inegb hb55 hc75
                refine W.skip ?_
                show W _ _ _ _ _ _
                refine W.seq (W.region ?_)
                refine WL.val (Value.int .i64 (0 : Int)) _ (op_assign rfl) rfl ?_
                refine WL.nil ?_
                show W _ _ _ _ _ _
                obtain ⟨res77, hres78, hb55⟩ := bs hb55
                refine W.blockLoop (fun fq wq => ∃ s, res77 = Res.fin s ∧ fq 3 = (Value.pointer (some ⟨b9, 0, none⟩)) ∧ fq 5 = (Value.int .i64 ((x30).length : Int)) ∧ fq 6 = (Value.int .i64 (k50 : Int)) ∧ St wd10 wq []) ?_ ?_
                · refine W.forN (fun k (s : Unit) fq wq => fq 3 = (Value.pointer (some ⟨b9, 0, none⟩)) ∧ fq 5 = (Value.int .i64 ((x30).length : Int)) ∧ fq 6 = (Value.int .i64 (k50 : Int)) ∧ fq 7 = Value.int .i64 (k : Int) ∧ InR .i64 (k : Int) ∧ St wd10 wq []) hres78 ⟨hf59, hf60, hf61, rfl, (inR_i64.2 (show (-9223372036854775808 : Int) ≤ 0 ∧ (0 : Int) ≤ 9223372036854775807 from by decide)), hS63⟩ ?_ ?_
                  · intro k79 s174 ct80 f81 wd82 hk83 hb84 hI85 hbrk86 hret87
                    obtain ⟨⟩ := s174
                    replace hI85 : f81 3 = (Value.pointer (some ⟨b9, 0, none⟩)) ∧ f81 5 = (Value.int .i64 ((x30).length : Int)) ∧ f81 6 = (Value.int .i64 (k50 : Int)) ∧ f81 7 = Value.int .i64 (k79 : Int) ∧ InR .i64 (k79 : Int) ∧ St wd10 wd82 [] := hI85
                    replace hb84 : p_spec_l09Family_L2 x67 x30 k79  = some ct80 := hb84
                    unfold p_spec_l09Family_L2 at hb84
                    obtain ⟨hf88, hf89, hf90, hf91, hr92, hS93⟩ := hI85
                    refine W.seq (W.seq (W.region ?_))
                    refine WL.val (Value.int .i64 (k79 : Int)) _ (op_move hf91) rfl ?_
                    refine WL.val (Value.int .i64 ((x30).length : Int)) _ (op_move hf89) rfl ?_
                    refine WL.val (Value.bool (decide ((k79 : Int) < ((x30).length : Int)))) _ (op_lss rfl rfl) rfl ?_
                    have hl94 : (k79 : Int) < ((x30).length : Int) := by omega
                    refine WL.nil ?_
                    show W _ _ _ _ _ _
                    refine W.condT (decide ((k79 : Int) < ((x30).length : Int))) rfl (decide_eq_true hl94) ?_
                    refine W.skip ?_
                    show W _ _ _ _ _ _
                    refine W.seq ?_
                    refine W.block ?_
                    refine W.seq (W.seq (W.region ?_))
                    refine WL.val (Value.pointer (some ⟨b9, 0, none⟩)) _ (op_fieldAddr fd_42_0 hf88) rfl ?_
                    refine WL.val v_a_Matrices _ (op_load one_22 rfl (BoxAt.cell (BoxAt.lift hS93.ext hx14) rfl)) rfl ?_
                    refine WL.val (Value.int .i64 (k50 : Int)) _ (op_move hf90) rfl ?_
                    refine WL.val (Value.pointer (some (elA v_a_Matrices ((k50 : Int)).toNat))) _ (op_idx sl_22 (Ty.lift _ (Ext.trans hE15 hS93.ext) r_a_Matrices) rfl rfl ha68 hb69) rfl ?_
                    obtain ⟨u96, hc97, hr98⟩ := repSl.el r_a_Matrices hx70
                    refine WL.val u96 _ (op_load one_65 rfl (Ext.cell (Ext.trans hE15 hS93.ext) hc97)) rfl ?_
                    refine WL.val (Value.int .i64 (k79 : Int)) _ (op_move hf91) rfl ?_
                    obtain ⟨x99, hx102, hb84⟩ := bs hb84
                    obtain ⟨ha100, hb101, hx102⟩ := idx_some hx102
                    refine WL.val (Value.pointer (some (elA u96 ((k79 : Int)).toNat))) _ (op_idx sl_65 (Ty.lift _ (Ext.trans hE15 hS93.ext) hr98) rfl rfl ha100 hb101) rfl ?_
                    obtain ⟨u103, hc104, hr105⟩ := repSl.el hr98 hx102
                    refine WL.val u103 _ (op_load one_25 rfl (Ext.cell (Ext.trans hE15 hS93.ext) hc104)) rfl ?_
                    have hr106 := inR_len (Ty.lift _ (Ext.trans hE15 hS93.ext) hr105)
                    refine WL.val (Value.int .i64 ((x99).length : Int)) _ (op_lenL sl_25 (Ty.lift _ (Ext.trans hE15 hS93.ext) hr105) rfl) rfl ?_
                    refine WL.val (Value.int .i64 ((x30).length : Int)) _ (op_move hf89) rfl ?_
                    refine WL.val (Value.bool (((x99).length : Int) != ((x30).length : Int))) _ (op_neq rfl rfl) rfl ?_
                    refine WL.nil ?_
                    show W _ _ _ _ _ _
                    refine W.cond (((x99).length : Int) != ((x30).length : Int)) rfl (fun hc107 => ?_) (fun hc107 => ?_)
                    · replace hb84 := ip hb84 hc107
                      refine W.seq (W.region ?_)
                      refine WL.val (Value.bool false) _ (op_assign rfl) rfl ?_
                      refine WL.nil ?_
                      show W _ _ _ _ _ _
                      refine W.ret ?_
                      obtain rfl := Option.some.inj hb84
                      obtain rfl := hret87 _ rfl
                      replace hb55 := onRes_ret hb55
                      obtain rfl := Option.some.inj hb55
                      obtain rfl := hret58 _ rfl
                      replace h := onRes_ret h
                      obtain rfl := Option.some.inj h
                      show FinP _ _ _ _ _ _ _
                      exact FinP.ret _ (res1 rfl rfl) ⟨rfl, (Ext.trans hE15 hS93.ext)⟩
                    · replace hb84 := inegb hb84 hc107
                      refine W.skip ?_
                      show W _ _ _ _ _ _
                      refine W.seq (W.region ?_)
                      refine WL.val (Value.int .i64 (0 : Int)) _ (op_assign rfl) rfl ?_
                      refine WL.nil ?_
                      show W _ _ _ _ _ _
                      obtain ⟨res109, hres110, hb84⟩ := bs hb84
                      refine W.blockLoop (fun fq wq => ∃ s, res109 = Res.fin s ∧ fq 3 = (Value.pointer (some ⟨b9, 0, none⟩)) ∧ fq 5 = (Value.int .i64 ((x30).length : Int)) ∧ fq 6 = (Value.int .i64 (k50 : Int)) ∧ fq 7 = (Value.int .i64 (k79 : Int)) ∧ St wd10 wq []) ?_ ?_
                      · refine W.forN (fun k (s : Unit) fq wq => fq 3 = (Value.pointer (some ⟨b9, 0, none⟩)) ∧ fq 5 = (Value.int .i64 ((x30).length : Int)) ∧ fq 6 = (Value.int .i64 (k50 : Int)) ∧ fq 7 = (Value.int .i64 (k79 : Int)) ∧ fq 8 = Value.int .i64 (k : Int) ∧ InR .i64 (k : Int) ∧ St wd10 wq []) hres110 ⟨hf88, hf89, hf90, hf91, rfl, (inR_i64.2 (show (-9223372036854775808 : Int) ≤ 0 ∧ (0 : Int) ≤ 9223372036854775807 from by decide)), hS93⟩ ?_ ?_
                        · intro k111 s150 ct112 f113 wd114 hk115 hb116 hI117 hbrk118 hret119
                          obtain ⟨⟩ := s150
                          replace hI117 : f113 3 = (Value.pointer (some ⟨b9, 0, none⟩)) ∧ f113 5 = (Value.int .i64 ((x30).length : Int)) ∧ f113 6 = (Value.int .i64 (k50 : Int)) ∧ f113 7 = (Value.int .i64 (k79 : Int)) ∧ f113 8 = Value.int .i64 (k111 : Int) ∧ InR .i64 (k111 : Int) ∧ St wd10 wd114 [] := hI117
                          replace hb116 : p_spec_l09Family_L3 x99 k111  = some ct112 := hb116
                          unfold p_spec_l09Family_L3 at hb116
                          obtain ⟨hf120, hf121, hf122, hf123, hf124, hr125, hS126⟩ := hI117
                          refine W.seq (W.seq (W.region ?_))
                          refine WL.val (Value.int .i64 (k111 : Int)) _ (op_move hf124) rfl ?_
                          refine WL.val (Value.int .i64 ((x30).length : Int)) _ (op_move hf121) rfl ?_
                          refine WL.val (Value.bool (decide ((k111 : Int) < ((x30).length : Int)))) _ (op_lss rfl rfl) rfl ?_
                          have hl127 : (k111 : Int) < ((x30).length : Int) := by omega
                          refine WL.nil ?_
                          show W _ _ _ _ _ _
                          refine W.condT (decide ((k111 : Int) < ((x30).length : Int))) rfl (decide_eq_true hl127) ?_
                          refine W.skip ?_
                          show W _ _ _ _ _ _
                          refine W.seq ?_
                          refine W.block ?_
                          refine W.seq (W.region ?_)
                          refine WL.val (Value.pointer (some ⟨b9, 0, none⟩)) _ (op_fieldAddr fd_42_0 hf120) rfl ?_
                          refine WL.val v_a_Matrices _ (op_load one_22 rfl (BoxAt.cell (BoxAt.lift hS126.ext hx14) rfl)) rfl ?_
                          refine WL.val (Value.int .i64 (k50 : Int)) _ (op_move hf122) rfl ?_
                          refine WL.val (Value.pointer (some (elA v_a_Matrices ((k50 : Int)).toNat))) _ (op_idx sl_22 (Ty.lift _ (Ext.trans hE15 hS126.ext) r_a_Matrices) rfl rfl ha68 hb69) rfl ?_
                          obtain ⟨u129, hc130, hr131⟩ := repSl.el r_a_Matrices hx70
                          refine WL.val u129 _ (op_load one_65 rfl (Ext.cell (Ext.trans hE15 hS126.ext) hc130)) rfl ?_
                          refine WL.val (Value.int .i64 (k79 : Int)) _ (op_move hf123) rfl ?_
                          refine WL.val (Value.pointer (some (elA u129 ((k79 : Int)).toNat))) _ (op_idx sl_65 (Ty.lift _ (Ext.trans hE15 hS126.ext) hr131) rfl rfl ha100 hb101) rfl ?_
                          obtain ⟨u132, hc133, hr134⟩ := repSl.el hr131 hx102
                          refine WL.val u132 _ (op_load one_25 rfl (Ext.cell (Ext.trans hE15 hS126.ext) hc133)) rfl ?_
                          refine WL.val (Value.int .i64 (k111 : Int)) _ (op_move hf124) rfl ?_
                          obtain ⟨x135, hx138, hb116⟩ := bs hb116
                          obtain ⟨ha136, hb137, hx138⟩ := idx_some hx138
                          refine WL.val (Value.pointer (some (elA u132 ((k111 : Int)).toNat))) _ (op_idx sl_25 (Ty.lift _ (Ext.trans hE15 hS126.ext) hr134) rfl rfl ha136 hb137) rfl ?_
                          obtain ⟨u139, hc140, hr141⟩ := repSl.el hr134 hx138
                          obtain ⟨rfl, hr141⟩ := hr141
                          refine WL.val (Value.int .i64 x135) _ (op_load one_2 rfl (Ext.cell (Ext.trans hE15 hS126.ext) hc140)) rfl ?_
                          obtain ⟨x142, hx143, hb116⟩ := bs hb116
                          refine WL.call _ (op_call fn_75 (args3 rfl rfl rfl)) (c_spec_l01In hr141 (inR_i64.2 (show (-9223372036854775808 : Int) ≤ 0 ∧ (0 : Int) ≤ 9223372036854775807 from by decide)) (inR_i64.2 (show (-9223372036854775808 : Int) ≤ 1000 ∧ (1000 : Int) ≤ 9223372036854775807 from by decide)) hx143) rfl ?_
                          rintro _ wd144 ⟨rfl, he145⟩
                          have hS147 := St.extend hS126 he145
                          replace hS147 : St wd10 wd144 [] := hS147
                          refine WL.val (Value.bool (!x142)) _ (op_not rfl) rfl ?_
                          refine WL.nil ?_
                          show W _ _ _ _ _ _
                          refine W.cond (!x142) rfl (fun hc148 => ?_) (fun hc148 => ?_)
                          · replace hb116 := ip hb116 hc148
                            refine W.seq (W.region ?_)
                            refine WL.val (Value.bool false) _ (op_assign rfl) rfl ?_
                            refine WL.nil ?_
                            show W _ _ _ _ _ _
                            refine W.ret ?_
                            obtain rfl := Option.some.inj hb116
                            obtain rfl := hret119 _ rfl
                            replace hb84 := onRes_ret hb84
                            obtain rfl := Option.some.inj hb84
                            obtain rfl := hret87 _ rfl
                            replace hb55 := onRes_ret hb55
                            obtain rfl := Option.some.inj hb55
                            obtain rfl := hret58 _ rfl
                            replace h := onRes_ret h
                            obtain rfl := Option.some.inj h
                            show FinP _ _ _ _ _ _ _
                            exact FinP.ret _ (res1 rfl rfl) ⟨rfl, (Ext.trans hE15 hS147.ext)⟩
                          · replace hb116 := inegb hb116 hc148
                            refine W.skip ?_
                            show W _ _ _ _ _ _
                            refine W.region ?_
                            refine WL.val (Value.int .i64 (k111 : Int)) _ (op_move hf124) rfl ?_
                            refine WL.val (Value.int .i64 (w64 ((k111 : Int) + (1 : Int)))) _ (op_add rfl rfl) rfl ?_
                            refine WL.val (Value.int .i64 (w64 ((k111 : Int) + (1 : Int)))) _ (op_assign rfl) rfl ?_
                            refine WL.nil ?_
                            obtain rfl := Option.some.inj hb116
                            show ∃ s, _ = Ctl.next s ∧ _
                            exact ⟨_, rfl, hf120, hf121, hf122, hf123, (ctr_next hl127 hr37), (ctr_rng hl127 hr37), hS147⟩
                        · intro s155 f151 wd152 hs153 hI154
                          obtain ⟨⟩ := s155
                          replace hI154 : f151 3 = (Value.pointer (some ⟨b9, 0, none⟩)) ∧ f151 5 = (Value.int .i64 ((x30).length : Int)) ∧ f151 6 = (Value.int .i64 (k50 : Int)) ∧ f151 7 = (Value.int .i64 (k79 : Int)) ∧ f151 8 = Value.int .i64 (((x30).length : Nat) : Int) ∧ InR .i64 (((x30).length : Nat) : Int) ∧ St wd10 wd152 [] := hI154
                          obtain ⟨hf156, hf157, hf158, hf159, hf160, hr161, hS162⟩ := hI154
                          refine W.seq (W.seq (W.region ?_))
                          refine WL.val (Value.int .i64 (((x30).length : Nat) : Int)) _ (op_move hf160) rfl ?_
                          refine WL.val (Value.int .i64 ((x30).length : Int)) _ (op_move hf157) rfl ?_
                          refine WL.val (Value.bool (decide ((((x30).length : Nat) : Int) < ((x30).length : Int)))) _ (op_lss rfl rfl) rfl ?_
                          have hl163 : ¬ (((x30).length : Nat) : Int) < ((x30).length : Int) := by omega
                          refine WL.nil ?_
                          show W _ _ _ _ _ _
                          refine W.condF (decide ((((x30).length : Nat) : Int) < ((x30).length : Int))) rfl (decide_eq_false hl163) ?_
                          refine W.exit ?_
                          show _ = _ ∧ _
                          exact ⟨rfl, _, hs153, hf156, hf157, hf158, hf159, hS162⟩
                      · rintro f164 wd165 ⟨s167, rfl, hq166⟩
                        replace hb84 := onRes_fin hb84
                        obtain ⟨⟩ := s167
                        replace hq166 : f164 3 = (Value.pointer (some ⟨b9, 0, none⟩)) ∧ f164 5 = (Value.int .i64 ((x30).length : Int)) ∧ f164 6 = (Value.int .i64 (k50 : Int)) ∧ f164 7 = (Value.int .i64 (k79 : Int)) ∧ St wd10 wd165 [] := hq166
                        obtain ⟨hf168, hf169, hf170, hf171, hS172⟩ := hq166
                        show W _ _ _ _ _ _
                        refine W.region ?_
                        refine WL.val (Value.int .i64 (k79 : Int)) _ (op_move hf171) rfl ?_
                        refine WL.val (Value.int .i64 (w64 ((k79 : Int) + (1 : Int)))) _ (op_add rfl rfl) rfl ?_
                        refine WL.val (Value.int .i64 (w64 ((k79 : Int) + (1 : Int)))) _ (op_assign rfl) rfl ?_
                        refine WL.nil ?_
                        obtain rfl := Option.some.inj hb84
                        show ∃ s, _ = Ctl.next s ∧ _
                        exact ⟨_, rfl, hf168, hf169, hf170, (ctr_next hl94 hr37), (ctr_rng hl94 hr37), hS172⟩
                  · intro s179 f175 wd176 hs177 hI178
                    obtain ⟨⟩ := s179
                    replace hI178 : f175 3 = (Value.pointer (some ⟨b9, 0, none⟩)) ∧ f175 5 = (Value.int .i64 ((x30).length : Int)) ∧ f175 6 = (Value.int .i64 (k50 : Int)) ∧ f175 7 = Value.int .i64 (((x30).length : Nat) : Int) ∧ InR .i64 (((x30).length : Nat) : Int) ∧ St wd10 wd176 [] := hI178
                    obtain ⟨hf180, hf181, hf182, hf183, hr184, hS185⟩ := hI178
                    refine W.seq (W.seq (W.region ?_))
                    refine WL.val (Value.int .i64 (((x30).length : Nat) : Int)) _ (op_move hf183) rfl ?_
                    refine WL.val (Value.int .i64 ((x30).length : Int)) _ (op_move hf181) rfl ?_
                    refine WL.val (Value.bool (decide ((((x30).length : Nat) : Int) < ((x30).length : Int)))) _ (op_lss rfl rfl) rfl ?_
                    have hl186 : ¬ (((x30).length : Nat) : Int) < ((x30).length : Int) := by omega
                    refine WL.nil ?_
                    show W _ _ _ _ _ _
                    refine W.condF (decide ((((x30).length : Nat) : Int) < ((x30).length : Int))) rfl (decide_eq_false hl186) ?_
                    refine W.exit ?_
                    show _ = _ ∧ _
                    exact ⟨rfl, _, hs177, hf180, hf181, hf182, hS185⟩
                · rintro f187 wd188 ⟨s190, rfl, hq189⟩
                  replace hb55 := onRes_fin hb55
                  obtain ⟨⟩ := s190
                  replace hq189 : f187 3 = (Value.pointer (some ⟨b9, 0, none⟩)) ∧ f187 5 = (Value.int .i64 ((x30).length : Int)) ∧ f187 6 = (Value.int .i64 (k50 : Int)) ∧ St wd10 wd188 [] := hq189
                  obtain ⟨hf191, hf192, hf193, hS194⟩ := hq189
                  show W _ _ _ _ _ _
                  refine W.region ?_
                  refine WL.val (Value.int .i64 (k50 : Int)) _ (op_move hf193) rfl ?_
                  refine WL.val (Value.int .i64 (w64 ((k50 : Int) + (1 : Int)))) _ (op_add rfl rfl) rfl ?_
                  refine WL.val (Value.int .i64 (w64 ((k50 : Int) + (1 : Int)))) _ (op_assign rfl) rfl ?_
                  refine WL.nil ?_
                  obtain rfl := Option.some.inj hb55
                  show ∃ s, _ = Ctl.next s ∧ _
                  exact ⟨_, rfl, hf191, hf192, (ctr_next hl65 hr64), (ctr_rng hl65 hr64), hS194⟩
            · intro s201 f197 wd198 hs199 hI200
              obtain ⟨⟩ := s201
              replace hI200 : f197 3 = (Value.pointer (some ⟨b9, 0, none⟩)) ∧ f197 5 = (Value.int .i64 ((x30).length : Int)) ∧ f197 6 = Value.int .i64 (((a_Matrices).length : Nat) : Int) ∧ InR .i64 (((a_Matrices).length : Nat) : Int) ∧ St wd10 wd198 [] := hI200
              obtain ⟨hf202, hf203, hf204, hr205, hS206⟩ := hI200
              refine W.seq (W.seq (W.region ?_))
              refine WL.val (Value.int .i64 (((a_Matrices).length : Nat) : Int)) _ (op_move hf204) rfl ?_
              refine WL.val (Value.pointer (some ⟨b9, 0, none⟩)) _ (op_fieldAddr fd_42_0 hf202) rfl ?_
              refine WL.val v_a_Matrices _ (op_load one_22 rfl (BoxAt.cell (BoxAt.lift hS206.ext hx14) rfl)) rfl ?_
              have hr207 := inR_len (Ty.lift _ (Ext.trans hE15 hS206.ext) r_a_Matrices)
              refine WL.val (Value.int .i64 ((a_Matrices).length : Int)) _ (op_lenL sl_22 (Ty.lift _ (Ext.trans hE15 hS206.ext) r_a_Matrices) rfl) rfl ?_
              refine WL.val (Value.bool (decide ((((a_Matrices).length : Nat) : Int) < ((a_Matrices).length : Int)))) _ (op_lss rfl rfl) rfl ?_
              have hl208 : ¬ (((a_Matrices).length : Nat) : Int) < ((a_Matrices).length : Int) := by omega
              refine WL.nil ?_
              show W _ _ _ _ _ _
              refine W.condF (decide ((((a_Matrices).length : Nat) : Int) < ((a_Matrices).length : Int))) rfl (decide_eq_false hl208) ?_
              refine W.exit ?_
              show _ = _ ∧ _
              exact ⟨rfl, _, hs199, hS206⟩
          · rintro f209 wd210 ⟨s212, rfl, hq211⟩
            replace h := onRes_fin h
            obtain ⟨⟩ := s212
            replace hq211 : St wd10 wd210 [] := hq211
            have hS213 := hq211
            show W _ _ _ _ _ _
            refine W.seq (W.region ?_)
            refine WL.val (Value.bool true) _ (op_assign rfl) rfl ?_
            refine WL.nil ?_
            show W _ _ _ _ _ _
            refine W.ret ?_
            obtain rfl := Option.some.inj h
            show FinP _ _ _ _ _ _ _
            exact FinP.ret _ (res1 rfl rfl) ⟨rfl, (Ext.trans hE15 hS213.ext)⟩

theorem c_spec_l02Unit {w : World} {n : Int} (r_n : InR .i64 n) {res : (List (List Int))} (h : p_spec_l02Unit n  = some res) :
    Ret Try.prog 48 #[(Value.int .i64 n)] w (fun v w' => ∃ (u0 : Value), v = u0 ∧ Ext w w' ∧ Sep w.heap.size w' [(Ty.sl (Ty.sl (Ty.i .i64))).at u0 res]) := by
  unfold p_spec_l02Unit at h
  have hS0 : St w w [] := St.start w
  refine Ret.start (fn := Try.f48) Try.func48 rfl 22 rfl rfl ?_
  refine W.seq (W.region ?_)
  refine WL.val (Value.slice none 0 0) _ (op_assign rfl) rfl ?_
  refine WL.nil ?_
  show W _ _ _ _ _ _
  refine W.seq (W.region ?_)
  refine WL.lit0 (t := (Ty.sl (Ty.i .i64))) hS0 sl_65 rfl rfl ?_
  intro u1 wd2 hS3 he4
  replace hS3 : St w wd2 [(Ty.sl (Ty.sl (Ty.i .i64))).at u1 ([] : (List (List Int)))] := hS3
  refine WL.val u1 _ (op_assign rfl) rfl ?_
  refine WL.nil ?_
  show W _ _ _ _ _ _
  refine W.seq (W.seq (W.region ?_))
  refine WL.val (Value.int .i64 (0 : Int)) _ (op_assign rfl) rfl ?_
  refine WL.nil ?_
  show W _ _ _ _ _ _
  obtain ⟨res5, hres6, h⟩ := bs h
  refine W.blockLoop (fun fq wq => ∃ s, res5 = Res.fin s ∧ ∃ (uu0 : Value), fq 3 = uu0 ∧ St w wq [(Ty.sl (Ty.sl (Ty.i .i64))).at uu0 s]) ?_ ?_
  · refine W.forN (fun k (s : (List (List Int))) fq wq => ∃ (uu0 : Value), fq 0 = (Value.int .i64 n) ∧ fq 3 = uu0 ∧ fq 4 = Value.int .i64 (k : Int) ∧ InR .i64 (k : Int) ∧ St w wq [(Ty.sl (Ty.sl (Ty.i .i64))).at uu0 s]) hres6 ⟨u1, rfl, rfl, rfl, (inR_i64.2 (show (-9223372036854775808 : Int) ≤ 0 ∧ (0 : Int) ≤ 9223372036854775807 from by decide)), hS3⟩ ?_ ?_
    · intro k7 x8 ct9 f10 wd11 hk12 hb13 hI14 hbrk15 hret16
      replace hI14 : ∃ (uu0 : Value), f10 0 = (Value.int .i64 n) ∧ f10 3 = uu0 ∧ f10 4 = Value.int .i64 (k7 : Int) ∧ InR .i64 (k7 : Int) ∧ St w wd11 [(Ty.sl (Ty.sl (Ty.i .i64))).at uu0 x8] := hI14
      replace hb13 : p_spec_l02Unit_L1 n k7 x8 = some ct9 := hb13
      unfold p_spec_l02Unit_L1 at hb13
      obtain ⟨u17, hf18, hf19, hf20, hr21, hS22⟩ := hI14
      refine W.seq (W.seq (W.region ?_))
      refine WL.val (Value.int .i64 (k7 : Int)) _ (op_move hf20) rfl ?_
      refine WL.val (Value.int .i64 n) _ (op_move hf18) rfl ?_
      refine WL.val (Value.bool (decide ((k7 : Int) < n))) _ (op_lss rfl rfl) rfl ?_
      have hl23 : (k7 : Int) < n := by omega
      refine WL.nil ?_
      show W _ _ _ _ _ _
      refine W.condT (decide ((k7 : Int) < n)) rfl (decide_eq_true hl23) ?_
      refine W.skip ?_
      show W _ _ _ _ _ _
      refine W.seq ?_
      refine W.block ?_
      refine W.seq (W.region ?_)
      refine WL.val (Value.int .i64 n) _ (op_move hf18) rfl ?_
      obtain ⟨x25, hx26, hb13⟩ := bs hb13
      refine WL.make (t := (Ty.i .i64)) hS22 sl_25 (fun _ _ => ⟨rfl, (inR_i64.2 (show (-9223372036854775808 : Int) ≤ 0 ∧ (0 : Int) ≤ 9223372036854775807 from by decide))⟩) rfl rfl hx26 rfl rfl ?_
      intro u27 wd28 hS29 he30
      replace hS29 : St w wd28 [(Ty.sl (Ty.sl (Ty.i .i64))).at u17 x8, (Ty.sl (Ty.i .i64)).at u27 x25] := hS29
      refine WL.val u27 _ (op_assign rfl) rfl ?_
      refine WL.nil ?_
      show W _ _ _ _ _ _
      refine W.seq (W.region ?_)
      refine WL.val u27 _ (op_move rfl) rfl ?_
      refine WL.val (Value.int .i64 (k7 : Int)) _ (op_move hf20) rfl ?_
      obtain ⟨x31, hx34, hb13⟩ := bs hb13
      obtain ⟨ha32, hb33, hx34⟩ := idx_some hx34
      refine WL.val (Value.pointer (some (elA u27 ((k7 : Int)).toNat))) _ (op_idx sl_25 (St.rep (t := (Ty.sl (Ty.i .i64))) hS29 1 rfl) rfl rfl ha32 hb33) rfl ?_
      refine WL.storeEl (flat_i .i64) hS29 (k := 1) rfl sz_2 rfl rfl (lt_of_idx ha32 hb33) ⟨rfl, (inR_i64.2 (show (-9223372036854775808 : Int) ≤ 1 ∧ (1 : Int) ≤ 9223372036854775807 from by decide))⟩ ?_
      intro wd35 hS36
      replace hS36 : St w wd35 [(Ty.sl (Ty.sl (Ty.i .i64))).at u17 x8, (Ty.sl (Ty.i .i64)).at u27 ((x25).set ((k7 : Int)).toNat (1 : Int))] := hS36
      refine WL.nil ?_
      show W _ _ _ _ _ _
      refine W.region ?_
      refine WL.val u17 _ (op_move hf19) rfl ?_
      refine WL.val u27 _ (op_move rfl) rfl ?_
      refine WL.lit [u27] hS36 sl_65 rfl rfl (fillL rfl ⟨rfl, rfl, (cells_rep (St.rep (t := (Ty.sl (Ty.i .i64))) hS36 1 rfl)), trivial⟩) rfl rfl ?_
      intro b41 wd38 hS39 he40 hx42
      replace hS39 : St w wd38 [(Ty.sl (Ty.sl (Ty.i .i64))).at u17 x8, (Ty.sl (Ty.i .i64)).at u27 ((x25).set ((k7 : Int)).toNat (1 : Int)), bx b41 [u27]] := hS39
      obtain ⟨x43, hx44, hb13⟩ := bs hb13
      refine WL.appendRow hS39 (k := 0) (k2 := 1) (k3 := 2) rfl rfl rfl rfl sl_65 rfl rfl rfl rfl hx44 rfl ?_
      intro u45 wd46 hS47 hz48
      replace hS47 : St w wd46 [(Ty.sl (Ty.sl (Ty.i .i64))).at u45 x43, emp, bx b41 [u27]] := hS47
      refine WL.val u45 _ (op_assign rfl) rfl ?_
      refine WL.nil ?_
      show W _ _ _ _ _ _
      refine W.region ?_
      refine WL.val (Value.int .i64 (k7 : Int)) _ (op_move hf20) rfl ?_
      refine WL.val (Value.int .i64 (w64 ((k7 : Int) + (1 : Int)))) _ (op_add rfl rfl) rfl ?_
      refine WL.val (Value.int .i64 (w64 ((k7 : Int) + (1 : Int)))) _ (op_assign rfl) rfl ?_
      refine WL.nil ?_
      obtain rfl := Option.some.inj hb13
      show ∃ s, _ = Ctl.next s ∧ _
      exact ⟨_, rfl, u45, hf18, rfl, (ctr_next hl23 r_n), (ctr_rng hl23 r_n), (St.pick hS47 [0] rfl)⟩
    · intro x55 f50 wd51 hs52 hI53
      replace hI53 : ∃ (uu0 : Value), f50 0 = (Value.int .i64 n) ∧ f50 3 = uu0 ∧ f50 4 = Value.int .i64 (((n).toNat : Nat) : Int) ∧ InR .i64 (((n).toNat : Nat) : Int) ∧ St w wd51 [(Ty.sl (Ty.sl (Ty.i .i64))).at uu0 x55] := hI53
      obtain ⟨u56, hf57, hf58, hf59, hr60, hS61⟩ := hI53
      refine W.seq (W.seq (W.region ?_))
      refine WL.val (Value.int .i64 (((n).toNat : Nat) : Int)) _ (op_move hf59) rfl ?_
      refine WL.val (Value.int .i64 n) _ (op_move hf57) rfl ?_
      refine WL.val (Value.bool (decide ((((n).toNat : Nat) : Int) < n))) _ (op_lss rfl rfl) rfl ?_
      have hl62 : ¬ (((n).toNat : Nat) : Int) < n := by omega
      refine WL.nil ?_
      show W _ _ _ _ _ _
      refine W.condF (decide ((((n).toNat : Nat) : Int) < n)) rfl (decide_eq_false hl62) ?_
      refine W.exit ?_
      show _ = _ ∧ _
      exact ⟨rfl, _, hs52, u56, hf58, hS61⟩
  · rintro f63 wd64 ⟨x67, rfl, hq65⟩
    replace h := onRes_fin h
    replace hq65 : ∃ (uu0 : Value), f63 3 = uu0 ∧ St w wd64 [(Ty.sl (Ty.sl (Ty.i .i64))).at uu0 x67] := hq65
    obtain ⟨u68, hf69, hS70⟩ := hq65
    show W _ _ _ _ _ _
    refine W.seq (W.region ?_)
    refine WL.val u68 _ (op_move hf69) rfl ?_
    refine WL.val u68 _ (op_assign rfl) rfl ?_
    refine WL.nil ?_
    show W _ _ _ _ _ _
    refine W.ret ?_
    obtain rfl := Option.some.inj h
    show FinP _ _ _ _ _ _ _
    exact FinP.ret _ (res1 rfl rfl) ⟨u68, rfl, hS70.ext, (St.out (St.pick hS70 [0] rfl) (Ext.refl _))⟩

theorem c_spec_l01Same2 {w : World} {a : (List (List Int))} {v_a : Value} {b : (List (List Int))} {v_b : Value} (r_a : (Ty.sl (Ty.sl (Ty.i .i64))).rep w v_a a) (r_b : (Ty.sl (Ty.sl (Ty.i .i64))).rep w v_b b) {res : Bool} (h : p_spec_l01Same2 a b  = some res) :
    Ret Try.prog 101 #[v_a, v_b] w (fun v w' => v = Value.bool res ∧ Ext w w') := by
  unfold p_spec_l01Same2 at h
  have hS0 : St w w [] := St.start w
  refine Ret.start (fn := Try.f101) Try.func101 rfl 27 rfl rfl ?_
  refine W.seq (W.region ?_)
  refine WL.val (Value.bool false) _ (op_assign rfl) rfl ?_
  refine WL.nil ?_
  show W _ _ _ _ _ _
  refine W.seq (W.seq (W.region ?_))
  refine WL.val v_a _ (op_move rfl) rfl ?_
  have hr1 := inR_len (Ty.lift _ hS0.ext r_a)
  refine WL.val (Value.int .i64 ((a).length : Int)) _ (op_lenL sl_65 (Ty.lift _ hS0.ext r_a) rfl) rfl ?_
  refine WL.val v_b _ (op_move rfl) rfl ?_
  have hr2 := inR_len (Ty.lift _ hS0.ext r_b)
  refine WL.val (Value.int .i64 ((b).length : Int)) _ (op_lenL sl_65 (Ty.lift _ hS0.ext r_b) rfl) rfl ?_
  refine WL.val (Value.bool (((a).length : Int) != ((b).length : Int))) _ (op_neq rfl rfl) rfl ?_
  refine WL.nil ?_
  show W _ _ _ _ _ _
  refine W.cond (((a).length : Int) != ((b).length : Int)) rfl (fun hc3 => ?_) (fun hc3 => ?_)
  · replace h := ip h hc3
    refine W.seq (W.region ?_)
    refine WL.val (Value.bool false) _ (op_assign rfl) rfl ?_
    refine WL.nil ?_
    show W _ _ _ _ _ _
    refine W.ret ?_
    obtain rfl := Option.some.inj h
    show FinP _ _ _ _ _ _ _
    exact FinP.ret _ (res1 rfl rfl) ⟨rfl, hS0.ext⟩
  · replace h := inegb h hc3
    refine W.skip ?_
    show W _ _ _ _ _ _
    refine W.seq (W.seq (W.region ?_))
    refine WL.val (Value.int .i64 (0 : Int)) _ (op_assign rfl) rfl ?_
    refine WL.nil ?_
    show W _ _ _ _ _ _
    obtain ⟨res5, hres6, h⟩ := bs h
    refine W.blockLoop (fun fq wq => ∃ s, res5 = Res.fin s ∧ St w wq []) ?_ ?_
    · refine W.forN (fun k (s : Unit) fq wq => fq 0 = v_a ∧ fq 1 = v_b ∧ fq 5 = Value.int .i64 (k : Int) ∧ InR .i64 (k : Int) ∧ St w wq []) hres6 ⟨rfl, rfl, rfl, (inR_i64.2 (show (-9223372036854775808 : Int) ≤ 0 ∧ (0 : Int) ≤ 9223372036854775807 from by decide)), hS0⟩ ?_ ?_
      · intro k7 s138 ct8 f9 wd10 hk11 hb12 hI13 hbrk14 hret15
        obtain ⟨⟩ := s138
        replace hI13 : f9 0 = v_a ∧ f9 1 = v_b ∧ f9 5 = Value.int .i64 (k7 : Int) ∧ InR .i64 (k7 : Int) ∧ St w wd10 [] := hI13
        replace hb12 : p_spec_l01Same2_L1 a b k7  = some ct8 := hb12
        unfold p_spec_l01Same2_L1 at hb12
        obtain ⟨hf16, hf17, hf18, hr19, hS20⟩ := hI13
        refine W.seq (W.seq (W.region ?_))
        refine WL.val (Value.int .i64 (k7 : Int)) _ (op_move hf18) rfl ?_
        refine WL.val v_a _ (op_move hf16) rfl ?_
        have hr21 := inR_len (Ty.lift _ hS20.ext r_a)
        refine WL.val (Value.int .i64 ((a).length : Int)) _ (op_lenL sl_65 (Ty.lift _ hS20.ext r_a) rfl) rfl ?_
        refine WL.val (Value.bool (decide ((k7 : Int) < ((a).length : Int)))) _ (op_lss rfl rfl) rfl ?_
        have hl22 : (k7 : Int) < ((a).length : Int) := by omega
        refine WL.nil ?_
        show W _ _ _ _ _ _
        refine W.condT (decide ((k7 : Int) < ((a).length : Int))) rfl (decide_eq_true hl22) ?_
        refine W.skip ?_
        show W _ _ _ _ _ _
        refine W.seq ?_
        refine W.block ?_
        refine W.seq ?_
        obtain ⟨x53, hx56, hb12⟩ := bs hb12
        obtain ⟨ha54, hb55, hx56⟩ := idx_some hx56
        obtain ⟨u67, hc68, hr69⟩ := repSl.el r_a hx56
        obtain ⟨x99, hx102, hb12⟩ := bs hb12
        obtain ⟨ha100, hb101, hx102⟩ := idx_some hx102
        obtain ⟨u113, hc114, hr115⟩ := repSl.el r_b hx102
        refine W.drawR mixo 8 [] [fun _ v _ _ => v = v_a, fun _ v _ _ => v = (Value.int .i64 (k7 : Int)) ∧ InR .i64 (k7 : Int), fun _ v _ _ => v = (Value.pointer (some (elA v_a ((k7 : Int)).toNat))), fun _ v _ _ => v = u67, fun _ v _ _ => v = v_b, fun _ v _ _ => v = (Value.int .i64 (k7 : Int)) ∧ InR .i64 (k7 : Int), fun _ v _ _ => v = (Value.pointer (some (elA v_b ((k7 : Int)).toNat))), fun _ v _ _ => v = u113] (by kernel_rfl) (by kernel_rfl) ⟨⟨fun _ _ _ _ _ _ h => h, fun _ _ _ _ _ _ h => h⟩, ⟨fun _ _ _ _ _ _ h => h, fun _ _ _ _ _ _ h => h⟩, ⟨fun _ _ _ _ _ _ h => h, fun _ _ _ _ _ _ h => h⟩, ⟨fun _ _ _ _ _ _ h => h, fun _ _ _ _ _ _ h => h⟩, ⟨fun _ _ _ _ _ _ h => h, fun _ _ _ _ _ _ h => h⟩, ⟨fun _ _ _ _ _ _ h => h, fun _ _ _ _ _ _ h => h⟩, ⟨fun _ _ _ _ _ _ h => h, fun _ _ _ _ _ _ h => h⟩, ⟨fun _ _ _ _ _ _ h => h, fun _ _ _ _ _ _ h => h⟩, trivial⟩ ⟨?_, ?_, ?_, ?_, ?_, ?_, ?_, ?_, trivial⟩ ?_
        · refine ObX.op rfl ?_
          intro f24 wd25 he26 hout27 hphi28
          have hS29 : St w wd25 [] := St.extend hS20 he26
          have e30 : f24 0 = v_a := (hout27 0 rfl).trans hf16
          exact OpX.val v_a wd25 rfl (op_move e30) (Ext.refl _) rfl
        · refine ObX.op rfl ?_
          intro f31 wd32 he33 hout34 hphi35
          have hS36 : St w wd32 [] := St.extend hS20 he33
          have e37 : f31 5 = (Value.int .i64 (k7 : Int)) := (hout34 5 rfl).trans hf18
          exact OpX.val (Value.int .i64 (k7 : Int)) wd32 rfl (op_move e37) (Ext.refl _) ⟨rfl, hr19⟩
        · refine ObX.op rfl ?_
          intro f38 wd39 he40 hout41 hphi42
          have hS43 : St w wd39 [] := St.extend hS20 he40
          obtain ⟨S44, hS45, hf46⟩ := hphi42 0 17 _ rfl rfl rfl
          have e47 : f38 17 = v_a := hf46
          obtain ⟨S48, hS49, hf50⟩ := hphi42 1 18 _ rfl rfl rfl
          obtain ⟨e51, hr52⟩ : f38 18 = (Value.int .i64 (k7 : Int)) ∧ InR .i64 (k7 : Int) := hf50
          exact OpX.val (Value.pointer (some (elA v_a ((k7 : Int)).toNat))) wd39 rfl (op_idx sl_65 (Ty.lift _ hS43.ext r_a) e47 e51 ha54 hb55) (Ext.refl _) rfl
        · refine ObX.op rfl ?_
          intro f57 wd58 he59 hout60 hphi61
          have hS62 : St w wd58 [] := St.extend hS20 he59
          obtain ⟨S63, hS64, hf65⟩ := hphi61 2 19 _ rfl rfl rfl
          have e66 : f57 19 = (Value.pointer (some (elA v_a ((k7 : Int)).toNat))) := hf65
          exact OpX.val u67 wd58 rfl (op_load one_25 e66 (Ext.cell hS62.ext hc68)) (Ext.refl _) rfl
        · refine ObX.op rfl ?_
          intro f70 wd71 he72 hout73 hphi74
          have hS75 : St w wd71 [] := St.extend hS20 he72
          have e76 : f70 1 = v_b := (hout73 1 rfl).trans hf17
          exact OpX.val v_b wd71 rfl (op_move e76) (Ext.refl _) rfl
        · refine ObX.op rfl ?_
          intro f77 wd78 he79 hout80 hphi81
          have hS82 : St w wd78 [] := St.extend hS20 he79
          have e83 : f77 5 = (Value.int .i64 (k7 : Int)) := (hout80 5 rfl).trans hf18
          exact OpX.val (Value.int .i64 (k7 : Int)) wd78 rfl (op_move e83) (Ext.refl _) ⟨rfl, hr19⟩
        · refine ObX.op rfl ?_
          intro f84 wd85 he86 hout87 hphi88
          have hS89 : St w wd85 [] := St.extend hS20 he86
          obtain ⟨S90, hS91, hf92⟩ := hphi88 4 21 _ rfl rfl rfl
          have e93 : f84 21 = v_b := hf92
          obtain ⟨S94, hS95, hf96⟩ := hphi88 5 22 _ rfl rfl rfl
          obtain ⟨e97, hr98⟩ : f84 22 = (Value.int .i64 (k7 : Int)) ∧ InR .i64 (k7 : Int) := hf96
          exact OpX.val (Value.pointer (some (elA v_b ((k7 : Int)).toNat))) wd85 rfl (op_idx sl_65 (Ty.lift _ hS89.ext r_b) e93 e97 ha100 hb101) (Ext.refl _) rfl
        · refine ObX.op rfl ?_
          intro f103 wd104 he105 hout106 hphi107
          have hS108 : St w wd104 [] := St.extend hS20 he105
          obtain ⟨S109, hS110, hf111⟩ := hphi107 6 23 _ rfl rfl rfl
          have e112 : f103 23 = (Value.pointer (some (elA v_b ((k7 : Int)).toNat))) := hf111
          exact OpX.val u113 wd104 rfl (op_load one_25 e112 (Ext.cell hS108.ext hc114)) (Ext.refl _) rfl
        · intro f116 wd117 Ss118 he119 hout120 hSn121 hSd122 hphi123
          show WL _ _ _ _ _ _ _
          have hS124 : St w wd117 [] := St.extend hS20 he119
          have e125 : f116 20 = u67 := hphi123 3 20 _ (by decide) rfl rfl
          have e126 : f116 24 = u113 := hphi123 7 24 _ (by decide) rfl rfl
          have e127 : f116 0 = v_a := (hout120 0 rfl).trans hf16
          have e128 : f116 1 = v_b := (hout120 1 rfl).trans hf17
          have e129 : f116 5 = (Value.int .i64 (k7 : Int)) := (hout120 5 rfl).trans hf18
          obtain ⟨x130, hx131, hb12⟩ := bs hb12
          refine WL.call _ (op_call fn_51 (args2 e125 e126)) (c_spec_l01Same (Ty.lift _ hS124.ext hr69) (Ty.lift _ hS124.ext hr115) hx131) rfl ?_
          rintro _ wd132 ⟨rfl, he133⟩
          have hS135 := St.extend hS124 he133
          replace hS135 : St w wd132 [] := hS135
          refine WL.val (Value.bool (!x130)) _ (op_not rfl) rfl ?_
          refine WL.nil ?_
          show W _ _ _ _ _ _
          refine W.cond (!x130) rfl (fun hc136 => ?_) (fun hc136 => ?_)
          · replace hb12 := ip hb12 hc136
            refine W.seq (W.region ?_)
            refine WL.val (Value.bool false) _ (op_assign rfl) rfl ?_
            refine WL.nil ?_
            show W _ _ _ _ _ _
            refine W.ret ?_
            obtain rfl := Option.some.inj hb12
            obtain rfl := hret15 _ rfl
            replace h := onRes_ret h
            obtain rfl := Option.some.inj h
            show FinP _ _ _ _ _ _ _
            exact FinP.ret _ (res1 rfl rfl) ⟨rfl, hS135.ext⟩
          · replace hb12 := inegb hb12 hc136
            refine W.skip ?_
            show W _ _ _ _ _ _
            refine W.region ?_
            refine WL.val (Value.int .i64 (k7 : Int)) _ (op_move e129) rfl ?_
            refine WL.val (Value.int .i64 (w64 ((k7 : Int) + (1 : Int)))) _ (op_add rfl rfl) rfl ?_
            refine WL.val (Value.int .i64 (w64 ((k7 : Int) + (1 : Int)))) _ (op_assign rfl) rfl ?_
            refine WL.nil ?_
            obtain rfl := Option.some.inj hb12
            show ∃ s, _ = Ctl.next s ∧ _
            exact ⟨_, rfl, e127, e128, (ctr_next hl22 hr21), (ctr_rng hl22 hr21), hS135⟩
      · intro s143 f139 wd140 hs141 hI142
        obtain ⟨⟩ := s143
        replace hI142 : f139 0 = v_a ∧ f139 1 = v_b ∧ f139 5 = Value.int .i64 (((a).length : Nat) : Int) ∧ InR .i64 (((a).length : Nat) : Int) ∧ St w wd140 [] := hI142
        obtain ⟨hf144, hf145, hf146, hr147, hS148⟩ := hI142
        refine W.seq (W.seq (W.region ?_))
        refine WL.val (Value.int .i64 (((a).length : Nat) : Int)) _ (op_move hf146) rfl ?_
        refine WL.val v_a _ (op_move hf144) rfl ?_
        have hr149 := inR_len (Ty.lift _ hS148.ext r_a)
        refine WL.val (Value.int .i64 ((a).length : Int)) _ (op_lenL sl_65 (Ty.lift _ hS148.ext r_a) rfl) rfl ?_
        refine WL.val (Value.bool (decide ((((a).length : Nat) : Int) < ((a).length : Int)))) _ (op_lss rfl rfl) rfl ?_
        have hl150 : ¬ (((a).length : Nat) : Int) < ((a).length : Int) := by omega
        refine WL.nil ?_
        show W _ _ _ _ _ _
        refine W.condF (decide ((((a).length : Nat) : Int) < ((a).length : Int))) rfl (decide_eq_false hl150) ?_
        refine W.exit ?_
        show _ = _ ∧ _
        exact ⟨rfl, _, hs141, hS148⟩
    · rintro f151 wd152 ⟨s154, rfl, hq153⟩
      replace h := onRes_fin h
      obtain ⟨⟩ := s154
      replace hq153 : St w wd152 [] := hq153
      have hS155 := hq153
      show W _ _ _ _ _ _
      refine W.seq (W.region ?_)
      refine WL.val (Value.bool true) _ (op_assign rfl) rfl ?_
      refine WL.nil ?_
      show W _ _ _ _ _ _
      refine W.ret ?_
      obtain rfl := Option.some.inj h
      show FinP _ _ _ _ _ _ _
      exact FinP.ret _ (res1 rfl rfl) ⟨rfl, hS155.ext⟩

theorem c_spec_l09Product {w : World} {r_Table : (List (List (List Int)))} {v_r_Table : Value} {a_Matrices : (List (List (List Int)))} {v_a_Matrices : Value} {i : Int} {j : Int} (r_r_Table : (Ty.sl (Ty.sl (Ty.sl (Ty.i .i64)))).rep w v_r_Table r_Table) (r_a_Matrices : (Ty.sl (Ty.sl (Ty.sl (Ty.i .i64)))).rep w v_a_Matrices a_Matrices) (r_i : InR .i64 i) (r_j : InR .i64 j) {res : Bool} (h : p_spec_l09Product r_Table a_Matrices i j  = some res) :
    Ret Try.prog 102 #[(Value.agg #[v_r_Table]), (Value.agg #[v_a_Matrices]), (Value.int .i64 i), (Value.int .i64 j)] w (fun v w' => v = Value.bool res ∧ Ext w w') := by
  unfold p_spec_l09Product at h
  have hS0 : St w w [] := St.start w
  refine Ret.start (fn := Try.f102) Try.func102 rfl 96 rfl rfl ?_
  refine W.seq (W.region ?_)
  refine WL.box hS0 rfl (cs := [v_r_Table]) rfl rfl ?_
  intro b1 wd2 hS3 he4 hx5
  replace hS3 : St w wd2 [bx b1 [v_r_Table]] := hS3
  have hx6 := St.boxAt hS3 0 rfl
  have hE7 : Ext w wd2 := hS3.ext
  have hS8 : St wd2 wd2 [] := St.start wd2
  refine WL.box hS8 rfl (cs := [v_a_Matrices]) rfl rfl ?_
  intro b9 wd10 hS11 he12 hx13
  replace hS11 : St wd2 wd10 [bx b9 [v_a_Matrices]] := hS11
  have hx14 := St.boxAt hS11 0 rfl
  have hE15 : Ext w wd10 := (Ext.trans hE7 hS11.ext)
  have hE16 : Ext wd2 wd10 := hS11.ext
  have hS17 : St wd10 wd10 [] := St.start wd10
  refine WL.val (Value.bool false) _ (op_assign rfl) rfl ?_
  refine WL.nil ?_
  show W _ _ _ _ _ _
  refine W.seq (W.region ?_)
  refine WL.val (Value.pointer (some ⟨b9, 0, none⟩)) _ (op_fieldAddr fd_42_0 rfl) rfl ?_
  refine WL.val v_a_Matrices _ (op_load one_22 rfl (BoxAt.cell (BoxAt.lift hS17.ext hx14) rfl)) rfl ?_
  obtain ⟨x18, hx21, h⟩ := bs h
  obtain ⟨ha19, hb20, hx21⟩ := idx_some hx21
  refine WL.val (Value.pointer (some (elA v_a_Matrices ((0 : Int)).toNat))) _ (op_idx sl_22 (Ty.lift _ (Ext.trans hE15 hS17.ext) r_a_Matrices) rfl rfl ha19 hb20) rfl ?_
  obtain ⟨u22, hc23, hr24⟩ := repSl.el r_a_Matrices hx21
  refine WL.val u22 _ (op_load one_65 rfl (Ext.cell (Ext.trans hE15 hS17.ext) hc23)) rfl ?_
  have hr25 := inR_len (Ty.lift _ (Ext.trans hE15 hS17.ext) hr24)
  refine WL.val (Value.int .i64 ((x18).length : Int)) _ (op_lenL sl_65 (Ty.lift _ (Ext.trans hE15 hS17.ext) hr24) rfl) rfl ?_
  refine WL.val (Value.int .i64 ((x18).length : Int)) _ (op_assign rfl) rfl ?_
  refine WL.nil ?_
  show W _ _ _ _ _ _
  refine W.seq (W.seq (W.region ?_))
  refine WL.val (Value.int .i64 (0 : Int)) _ (op_assign rfl) rfl ?_
  refine WL.nil ?_
  show W _ _ _ _ _ _
  obtain ⟨res26, hres27, h⟩ := bs h
  refine W.blockLoop (fun fq wq => ∃ s, res26 = Res.fin s ∧ St wd10 wq []) ?_ ?_
  · refine W.forN (fun k (s : Unit) fq wq => fq 2 = (Value.int .i64 i) ∧ fq 3 = (Value.int .i64 j) ∧ fq 4 = (Value.pointer (some ⟨b1, 0, none⟩)) ∧ fq 5 = (Value.pointer (some ⟨b9, 0, none⟩)) ∧ fq 9 = (Value.int .i64 ((x18).length : Int)) ∧ fq 10 = Value.int .i64 (k : Int) ∧ InR .i64 (k : Int) ∧ St wd10 wq []) hres27 ⟨rfl, rfl, rfl, rfl, rfl, rfl, (inR_i64.2 (show (-9223372036854775808 : Int) ≤ 0 ∧ (0 : Int) ≤ 9223372036854775807 from by decide)), hS17⟩ ?_ ?_
    · intro k28 s857 ct29 f30 wd31 hk32 hb33 hI34 hbrk35 hret36
      obtain ⟨⟩ := s857
      replace hI34 : f30 2 = (Value.int .i64 i) ∧ f30 3 = (Value.int .i64 j) ∧ f30 4 = (Value.pointer (some ⟨b1, 0, none⟩)) ∧ f30 5 = (Value.pointer (some ⟨b9, 0, none⟩)) ∧ f30 9 = (Value.int .i64 ((x18).length : Int)) ∧ f30 10 = Value.int .i64 (k28 : Int) ∧ InR .i64 (k28 : Int) ∧ St wd10 wd31 [] := hI34
      replace hb33 : p_spec_l09Product_L1 a_Matrices i j x18 r_Table k28  = some ct29 := hb33
      unfold p_spec_l09Product_L1 at hb33
      obtain ⟨hf37, hf38, hf39, hf40, hf41, hf42, hr43, hS44⟩ := hI34
      refine W.seq (W.seq (W.region ?_))
      refine WL.val (Value.int .i64 (k28 : Int)) _ (op_move hf42) rfl ?_
      refine WL.val (Value.int .i64 ((x18).length : Int)) _ (op_move hf41) rfl ?_
      refine WL.val (Value.bool (decide ((k28 : Int) < ((x18).length : Int)))) _ (op_lss rfl rfl) rfl ?_
      have hl45 : (k28 : Int) < ((x18).length : Int) := by omega
      refine WL.nil ?_
      show W _ _ _ _ _ _
      refine W.condT (decide ((k28 : Int) < ((x18).length : Int))) rfl (decide_eq_true hl45) ?_
      refine W.skip ?_
      show W _ _ _ _ _ _
      refine W.seq ?_
      refine W.block ?_
      refine W.seq (W.region ?_)
      refine WL.val (Value.int .i64 (0 : Int)) _ (op_assign rfl) rfl ?_
      refine WL.nil ?_
      show W _ _ _ _ _ _
      obtain ⟨res47, hres48, hb33⟩ := bs hb33
      refine W.blockLoop (fun fq wq => ∃ s, res47 = Res.fin s ∧ fq 2 = (Value.int .i64 i) ∧ fq 3 = (Value.int .i64 j) ∧ fq 4 = (Value.pointer (some ⟨b1, 0, none⟩)) ∧ fq 5 = (Value.pointer (some ⟨b9, 0, none⟩)) ∧ fq 9 = (Value.int .i64 ((x18).length : Int)) ∧ fq 10 = (Value.int .i64 (k28 : Int)) ∧ St wd10 wq []) ?_ ?_
      · refine W.forN (fun k (s : Unit) fq wq => fq 2 = (Value.int .i64 i) ∧ fq 3 = (Value.int .i64 j) ∧ fq 4 = (Value.pointer (some ⟨b1, 0, none⟩)) ∧ fq 5 = (Value.pointer (some ⟨b9, 0, none⟩)) ∧ fq 9 = (Value.int .i64 ((x18).length : Int)) ∧ fq 10 = (Value.int .i64 (k28 : Int)) ∧ fq 11 = Value.int .i64 (k : Int) ∧ InR .i64 (k : Int) ∧ St wd10 wq []) hres48 ⟨hf37, hf38, hf39, hf40, hf41, hf42, rfl, (inR_i64.2 (show (-9223372036854775808 : Int) ≤ 0 ∧ (0 : Int) ≤ 9223372036854775807 from by decide)), hS44⟩ ?_ ?_
        · intro k49 s829 ct50 f51 wd52 hk53 hb54 hI55 hbrk56 hret57
          obtain ⟨⟩ := s829
          replace hI55 : f51 2 = (Value.int .i64 i) ∧ f51 3 = (Value.int .i64 j) ∧ f51 4 = (Value.pointer (some ⟨b1, 0, none⟩)) ∧ f51 5 = (Value.pointer (some ⟨b9, 0, none⟩)) ∧ f51 9 = (Value.int .i64 ((x18).length : Int)) ∧ f51 10 = (Value.int .i64 (k28 : Int)) ∧ f51 11 = Value.int .i64 (k49 : Int) ∧ InR .i64 (k49 : Int) ∧ St wd10 wd52 [] := hI55
          replace hb54 : p_spec_l09Product_L2 a_Matrices i k28 j x18 r_Table k49  = some ct50 := hb54
          unfold p_spec_l09Product_L2 at hb54
          obtain ⟨hf58, hf59, hf60, hf61, hf62, hf63, hf64, hr65, hS66⟩ := hI55
          refine W.seq (W.seq (W.region ?_))
          refine WL.val (Value.int .i64 (k49 : Int)) _ (op_move hf64) rfl ?_
          refine WL.val (Value.int .i64 ((x18).length : Int)) _ (op_move hf62) rfl ?_
          refine WL.val (Value.bool (decide ((k49 : Int) < ((x18).length : Int)))) _ (op_lss rfl rfl) rfl ?_
          have hl67 : (k49 : Int) < ((x18).length : Int) := by omega
          refine WL.nil ?_
          show W _ _ _ _ _ _
          refine W.condT (decide ((k49 : Int) < ((x18).length : Int))) rfl (decide_eq_true hl67) ?_
          refine W.skip ?_
          show W _ _ _ _ _ _
          refine W.seq ?_
          refine W.block ?_
          refine W.seq (W.region ?_)
          refine WL.val (Value.int .i64 (0 : Int)) _ (op_assign rfl) rfl ?_
          refine WL.val (Value.int .i64 (0 : Int)) _ (op_assign rfl) rfl ?_
          refine WL.nil ?_
          show W _ _ _ _ _ _
          refine W.seq (W.seq (W.region ?_))
          refine WL.val (Value.int .i64 (0 : Int)) _ (op_assign rfl) rfl ?_
          refine WL.nil ?_
          show W _ _ _ _ _ _
          obtain ⟨res69, hres70, hb54⟩ := bs hb54
          refine W.blockLoop (fun fq wq => ∃ s, res69 = Res.fin s ∧ fq 2 = (Value.int .i64 i) ∧ fq 3 = (Value.int .i64 j) ∧ fq 4 = (Value.pointer (some ⟨b1, 0, none⟩)) ∧ fq 5 = (Value.pointer (some ⟨b9, 0, none⟩)) ∧ fq 9 = (Value.int .i64 ((x18).length : Int)) ∧ fq 10 = (Value.int .i64 (k28 : Int)) ∧ fq 11 = (Value.int .i64 (k49 : Int)) ∧ fq 12 = Value.int .i64 s ∧ InR .i64 s ∧ fq 13 = (Value.int .i64 (0 : Int)) ∧ St wd10 wq []) ?_ ?_
          · refine W.forN (fun k (s : Int) fq wq => fq 2 = (Value.int .i64 i) ∧ fq 3 = (Value.int .i64 j) ∧ fq 4 = (Value.pointer (some ⟨b1, 0, none⟩)) ∧ fq 5 = (Value.pointer (some ⟨b9, 0, none⟩)) ∧ fq 9 = (Value.int .i64 ((x18).length : Int)) ∧ fq 10 = (Value.int .i64 (k28 : Int)) ∧ fq 11 = (Value.int .i64 (k49 : Int)) ∧ fq 12 = Value.int .i64 s ∧ InR .i64 s ∧ fq 13 = (Value.int .i64 (0 : Int)) ∧ fq 14 = Value.int .i64 (k : Int) ∧ InR .i64 (k : Int) ∧ St wd10 wq []) hres70 ⟨hf58, hf59, hf60, hf61, hf62, hf63, hf64, rfl, (inR_i64.2 (show (-9223372036854775808 : Int) ≤ 0 ∧ (0 : Int) ≤ 9223372036854775807 from by decide)), rfl, rfl, (inR_i64.2 (show (-9223372036854775808 : Int) ≤ 0 ∧ (0 : Int) ≤ 9223372036854775807 from by decide)), hS66⟩ ?_ ?_
            · intro k71 x72 ct73 f74 wd75 hk76 hb77 hI78 hbrk79 hret80
              replace hI78 : f74 2 = (Value.int .i64 i) ∧ f74 3 = (Value.int .i64 j) ∧ f74 4 = (Value.pointer (some ⟨b1, 0, none⟩)) ∧ f74 5 = (Value.pointer (some ⟨b9, 0, none⟩)) ∧ f74 9 = (Value.int .i64 ((x18).length : Int)) ∧ f74 10 = (Value.int .i64 (k28 : Int)) ∧ f74 11 = (Value.int .i64 (k49 : Int)) ∧ f74 12 = Value.int .i64 x72 ∧ InR .i64 x72 ∧ f74 13 = (Value.int .i64 (0 : Int)) ∧ f74 14 = Value.int .i64 (k71 : Int) ∧ InR .i64 (k71 : Int) ∧ St wd10 wd75 [] := hI78
              replace hb77 : p_spec_l09Product_L3 a_Matrices i k28 j k49 k71 x72 = some ct73 := hb77
              unfold p_spec_l09Product_L3 at hb77
              obtain ⟨hf81, hf82, hf83, hf84, hf85, hf86, hf87, hf88, hr89, hf90, hf91, hr92, hS93⟩ := hI78
              refine W.seq (W.seq (W.region ?_))
              refine WL.val (Value.int .i64 (k71 : Int)) _ (op_move hf91) rfl ?_
              refine WL.val (Value.int .i64 ((x18).length : Int)) _ (op_move hf85) rfl ?_
              refine WL.val (Value.bool (decide ((k71 : Int) < ((x18).length : Int)))) _ (op_lss rfl rfl) rfl ?_
              have hl94 : (k71 : Int) < ((x18).length : Int) := by omega
              refine WL.nil ?_
              show W _ _ _ _ _ _
              refine W.condT (decide ((k71 : Int) < ((x18).length : Int))) rfl (decide_eq_true hl94) ?_
              refine W.skip ?_
              show W _ _ _ _ _ _
              refine W.seq ?_
              refine W.block ?_
              obtain ⟨x142, hx145, hb77⟩ := bs hb77
              obtain ⟨ha143, hb144, hx145⟩ := idx_some hx145
              obtain ⟨u156, hc157, hr158⟩ := repSl.el r_a_Matrices hx145
              obtain ⟨x181, hx184, hb77⟩ := bs hb77
              obtain ⟨ha182, hb183, hx184⟩ := idx_some hx184
              obtain ⟨u195, hc196, hr197⟩ := repSl.el hr158 hx184
              obtain ⟨x220, hx223, hb77⟩ := bs hb77
              obtain ⟨ha221, hb222, hx223⟩ := idx_some hx223
              obtain ⟨u234, hc235, hr236⟩ := repSl.el hr197 hx223
              obtain ⟨rfl, hr236⟩ := hr236
              obtain ⟨x276, hx279, hb77⟩ := bs hb77
              obtain ⟨ha277, hb278, hx279⟩ := idx_some hx279
              obtain ⟨u290, hc291, hr292⟩ := repSl.el r_a_Matrices hx279
              obtain ⟨x315, hx318, hb77⟩ := bs hb77
              obtain ⟨ha316, hb317, hx318⟩ := idx_some hx318
              obtain ⟨u329, hc330, hr331⟩ := repSl.el hr292 hx318
              obtain ⟨x354, hx357, hb77⟩ := bs hb77
              obtain ⟨ha355, hb356, hx357⟩ := idx_some hx357
              obtain ⟨u368, hc369, hr370⟩ := repSl.el hr331 hx357
              obtain ⟨rfl, hr370⟩ := hr370
              refine W.drawR mixo 24 [] [fun _ v _ _ => v = (Value.int .i64 x72) ∧ InR .i64 x72, fun _ v _ _ => v = (Value.pointer (some ⟨b9, 0, none⟩)), fun _ v _ _ => v = v_a_Matrices, fun _ v _ _ => v = (Value.int .i64 i) ∧ InR .i64 i, fun _ v _ _ => v = (Value.pointer (some (elA v_a_Matrices (i).toNat))), fun _ v _ _ => v = u156, fun _ v _ _ => v = (Value.int .i64 (k28 : Int)) ∧ InR .i64 (k28 : Int), fun _ v _ _ => v = (Value.pointer (some (elA u156 ((k28 : Int)).toNat))), fun _ v _ _ => v = u195, fun _ v _ _ => v = (Value.int .i64 (k71 : Int)) ∧ InR .i64 (k71 : Int), fun _ v _ _ => v = (Value.pointer (some (elA u195 ((k71 : Int)).toNat))), fun _ v _ _ => v = (Value.int .i64 x220) ∧ InR .i64 x220, fun _ v _ _ => v = (Value.pointer (some ⟨b9, 0, none⟩)), fun _ v _ _ => v = v_a_Matrices, fun _ v _ _ => v = (Value.int .i64 j) ∧ InR .i64 j, fun _ v _ _ => v = (Value.pointer (some (elA v_a_Matrices (j).toNat))), fun _ v _ _ => v = u290, fun _ v _ _ => v = (Value.int .i64 (k71 : Int)) ∧ InR .i64 (k71 : Int), fun _ v _ _ => v = (Value.pointer (some (elA u290 ((k71 : Int)).toNat))), fun _ v _ _ => v = u329, fun _ v _ _ => v = (Value.int .i64 (k49 : Int)) ∧ InR .i64 (k49 : Int), fun _ v _ _ => v = (Value.pointer (some (elA u329 ((k49 : Int)).toNat))), fun _ v _ _ => v = (Value.int .i64 x354) ∧ InR .i64 x354, fun _ v _ _ => v = (Value.int .i64 (w64 (x220 * x354))) ∧ InR .i64 (w64 (x220 * x354))] (by kernel_rfl) (by kernel_rfl) ⟨⟨fun _ _ _ _ _ _ h => h, fun _ _ _ _ _ _ h => h⟩, ⟨fun _ _ _ _ _ _ h => h, fun _ _ _ _ _ _ h => h⟩, ⟨fun _ _ _ _ _ _ h => h, fun _ _ _ _ _ _ h => h⟩, ⟨fun _ _ _ _ _ _ h => h, fun _ _ _ _ _ _ h => h⟩, ⟨fun _ _ _ _ _ _ h => h, fun _ _ _ _ _ _ h => h⟩, ⟨fun _ _ _ _ _ _ h => h, fun _ _ _ _ _ _ h => h⟩, ⟨fun _ _ _ _ _ _ h => h, fun _ _ _ _ _ _ h => h⟩, ⟨fun _ _ _ _ _ _ h => h, fun _ _ _ _ _ _ h => h⟩, ⟨fun _ _ _ _ _ _ h => h, fun _ _ _ _ _ _ h => h⟩, ⟨fun _ _ _ _ _ _ h => h, fun _ _ _ _ _ _ h => h⟩, ⟨fun _ _ _ _ _ _ h => h, fun _ _ _ _ _ _ h => h⟩, ⟨fun _ _ _ _ _ _ h => h, fun _ _ _ _ _ _ h => h⟩, ⟨fun _ _ _ _ _ _ h => h, fun _ _ _ _ _ _ h => h⟩, ⟨fun _ _ _ _ _ _ h => h, fun _ _ _ _ _ _ h => h⟩, ⟨fun _ _ _ _ _ _ h => h, fun _ _ _ _ _ _ h => h⟩, ⟨fun _ _ _ _ _ _ h => h, fun _ _ _ _ _ _ h => h⟩, ⟨fun _ _ _ _ _ _ h => h, fun _ _ _ _ _ _ h => h⟩, ⟨fun _ _ _ _ _ _ h => h, fun _ _ _ _ _ _ h => h⟩, ⟨fun _ _ _ _ _ _ h => h, fun _ _ _ _ _ _ h => h⟩, ⟨fun _ _ _ _ _ _ h => h, fun _ _ _ _ _ _ h => h⟩, ⟨fun _ _ _ _ _ _ h => h, fun _ _ _ _ _ _ h => h⟩, ⟨fun _ _ _ _ _ _ h => h, fun _ _ _ _ _ _ h => h⟩, ⟨fun _ _ _ _ _ _ h => h, fun _ _ _ _ _ _ h => h⟩, ⟨fun _ _ _ _ _ _ h => h, fun _ _ _ _ _ _ h => h⟩, trivial⟩ ⟨?_, ?_, ?_, ?_, ?_, ?_, ?_, ?_, ?_, ?_, ?_, ?_, ?_, ?_, ?_, ?_, ?_, ?_, ?_, ?_, ?_, ?_, ?_, ?_, trivial⟩ ?_
              · refine ObX.op rfl ?_
                intro f96 wd97 he98 hout99 hphi100
                have hS101 : St wd10 wd97 [] := St.extend hS93 he98
                have e102 : f96 12 = (Value.int .i64 x72) := (hout99 12 rfl).trans hf88
                exact OpX.val (Value.int .i64 x72) wd97 rfl (op_move e102) (Ext.refl _) ⟨rfl, hr89⟩
              · refine ObX.op rfl ?_
                intro f103 wd104 he105 hout106 hphi107
                have hS108 : St wd10 wd104 [] := St.extend hS93 he105
                have e109 : f103 5 = (Value.pointer (some ⟨b9, 0, none⟩)) := (hout106 5 rfl).trans hf84
                exact OpX.val (Value.pointer (some ⟨b9, 0, none⟩)) wd104 rfl (op_fieldAddr fd_42_0 e109) (Ext.refl _) rfl
              · refine ObX.op rfl ?_
                intro f110 wd111 he112 hout113 hphi114
                have hS115 : St wd10 wd111 [] := St.extend hS93 he112
                obtain ⟨S116, hS117, hf118⟩ := hphi114 1 37 _ rfl rfl rfl
                have e119 : f110 37 = (Value.pointer (some ⟨b9, 0, none⟩)) := hf118
                exact OpX.val v_a_Matrices wd111 rfl (op_load one_22 e119 (BoxAt.cell (BoxAt.lift hS115.ext hx14) rfl)) (Ext.refl _) rfl
              · refine ObX.op rfl ?_
                intro f120 wd121 he122 hout123 hphi124
                have hS125 : St wd10 wd121 [] := St.extend hS93 he122
                have e126 : f120 2 = (Value.int .i64 i) := (hout123 2 rfl).trans hf81
                exact OpX.val (Value.int .i64 i) wd121 rfl (op_move e126) (Ext.refl _) ⟨rfl, r_i⟩
              · refine ObX.op rfl ?_
                intro f127 wd128 he129 hout130 hphi131
                have hS132 : St wd10 wd128 [] := St.extend hS93 he129
                obtain ⟨S133, hS134, hf135⟩ := hphi131 2 38 _ rfl rfl rfl
                have e136 : f127 38 = v_a_Matrices := hf135
                obtain ⟨S137, hS138, hf139⟩ := hphi131 3 39 _ rfl rfl rfl
                obtain ⟨e140, hr141⟩ : f127 39 = (Value.int .i64 i) ∧ InR .i64 i := hf139
                exact OpX.val (Value.pointer (some (elA v_a_Matrices (i).toNat))) wd128 rfl (op_idx sl_22 (Ty.lift _ (Ext.trans hE15 hS132.ext) r_a_Matrices) e136 e140 ha143 hb144) (Ext.refl _) rfl
              · refine ObX.op rfl ?_
                intro f146 wd147 he148 hout149 hphi150
                have hS151 : St wd10 wd147 [] := St.extend hS93 he148
                obtain ⟨S152, hS153, hf154⟩ := hphi150 4 40 _ rfl rfl rfl
                have e155 : f146 40 = (Value.pointer (some (elA v_a_Matrices (i).toNat))) := hf154
                exact OpX.val u156 wd147 rfl (op_load one_65 e155 (Ext.cell (Ext.trans hE15 hS151.ext) hc157)) (Ext.refl _) rfl
              · refine ObX.op rfl ?_
                intro f159 wd160 he161 hout162 hphi163
                have hS164 : St wd10 wd160 [] := St.extend hS93 he161
                have e165 : f159 10 = (Value.int .i64 (k28 : Int)) := (hout162 10 rfl).trans hf86
                exact OpX.val (Value.int .i64 (k28 : Int)) wd160 rfl (op_move e165) (Ext.refl _) ⟨rfl, hr43⟩
              · refine ObX.op rfl ?_
                intro f166 wd167 he168 hout169 hphi170
                have hS171 : St wd10 wd167 [] := St.extend hS93 he168
                obtain ⟨S172, hS173, hf174⟩ := hphi170 5 41 _ rfl rfl rfl
                have e175 : f166 41 = u156 := hf174
                obtain ⟨S176, hS177, hf178⟩ := hphi170 6 42 _ rfl rfl rfl
                obtain ⟨e179, hr180⟩ : f166 42 = (Value.int .i64 (k28 : Int)) ∧ InR .i64 (k28 : Int) := hf178
                exact OpX.val (Value.pointer (some (elA u156 ((k28 : Int)).toNat))) wd167 rfl (op_idx sl_65 (Ty.lift _ (Ext.trans hE15 hS171.ext) hr158) e175 e179 ha182 hb183) (Ext.refl _) rfl
              · refine ObX.op rfl ?_
                intro f185 wd186 he187 hout188 hphi189
                have hS190 : St wd10 wd186 [] := St.extend hS93 he187
                obtain ⟨S191, hS192, hf193⟩ := hphi189 7 43 _ rfl rfl rfl
                have e194 : f185 43 = (Value.pointer (some (elA u156 ((k28 : Int)).toNat))) := hf193
                exact OpX.val u195 wd186 rfl (op_load one_25 e194 (Ext.cell (Ext.trans hE15 hS190.ext) hc196)) (Ext.refl _) rfl
              · refine ObX.op rfl ?_
                intro f198 wd199 he200 hout201 hphi202
                have hS203 : St wd10 wd199 [] := St.extend hS93 he200
                have e204 : f198 14 = (Value.int .i64 (k71 : Int)) := (hout201 14 rfl).trans hf91
                exact OpX.val (Value.int .i64 (k71 : Int)) wd199 rfl (op_move e204) (Ext.refl _) ⟨rfl, hr92⟩
              · refine ObX.op rfl ?_
                intro f205 wd206 he207 hout208 hphi209
                have hS210 : St wd10 wd206 [] := St.extend hS93 he207
                obtain ⟨S211, hS212, hf213⟩ := hphi209 8 44 _ rfl rfl rfl
                have e214 : f205 44 = u195 := hf213
                obtain ⟨S215, hS216, hf217⟩ := hphi209 9 45 _ rfl rfl rfl
                obtain ⟨e218, hr219⟩ : f205 45 = (Value.int .i64 (k71 : Int)) ∧ InR .i64 (k71 : Int) := hf217
                exact OpX.val (Value.pointer (some (elA u195 ((k71 : Int)).toNat))) wd206 rfl (op_idx sl_25 (Ty.lift _ (Ext.trans hE15 hS210.ext) hr197) e214 e218 ha221 hb222) (Ext.refl _) rfl
              · refine ObX.op rfl ?_
                intro f224 wd225 he226 hout227 hphi228
                have hS229 : St wd10 wd225 [] := St.extend hS93 he226
                obtain ⟨S230, hS231, hf232⟩ := hphi228 10 46 _ rfl rfl rfl
                have e233 : f224 46 = (Value.pointer (some (elA u195 ((k71 : Int)).toNat))) := hf232
                exact OpX.val (Value.int .i64 x220) wd225 rfl (op_load one_2 e233 (Ext.cell (Ext.trans hE15 hS229.ext) hc235)) (Ext.refl _) ⟨rfl, hr236⟩
              · refine ObX.op rfl ?_
                intro f237 wd238 he239 hout240 hphi241
                have hS242 : St wd10 wd238 [] := St.extend hS93 he239
                have e243 : f237 5 = (Value.pointer (some ⟨b9, 0, none⟩)) := (hout240 5 rfl).trans hf84
                exact OpX.val (Value.pointer (some ⟨b9, 0, none⟩)) wd238 rfl (op_fieldAddr fd_42_0 e243) (Ext.refl _) rfl
              · refine ObX.op rfl ?_
                intro f244 wd245 he246 hout247 hphi248
                have hS249 : St wd10 wd245 [] := St.extend hS93 he246
                obtain ⟨S250, hS251, hf252⟩ := hphi248 12 48 _ rfl rfl rfl
                have e253 : f244 48 = (Value.pointer (some ⟨b9, 0, none⟩)) := hf252
                exact OpX.val v_a_Matrices wd245 rfl (op_load one_22 e253 (BoxAt.cell (BoxAt.lift hS249.ext hx14) rfl)) (Ext.refl _) rfl
              · refine ObX.op rfl ?_
                intro f254 wd255 he256 hout257 hphi258
                have hS259 : St wd10 wd255 [] := St.extend hS93 he256
                have e260 : f254 3 = (Value.int .i64 j) := (hout257 3 rfl).trans hf82
                exact OpX.val (Value.int .i64 j) wd255 rfl (op_move e260) (Ext.refl _) ⟨rfl, r_j⟩
              · refine ObX.op rfl ?_
                intro f261 wd262 he263 hout264 hphi265
                have hS266 : St wd10 wd262 [] := St.extend hS93 he263
                obtain ⟨S267, hS268, hf269⟩ := hphi265 13 49 _ rfl rfl rfl
                have e270 : f261 49 = v_a_Matrices := hf269
                obtain ⟨S271, hS272, hf273⟩ := hphi265 14 50 _ rfl rfl rfl
                obtain ⟨e274, hr275⟩ : f261 50 = (Value.int .i64 j) ∧ InR .i64 j := hf273
                exact OpX.val (Value.pointer (some (elA v_a_Matrices (j).toNat))) wd262 rfl (op_idx sl_22 (Ty.lift _ (Ext.trans hE15 hS266.ext) r_a_Matrices) e270 e274 ha277 hb278) (Ext.refl _) rfl
              · refine ObX.op rfl ?_
                intro f280 wd281 he282 hout283 hphi284
                have hS285 : St wd10 wd281 [] := St.extend hS93 he282
                obtain ⟨S286, hS287, hf288⟩ := hphi284 15 51 _ rfl rfl rfl
                have e289 : f280 51 = (Value.pointer (some (elA v_a_Matrices (j).toNat))) := hf288
                exact OpX.val u290 wd281 rfl (op_load one_65 e289 (Ext.cell (Ext.trans hE15 hS285.ext) hc291)) (Ext.refl _) rfl
              · refine ObX.op rfl ?_
                intro f293 wd294 he295 hout296 hphi297
                have hS298 : St wd10 wd294 [] := St.extend hS93 he295
                have e299 : f293 14 = (Value.int .i64 (k71 : Int)) := (hout296 14 rfl).trans hf91
                exact OpX.val (Value.int .i64 (k71 : Int)) wd294 rfl (op_move e299) (Ext.refl _) ⟨rfl, hr92⟩
              · refine ObX.op rfl ?_
                intro f300 wd301 he302 hout303 hphi304
                have hS305 : St wd10 wd301 [] := St.extend hS93 he302
                obtain ⟨S306, hS307, hf308⟩ := hphi304 16 52 _ rfl rfl rfl
                have e309 : f300 52 = u290 := hf308
                obtain ⟨S310, hS311, hf312⟩ := hphi304 17 53 _ rfl rfl rfl
                obtain ⟨e313, hr314⟩ : f300 53 = (Value.int .i64 (k71 : Int)) ∧ InR .i64 (k71 : Int) := hf312
                exact OpX.val (Value.pointer (some (elA u290 ((k71 : Int)).toNat))) wd301 rfl (op_idx sl_65 (Ty.lift _ (Ext.trans hE15 hS305.ext) hr292) e309 e313 ha316 hb317) (Ext.refl _) rfl
              · refine ObX.op rfl ?_
                intro f319 wd320 he321 hout322 hphi323
                have hS324 : St wd10 wd320 [] := St.extend hS93 he321
                obtain ⟨S325, hS326, hf327⟩ := hphi323 18 54 _ rfl rfl rfl
                have e328 : f319 54 = (Value.pointer (some (elA u290 ((k71 : Int)).toNat))) := hf327
                exact OpX.val u329 wd320 rfl (op_load one_25 e328 (Ext.cell (Ext.trans hE15 hS324.ext) hc330)) (Ext.refl _) rfl
              · refine ObX.op rfl ?_
                intro f332 wd333 he334 hout335 hphi336
                have hS337 : St wd10 wd333 [] := St.extend hS93 he334
                have e338 : f332 11 = (Value.int .i64 (k49 : Int)) := (hout335 11 rfl).trans hf87
                exact OpX.val (Value.int .i64 (k49 : Int)) wd333 rfl (op_move e338) (Ext.refl _) ⟨rfl, hr65⟩
              · refine ObX.op rfl ?_
                intro f339 wd340 he341 hout342 hphi343
                have hS344 : St wd10 wd340 [] := St.extend hS93 he341
                obtain ⟨S345, hS346, hf347⟩ := hphi343 19 55 _ rfl rfl rfl
                have e348 : f339 55 = u329 := hf347
                obtain ⟨S349, hS350, hf351⟩ := hphi343 20 56 _ rfl rfl rfl
                obtain ⟨e352, hr353⟩ : f339 56 = (Value.int .i64 (k49 : Int)) ∧ InR .i64 (k49 : Int) := hf351
                exact OpX.val (Value.pointer (some (elA u329 ((k49 : Int)).toNat))) wd340 rfl (op_idx sl_25 (Ty.lift _ (Ext.trans hE15 hS344.ext) hr331) e348 e352 ha355 hb356) (Ext.refl _) rfl
              · refine ObX.op rfl ?_
                intro f358 wd359 he360 hout361 hphi362
                have hS363 : St wd10 wd359 [] := St.extend hS93 he360
                obtain ⟨S364, hS365, hf366⟩ := hphi362 21 57 _ rfl rfl rfl
                have e367 : f358 57 = (Value.pointer (some (elA u329 ((k49 : Int)).toNat))) := hf366
                exact OpX.val (Value.int .i64 x354) wd359 rfl (op_load one_2 e367 (Ext.cell (Ext.trans hE15 hS363.ext) hc369)) (Ext.refl _) ⟨rfl, hr370⟩
              · refine ObX.op rfl ?_
                intro f371 wd372 he373 hout374 hphi375
                have hS376 : St wd10 wd372 [] := St.extend hS93 he373
                obtain ⟨S377, hS378, hf379⟩ := hphi375 11 47 _ rfl rfl rfl
                obtain ⟨e380, hr381⟩ : f371 47 = (Value.int .i64 x220) ∧ InR .i64 x220 := hf379
                obtain ⟨S382, hS383, hf384⟩ := hphi375 22 58 _ rfl rfl rfl
                obtain ⟨e385, hr386⟩ : f371 58 = (Value.int .i64 x354) ∧ InR .i64 x354 := hf384
                exact OpX.val (Value.int .i64 (w64 (x220 * x354))) wd372 rfl (op_mul e380 e385) (Ext.refl _) ⟨rfl, (inR_wrap _ _)⟩
              · intro f387 wd388 Ss389 he390 hout391 hSn392 hSd393 hphi394
                show WL _ _ _ _ _ _ _
                have hS395 : St wd10 wd388 [] := St.extend hS93 he390
                obtain ⟨e396, hr397⟩ : f387 36 = (Value.int .i64 x72) ∧ InR .i64 x72 := hphi394 0 36 _ (by decide) rfl rfl
                obtain ⟨e398, hr399⟩ : f387 59 = (Value.int .i64 (w64 (x220 * x354))) ∧ InR .i64 (w64 (x220 * x354)) := hphi394 23 59 _ (by decide) rfl rfl
                have e400 : f387 2 = (Value.int .i64 i) := (hout391 2 rfl).trans hf81
                have e401 : f387 3 = (Value.int .i64 j) := (hout391 3 rfl).trans hf82
                have e402 : f387 4 = (Value.pointer (some ⟨b1, 0, none⟩)) := (hout391 4 rfl).trans hf83
                have e403 : f387 5 = (Value.pointer (some ⟨b9, 0, none⟩)) := (hout391 5 rfl).trans hf84
                have e404 : f387 9 = (Value.int .i64 ((x18).length : Int)) := (hout391 9 rfl).trans hf85
                have e405 : f387 10 = (Value.int .i64 (k28 : Int)) := (hout391 10 rfl).trans hf86
                have e406 : f387 11 = (Value.int .i64 (k49 : Int)) := (hout391 11 rfl).trans hf87
                have e407 : f387 13 = (Value.int .i64 (0 : Int)) := (hout391 13 rfl).trans hf90
                have e408 : f387 14 = (Value.int .i64 (k71 : Int)) := (hout391 14 rfl).trans hf91
                refine WL.val (Value.int .i64 (w64 (x72 + (w64 (x220 * x354))))) _ (op_add e396 e398) rfl ?_
                refine WL.val (Value.int .i64 (w64 (x72 + (w64 (x220 * x354))))) _ (op_assign rfl) rfl ?_
                refine WL.nil ?_
                show W _ _ _ _ _ _
                refine W.region ?_
                refine WL.val (Value.int .i64 (k71 : Int)) _ (op_move e408) rfl ?_
                refine WL.val (Value.int .i64 (w64 ((k71 : Int) + (1 : Int)))) _ (op_add rfl rfl) rfl ?_
                refine WL.val (Value.int .i64 (w64 ((k71 : Int) + (1 : Int)))) _ (op_assign rfl) rfl ?_
                refine WL.nil ?_
                obtain rfl := Option.some.inj hb77
                show ∃ s, _ = Ctl.next s ∧ _
                exact ⟨_, rfl, e400, e401, e402, e403, e404, e405, e406, rfl, (inR_wrap _ _), e407, (ctr_next hl94 hr25), (ctr_rng hl94 hr25), hS395⟩
            · intro x415 f410 wd411 hs412 hI413
              replace hI413 : f410 2 = (Value.int .i64 i) ∧ f410 3 = (Value.int .i64 j) ∧ f410 4 = (Value.pointer (some ⟨b1, 0, none⟩)) ∧ f410 5 = (Value.pointer (some ⟨b9, 0, none⟩)) ∧ f410 9 = (Value.int .i64 ((x18).length : Int)) ∧ f410 10 = (Value.int .i64 (k28 : Int)) ∧ f410 11 = (Value.int .i64 (k49 : Int)) ∧ f410 12 = Value.int .i64 x415 ∧ InR .i64 x415 ∧ f410 13 = (Value.int .i64 (0 : Int)) ∧ f410 14 = Value.int .i64 (((x18).length : Nat) : Int) ∧ InR .i64 (((x18).length : Nat) : Int) ∧ St wd10 wd411 [] := hI413
              obtain ⟨hf416, hf417, hf418, hf419, hf420, hf421, hf422, hf423, hr424, hf425, hf426, hr427, hS428⟩ := hI413
              refine W.seq (W.seq (W.region ?_))
              refine WL.val (Value.int .i64 (((x18).length : Nat) : Int)) _ (op_move hf426) rfl ?_
              refine WL.val (Value.int .i64 ((x18).length : Int)) _ (op_move hf420) rfl ?_
              refine WL.val (Value.bool (decide ((((x18).length : Nat) : Int) < ((x18).length : Int)))) _ (op_lss rfl rfl) rfl ?_
              have hl429 : ¬ (((x18).length : Nat) : Int) < ((x18).length : Int) := by omega
              refine WL.nil ?_
              show W _ _ _ _ _ _
              refine W.condF (decide ((((x18).length : Nat) : Int) < ((x18).length : Int))) rfl (decide_eq_false hl429) ?_
              refine W.exit ?_
              show _ = _ ∧ _
              exact ⟨rfl, _, hs412, hf416, hf417, hf418, hf419, hf420, hf421, hf422, hf423, hr424, hf425, hS428⟩
          · rintro f430 wd431 ⟨x434, rfl, hq432⟩
            replace hb54 := onRes_fin hb54
            replace hq432 : f430 2 = (Value.int .i64 i) ∧ f430 3 = (Value.int .i64 j) ∧ f430 4 = (Value.pointer (some ⟨b1, 0, none⟩)) ∧ f430 5 = (Value.pointer (some ⟨b9, 0, none⟩)) ∧ f430 9 = (Value.int .i64 ((x18).length : Int)) ∧ f430 10 = (Value.int .i64 (k28 : Int)) ∧ f430 11 = (Value.int .i64 (k49 : Int)) ∧ f430 12 = Value.int .i64 x434 ∧ InR .i64 x434 ∧ f430 13 = (Value.int .i64 (0 : Int)) ∧ St wd10 wd431 [] := hq432
            obtain ⟨hf435, hf436, hf437, hf438, hf439, hf440, hf441, hf442, hr443, hf444, hS445⟩ := hq432
            show W _ _ _ _ _ _
            refine W.seq (W.seq (W.region ?_))
            refine WL.val (Value.int .i64 (0 : Int)) _ (op_assign rfl) rfl ?_
            refine WL.nil ?_
            show W _ _ _ _ _ _
            obtain ⟨res446, hres447, hb54⟩ := bs hb54
            refine W.blockLoop (fun fq wq => ∃ s, res446 = Res.fin s ∧ fq 2 = (Value.int .i64 i) ∧ fq 3 = (Value.int .i64 j) ∧ fq 4 = (Value.pointer (some ⟨b1, 0, none⟩)) ∧ fq 5 = (Value.pointer (some ⟨b9, 0, none⟩)) ∧ fq 9 = (Value.int .i64 ((x18).length : Int)) ∧ fq 10 = (Value.int .i64 (k28 : Int)) ∧ fq 11 = (Value.int .i64 (k49 : Int)) ∧ fq 12 = (Value.int .i64 x434) ∧ fq 13 = Value.int .i64 s ∧ InR .i64 s ∧ St wd10 wq []) ?_ ?_
            · refine W.forN (fun k (s : Int) fq wq => fq 2 = (Value.int .i64 i) ∧ fq 3 = (Value.int .i64 j) ∧ fq 4 = (Value.pointer (some ⟨b1, 0, none⟩)) ∧ fq 5 = (Value.pointer (some ⟨b9, 0, none⟩)) ∧ fq 9 = (Value.int .i64 ((x18).length : Int)) ∧ fq 10 = (Value.int .i64 (k28 : Int)) ∧ fq 11 = (Value.int .i64 (k49 : Int)) ∧ fq 12 = (Value.int .i64 x434) ∧ fq 13 = Value.int .i64 s ∧ InR .i64 s ∧ fq 15 = Value.int .i64 (k : Int) ∧ InR .i64 (k : Int) ∧ St wd10 wq []) hres447 ⟨hf435, hf436, hf437, hf438, hf439, hf440, hf441, hf442, hf444, (inR_i64.2 (show (-9223372036854775808 : Int) ≤ 0 ∧ (0 : Int) ≤ 9223372036854775807 from by decide)), rfl, (inR_i64.2 (show (-9223372036854775808 : Int) ≤ 0 ∧ (0 : Int) ≤ 9223372036854775807 from by decide)), hS445⟩ ?_ ?_
              · intro k448 x449 ct450 f451 wd452 hk453 hb454 hI455 hbrk456 hret457
                replace hI455 : f451 2 = (Value.int .i64 i) ∧ f451 3 = (Value.int .i64 j) ∧ f451 4 = (Value.pointer (some ⟨b1, 0, none⟩)) ∧ f451 5 = (Value.pointer (some ⟨b9, 0, none⟩)) ∧ f451 9 = (Value.int .i64 ((x18).length : Int)) ∧ f451 10 = (Value.int .i64 (k28 : Int)) ∧ f451 11 = (Value.int .i64 (k49 : Int)) ∧ f451 12 = (Value.int .i64 x434) ∧ f451 13 = Value.int .i64 x449 ∧ InR .i64 x449 ∧ f451 15 = Value.int .i64 (k448 : Int) ∧ InR .i64 (k448 : Int) ∧ St wd10 wd452 [] := hI455
                replace hb454 : p_spec_l09Product_L4 r_Table i j a_Matrices k28 k49 k448 x449 = some ct450 := hb454
                unfold p_spec_l09Product_L4 at hb454
                obtain ⟨hf458, hf459, hf460, hf461, hf462, hf463, hf464, hf465, hf466, hr467, hf468, hr469, hS470⟩ := hI455
                refine W.seq (W.seq (W.region ?_))
                refine WL.val (Value.int .i64 (k448 : Int)) _ (op_move hf468) rfl ?_
                refine WL.val (Value.pointer (some ⟨b1, 0, none⟩)) _ (op_fieldAddr fd_29_0 hf460) rfl ?_
                refine WL.val v_r_Table _ (op_load one_22 rfl (BoxAt.cell (BoxAt.lift (Ext.trans hE16 hS470.ext) hx6) rfl)) rfl ?_
                have hr471 := inR_len (Ty.lift _ (Ext.trans hE15 hS470.ext) r_r_Table)
                refine WL.val (Value.int .i64 ((r_Table).length : Int)) _ (op_lenL sl_22 (Ty.lift _ (Ext.trans hE15 hS470.ext) r_r_Table) rfl) rfl ?_
                refine WL.val (Value.bool (decide ((k448 : Int) < ((r_Table).length : Int)))) _ (op_lss rfl rfl) rfl ?_
                have hl472 : (k448 : Int) < ((r_Table).length : Int) := by omega
                refine WL.nil ?_
                show W _ _ _ _ _ _
                refine W.condT (decide ((k448 : Int) < ((r_Table).length : Int))) rfl (decide_eq_true hl472) ?_
                refine W.skip ?_
                show W _ _ _ _ _ _
                refine W.seq ?_
                refine W.block ?_
                obtain ⟨x520, hx523, hb454⟩ := bs hb454
                obtain ⟨ha521, hb522, hx523⟩ := idx_some hx523
                obtain ⟨u534, hc535, hr536⟩ := repSl.el r_r_Table hx523
                obtain ⟨x559, hx562, hb454⟩ := bs hb454
                obtain ⟨ha560, hb561, hx562⟩ := idx_some hx562
                obtain ⟨u573, hc574, hr575⟩ := repSl.el hr536 hx562
                obtain ⟨x598, hx601, hb454⟩ := bs hb454
                obtain ⟨ha599, hb600, hx601⟩ := idx_some hx601
                obtain ⟨u612, hc613, hr614⟩ := repSl.el hr575 hx601
                obtain ⟨rfl, hr614⟩ := hr614
                obtain ⟨x654, hx657, hb454⟩ := bs hb454
                obtain ⟨ha655, hb656, hx657⟩ := idx_some hx657
                obtain ⟨u668, hc669, hr670⟩ := repSl.el r_a_Matrices hx657
                obtain ⟨x693, hx696, hb454⟩ := bs hb454
                obtain ⟨ha694, hb695, hx696⟩ := idx_some hx696
                obtain ⟨u707, hc708, hr709⟩ := repSl.el hr670 hx696
                obtain ⟨x732, hx735, hb454⟩ := bs hb454
                obtain ⟨ha733, hb734, hx735⟩ := idx_some hx735
                obtain ⟨u746, hc747, hr748⟩ := repSl.el hr709 hx735
                obtain ⟨rfl, hr748⟩ := hr748
                refine W.drawR mixo 24 [] [fun _ v _ _ => v = (Value.int .i64 x449) ∧ InR .i64 x449, fun _ v _ _ => v = (Value.pointer (some ⟨b1, 0, none⟩)), fun _ v _ _ => v = v_r_Table, fun _ v _ _ => v = (Value.int .i64 i) ∧ InR .i64 i, fun _ v _ _ => v = (Value.pointer (some (elA v_r_Table (i).toNat))), fun _ v _ _ => v = u534, fun _ v _ _ => v = (Value.int .i64 j) ∧ InR .i64 j, fun _ v _ _ => v = (Value.pointer (some (elA u534 (j).toNat))), fun _ v _ _ => v = u573, fun _ v _ _ => v = (Value.int .i64 (k448 : Int)) ∧ InR .i64 (k448 : Int), fun _ v _ _ => v = (Value.pointer (some (elA u573 ((k448 : Int)).toNat))), fun _ v _ _ => v = (Value.int .i64 x598) ∧ InR .i64 x598, fun _ v _ _ => v = (Value.pointer (some ⟨b9, 0, none⟩)), fun _ v _ _ => v = v_a_Matrices, fun _ v _ _ => v = (Value.int .i64 (k448 : Int)) ∧ InR .i64 (k448 : Int), fun _ v _ _ => v = (Value.pointer (some (elA v_a_Matrices ((k448 : Int)).toNat))), fun _ v _ _ => v = u668, fun _ v _ _ => v = (Value.int .i64 (k28 : Int)) ∧ InR .i64 (k28 : Int), fun _ v _ _ => v = (Value.pointer (some (elA u668 ((k28 : Int)).toNat))), fun _ v _ _ => v = u707, fun _ v _ _ => v = (Value.int .i64 (k49 : Int)) ∧ InR .i64 (k49 : Int), fun _ v _ _ => v = (Value.pointer (some (elA u707 ((k49 : Int)).toNat))), fun _ v _ _ => v = (Value.int .i64 x732) ∧ InR .i64 x732, fun _ v _ _ => v = (Value.int .i64 (w64 (x598 * x732))) ∧ InR .i64 (w64 (x598 * x732))] (by kernel_rfl) (by kernel_rfl) ⟨⟨fun _ _ _ _ _ _ h => h, fun _ _ _ _ _ _ h => h⟩, ⟨fun _ _ _ _ _ _ h => h, fun _ _ _ _ _ _ h => h⟩, ⟨fun _ _ _ _ _ _ h => h, fun _ _ _ _ _ _ h => h⟩, ⟨fun _ _ _ _ _ _ h => h, fun _ _ _ _ _ _ h => h⟩, ⟨fun _ _ _ _ _ _ h => h, fun _ _ _ _ _ _ h => h⟩, ⟨fun _ _ _ _ _ _ h => h, fun _ _ _ _ _ _ h => h⟩, ⟨fun _ _ _ _ _ _ h => h, fun _ _ _ _ _ _ h => h⟩, ⟨fun _ _ _ _ _ _ h => h, fun _ _ _ _ _ _ h => h⟩, ⟨fun _ _ _ _ _ _ h => h, fun _ _ _ _ _ _ h => h⟩, ⟨fun _ _ _ _ _ _ h => h, fun _ _ _ _ _ _ h => h⟩, ⟨fun _ _ _ _ _ _ h => h, fun _ _ _ _ _ _ h => h⟩, ⟨fun _ _ _ _ _ _ h => h, fun _ _ _ _ _ _ h => h⟩, ⟨fun _ _ _ _ _ _ h => h, fun _ _ _ _ _ _ h => h⟩, ⟨fun _ _ _ _ _ _ h => h, fun _ _ _ _ _ _ h => h⟩, ⟨fun _ _ _ _ _ _ h => h, fun _ _ _ _ _ _ h => h⟩, ⟨fun _ _ _ _ _ _ h => h, fun _ _ _ _ _ _ h => h⟩, ⟨fun _ _ _ _ _ _ h => h, fun _ _ _ _ _ _ h => h⟩, ⟨fun _ _ _ _ _ _ h => h, fun _ _ _ _ _ _ h => h⟩, ⟨fun _ _ _ _ _ _ h => h, fun _ _ _ _ _ _ h => h⟩, ⟨fun _ _ _ _ _ _ h => h, fun _ _ _ _ _ _ h => h⟩, ⟨fun _ _ _ _ _ _ h => h, fun _ _ _ _ _ _ h => h⟩, ⟨fun _ _ _ _ _ _ h => h, fun _ _ _ _ _ _ h => h⟩, ⟨fun _ _ _ _ _ _ h => h, fun _ _ _ _ _ _ h => h⟩, ⟨fun _ _ _ _ _ _ h => h, fun _ _ _ _ _ _ h => h⟩, trivial⟩ ⟨?_, ?_, ?_, ?_, ?_, ?_, ?_, ?_, ?_, ?_, ?_, ?_, ?_, ?_, ?_, ?_, ?_, ?_, ?_, ?_, ?_, ?_, ?_, ?_, trivial⟩ ?_
                · refine ObX.op rfl ?_
                  intro f474 wd475 he476 hout477 hphi478
                  have hS479 : St wd10 wd475 [] := St.extend hS470 he476
                  have e480 : f474 13 = (Value.int .i64 x449) := (hout477 13 rfl).trans hf466
                  exact OpX.val (Value.int .i64 x449) wd475 rfl (op_move e480) (Ext.refl _) ⟨rfl, hr467⟩
                · refine ObX.op rfl ?_
                  intro f481 wd482 he483 hout484 hphi485
                  have hS486 : St wd10 wd482 [] := St.extend hS470 he483
                  have e487 : f481 4 = (Value.pointer (some ⟨b1, 0, none⟩)) := (hout484 4 rfl).trans hf460
                  exact OpX.val (Value.pointer (some ⟨b1, 0, none⟩)) wd482 rfl (op_fieldAddr fd_29_0 e487) (Ext.refl _) rfl
                · refine ObX.op rfl ?_
                  intro f488 wd489 he490 hout491 hphi492
                  have hS493 : St wd10 wd489 [] := St.extend hS470 he490
                  obtain ⟨S494, hS495, hf496⟩ := hphi492 1 69 _ rfl rfl rfl
                  have e497 : f488 69 = (Value.pointer (some ⟨b1, 0, none⟩)) := hf496
                  exact OpX.val v_r_Table wd489 rfl (op_load one_22 e497 (BoxAt.cell (BoxAt.lift (Ext.trans hE16 hS493.ext) hx6) rfl)) (Ext.refl _) rfl
                · refine ObX.op rfl ?_
                  intro f498 wd499 he500 hout501 hphi502
                  have hS503 : St wd10 wd499 [] := St.extend hS470 he500
                  have e504 : f498 2 = (Value.int .i64 i) := (hout501 2 rfl).trans hf458
                  exact OpX.val (Value.int .i64 i) wd499 rfl (op_move e504) (Ext.refl _) ⟨rfl, r_i⟩
                · refine ObX.op rfl ?_
                  intro f505 wd506 he507 hout508 hphi509
                  have hS510 : St wd10 wd506 [] := St.extend hS470 he507
                  obtain ⟨S511, hS512, hf513⟩ := hphi509 2 70 _ rfl rfl rfl
                  have e514 : f505 70 = v_r_Table := hf513
                  obtain ⟨S515, hS516, hf517⟩ := hphi509 3 71 _ rfl rfl rfl
                  obtain ⟨e518, hr519⟩ : f505 71 = (Value.int .i64 i) ∧ InR .i64 i := hf517
                  exact OpX.val (Value.pointer (some (elA v_r_Table (i).toNat))) wd506 rfl (op_idx sl_22 (Ty.lift _ (Ext.trans hE15 hS510.ext) r_r_Table) e514 e518 ha521 hb522) (Ext.refl _) rfl
                · refine ObX.op rfl ?_
                  intro f524 wd525 he526 hout527 hphi528
                  have hS529 : St wd10 wd525 [] := St.extend hS470 he526
                  obtain ⟨S530, hS531, hf532⟩ := hphi528 4 72 _ rfl rfl rfl
                  have e533 : f524 72 = (Value.pointer (some (elA v_r_Table (i).toNat))) := hf532
                  exact OpX.val u534 wd525 rfl (op_load one_65 e533 (Ext.cell (Ext.trans hE15 hS529.ext) hc535)) (Ext.refl _) rfl
                · refine ObX.op rfl ?_
                  intro f537 wd538 he539 hout540 hphi541
                  have hS542 : St wd10 wd538 [] := St.extend hS470 he539
                  have e543 : f537 3 = (Value.int .i64 j) := (hout540 3 rfl).trans hf459
                  exact OpX.val (Value.int .i64 j) wd538 rfl (op_move e543) (Ext.refl _) ⟨rfl, r_j⟩
                · refine ObX.op rfl ?_
                  intro f544 wd545 he546 hout547 hphi548
                  have hS549 : St wd10 wd545 [] := St.extend hS470 he546
                  obtain ⟨S550, hS551, hf552⟩ := hphi548 5 73 _ rfl rfl rfl
                  have e553 : f544 73 = u534 := hf552
                  obtain ⟨S554, hS555, hf556⟩ := hphi548 6 74 _ rfl rfl rfl
                  obtain ⟨e557, hr558⟩ : f544 74 = (Value.int .i64 j) ∧ InR .i64 j := hf556
                  exact OpX.val (Value.pointer (some (elA u534 (j).toNat))) wd545 rfl (op_idx sl_65 (Ty.lift _ (Ext.trans hE15 hS549.ext) hr536) e553 e557 ha560 hb561) (Ext.refl _) rfl
                · refine ObX.op rfl ?_
                  intro f563 wd564 he565 hout566 hphi567
                  have hS568 : St wd10 wd564 [] := St.extend hS470 he565
                  obtain ⟨S569, hS570, hf571⟩ := hphi567 7 75 _ rfl rfl rfl
                  have e572 : f563 75 = (Value.pointer (some (elA u534 (j).toNat))) := hf571
                  exact OpX.val u573 wd564 rfl (op_load one_25 e572 (Ext.cell (Ext.trans hE15 hS568.ext) hc574)) (Ext.refl _) rfl
                · refine ObX.op rfl ?_
                  intro f576 wd577 he578 hout579 hphi580
                  have hS581 : St wd10 wd577 [] := St.extend hS470 he578
                  have e582 : f576 15 = (Value.int .i64 (k448 : Int)) := (hout579 15 rfl).trans hf468
                  exact OpX.val (Value.int .i64 (k448 : Int)) wd577 rfl (op_move e582) (Ext.refl _) ⟨rfl, hr469⟩
                · refine ObX.op rfl ?_
                  intro f583 wd584 he585 hout586 hphi587
                  have hS588 : St wd10 wd584 [] := St.extend hS470 he585
                  obtain ⟨S589, hS590, hf591⟩ := hphi587 8 76 _ rfl rfl rfl
                  have e592 : f583 76 = u573 := hf591
                  obtain ⟨S593, hS594, hf595⟩ := hphi587 9 77 _ rfl rfl rfl
                  obtain ⟨e596, hr597⟩ : f583 77 = (Value.int .i64 (k448 : Int)) ∧ InR .i64 (k448 : Int) := hf595
                  exact OpX.val (Value.pointer (some (elA u573 ((k448 : Int)).toNat))) wd584 rfl (op_idx sl_25 (Ty.lift _ (Ext.trans hE15 hS588.ext) hr575) e592 e596 ha599 hb600) (Ext.refl _) rfl
                · refine ObX.op rfl ?_
                  intro f602 wd603 he604 hout605 hphi606
                  have hS607 : St wd10 wd603 [] := St.extend hS470 he604
                  obtain ⟨S608, hS609, hf610⟩ := hphi606 10 78 _ rfl rfl rfl
                  have e611 : f602 78 = (Value.pointer (some (elA u573 ((k448 : Int)).toNat))) := hf610
                  exact OpX.val (Value.int .i64 x598) wd603 rfl (op_load one_2 e611 (Ext.cell (Ext.trans hE15 hS607.ext) hc613)) (Ext.refl _) ⟨rfl, hr614⟩
                · refine ObX.op rfl ?_
                  intro f615 wd616 he617 hout618 hphi619
                  have hS620 : St wd10 wd616 [] := St.extend hS470 he617
                  have e621 : f615 5 = (Value.pointer (some ⟨b9, 0, none⟩)) := (hout618 5 rfl).trans hf461
                  exact OpX.val (Value.pointer (some ⟨b9, 0, none⟩)) wd616 rfl (op_fieldAddr fd_42_0 e621) (Ext.refl _) rfl
                · refine ObX.op rfl ?_
                  intro f622 wd623 he624 hout625 hphi626
                  have hS627 : St wd10 wd623 [] := St.extend hS470 he624
                  obtain ⟨S628, hS629, hf630⟩ := hphi626 12 80 _ rfl rfl rfl
                  have e631 : f622 80 = (Value.pointer (some ⟨b9, 0, none⟩)) := hf630
                  exact OpX.val v_a_Matrices wd623 rfl (op_load one_22 e631 (BoxAt.cell (BoxAt.lift hS627.ext hx14) rfl)) (Ext.refl _) rfl
                · refine ObX.op rfl ?_
                  intro f632 wd633 he634 hout635 hphi636
                  have hS637 : St wd10 wd633 [] := St.extend hS470 he634
                  have e638 : f632 15 = (Value.int .i64 (k448 : Int)) := (hout635 15 rfl).trans hf468
                  exact OpX.val (Value.int .i64 (k448 : Int)) wd633 rfl (op_move e638) (Ext.refl _) ⟨rfl, hr469⟩
                · refine ObX.op rfl ?_
                  intro f639 wd640 he641 hout642 hphi643
                  have hS644 : St wd10 wd640 [] := St.extend hS470 he641
                  obtain ⟨S645, hS646, hf647⟩ := hphi643 13 81 _ rfl rfl rfl
                  have e648 : f639 81 = v_a_Matrices := hf647
                  obtain ⟨S649, hS650, hf651⟩ := hphi643 14 82 _ rfl rfl rfl
                  obtain ⟨e652, hr653⟩ : f639 82 = (Value.int .i64 (k448 : Int)) ∧ InR .i64 (k448 : Int) := hf651
                  exact OpX.val (Value.pointer (some (elA v_a_Matrices ((k448 : Int)).toNat))) wd640 rfl (op_idx sl_22 (Ty.lift _ (Ext.trans hE15 hS644.ext) r_a_Matrices) e648 e652 ha655 hb656) (Ext.refl _) rfl
                · refine ObX.op rfl ?_
                  intro f658 wd659 he660 hout661 hphi662
                  have hS663 : St wd10 wd659 [] := St.extend hS470 he660
                  obtain ⟨S664, hS665, hf666⟩ := hphi662 15 83 _ rfl rfl rfl
                  have e667 : f658 83 = (Value.pointer (some (elA v_a_Matrices ((k448 : Int)).toNat))) := hf666
                  exact OpX.val u668 wd659 rfl (op_load one_65 e667 (Ext.cell (Ext.trans hE15 hS663.ext) hc669)) (Ext.refl _) rfl
                · refine ObX.op rfl ?_
                  intro f671 wd672 he673 hout674 hphi675
                  have hS676 : St wd10 wd672 [] := St.extend hS470 he673
                  have e677 : f671 10 = (Value.int .i64 (k28 : Int)) := (hout674 10 rfl).trans hf463
                  exact OpX.val (Value.int .i64 (k28 : Int)) wd672 rfl (op_move e677) (Ext.refl _) ⟨rfl, hr43⟩
                · refine ObX.op rfl ?_
                  intro f678 wd679 he680 hout681 hphi682
                  have hS683 : St wd10 wd679 [] := St.extend hS470 he680
                  obtain ⟨S684, hS685, hf686⟩ := hphi682 16 84 _ rfl rfl rfl
                  have e687 : f678 84 = u668 := hf686
                  obtain ⟨S688, hS689, hf690⟩ := hphi682 17 85 _ rfl rfl rfl
                  obtain ⟨e691, hr692⟩ : f678 85 = (Value.int .i64 (k28 : Int)) ∧ InR .i64 (k28 : Int) := hf690
                  exact OpX.val (Value.pointer (some (elA u668 ((k28 : Int)).toNat))) wd679 rfl (op_idx sl_65 (Ty.lift _ (Ext.trans hE15 hS683.ext) hr670) e687 e691 ha694 hb695) (Ext.refl _) rfl
                · refine ObX.op rfl ?_
                  intro f697 wd698 he699 hout700 hphi701
                  have hS702 : St wd10 wd698 [] := St.extend hS470 he699
                  obtain ⟨S703, hS704, hf705⟩ := hphi701 18 86 _ rfl rfl rfl
                  have e706 : f697 86 = (Value.pointer (some (elA u668 ((k28 : Int)).toNat))) := hf705
                  exact OpX.val u707 wd698 rfl (op_load one_25 e706 (Ext.cell (Ext.trans hE15 hS702.ext) hc708)) (Ext.refl _) rfl
                · refine ObX.op rfl ?_
                  intro f710 wd711 he712 hout713 hphi714
                  have hS715 : St wd10 wd711 [] := St.extend hS470 he712
                  have e716 : f710 11 = (Value.int .i64 (k49 : Int)) := (hout713 11 rfl).trans hf464
                  exact OpX.val (Value.int .i64 (k49 : Int)) wd711 rfl (op_move e716) (Ext.refl _) ⟨rfl, hr65⟩
                · refine ObX.op rfl ?_
                  intro f717 wd718 he719 hout720 hphi721
                  have hS722 : St wd10 wd718 [] := St.extend hS470 he719
                  obtain ⟨S723, hS724, hf725⟩ := hphi721 19 87 _ rfl rfl rfl
                  have e726 : f717 87 = u707 := hf725
                  obtain ⟨S727, hS728, hf729⟩ := hphi721 20 88 _ rfl rfl rfl
                  obtain ⟨e730, hr731⟩ : f717 88 = (Value.int .i64 (k49 : Int)) ∧ InR .i64 (k49 : Int) := hf729
                  exact OpX.val (Value.pointer (some (elA u707 ((k49 : Int)).toNat))) wd718 rfl (op_idx sl_25 (Ty.lift _ (Ext.trans hE15 hS722.ext) hr709) e726 e730 ha733 hb734) (Ext.refl _) rfl
                · refine ObX.op rfl ?_
                  intro f736 wd737 he738 hout739 hphi740
                  have hS741 : St wd10 wd737 [] := St.extend hS470 he738
                  obtain ⟨S742, hS743, hf744⟩ := hphi740 21 89 _ rfl rfl rfl
                  have e745 : f736 89 = (Value.pointer (some (elA u707 ((k49 : Int)).toNat))) := hf744
                  exact OpX.val (Value.int .i64 x732) wd737 rfl (op_load one_2 e745 (Ext.cell (Ext.trans hE15 hS741.ext) hc747)) (Ext.refl _) ⟨rfl, hr748⟩
                · refine ObX.op rfl ?_
                  intro f749 wd750 he751 hout752 hphi753
                  have hS754 : St wd10 wd750 [] := St.extend hS470 he751
                  obtain ⟨S755, hS756, hf757⟩ := hphi753 11 79 _ rfl rfl rfl
                  obtain ⟨e758, hr759⟩ : f749 79 = (Value.int .i64 x598) ∧ InR .i64 x598 := hf757
                  obtain ⟨S760, hS761, hf762⟩ := hphi753 22 90 _ rfl rfl rfl
                  obtain ⟨e763, hr764⟩ : f749 90 = (Value.int .i64 x732) ∧ InR .i64 x732 := hf762
                  exact OpX.val (Value.int .i64 (w64 (x598 * x732))) wd750 rfl (op_mul e758 e763) (Ext.refl _) ⟨rfl, (inR_wrap _ _)⟩
                · intro f765 wd766 Ss767 he768 hout769 hSn770 hSd771 hphi772
                  show WL _ _ _ _ _ _ _
                  have hS773 : St wd10 wd766 [] := St.extend hS470 he768
                  obtain ⟨e774, hr775⟩ : f765 68 = (Value.int .i64 x449) ∧ InR .i64 x449 := hphi772 0 68 _ (by decide) rfl rfl
                  obtain ⟨e776, hr777⟩ : f765 91 = (Value.int .i64 (w64 (x598 * x732))) ∧ InR .i64 (w64 (x598 * x732)) := hphi772 23 91 _ (by decide) rfl rfl
                  have e778 : f765 2 = (Value.int .i64 i) := (hout769 2 rfl).trans hf458
                  have e779 : f765 3 = (Value.int .i64 j) := (hout769 3 rfl).trans hf459
                  have e780 : f765 4 = (Value.pointer (some ⟨b1, 0, none⟩)) := (hout769 4 rfl).trans hf460
                  have e781 : f765 5 = (Value.pointer (some ⟨b9, 0, none⟩)) := (hout769 5 rfl).trans hf461
                  have e782 : f765 9 = (Value.int .i64 ((x18).length : Int)) := (hout769 9 rfl).trans hf462
                  have e783 : f765 10 = (Value.int .i64 (k28 : Int)) := (hout769 10 rfl).trans hf463
                  have e784 : f765 11 = (Value.int .i64 (k49 : Int)) := (hout769 11 rfl).trans hf464
                  have e785 : f765 12 = (Value.int .i64 x434) := (hout769 12 rfl).trans hf465
                  have e786 : f765 15 = (Value.int .i64 (k448 : Int)) := (hout769 15 rfl).trans hf468
                  refine WL.val (Value.int .i64 (w64 (x449 + (w64 (x598 * x732))))) _ (op_add e774 e776) rfl ?_
                  refine WL.val (Value.int .i64 (w64 (x449 + (w64 (x598 * x732))))) _ (op_assign rfl) rfl ?_
                  refine WL.nil ?_
                  show W _ _ _ _ _ _
                  refine W.region ?_
                  refine WL.val (Value.int .i64 (k448 : Int)) _ (op_move e786) rfl ?_
                  refine WL.val (Value.int .i64 (w64 ((k448 : Int) + (1 : Int)))) _ (op_add rfl rfl) rfl ?_
                  refine WL.val (Value.int .i64 (w64 ((k448 : Int) + (1 : Int)))) _ (op_assign rfl) rfl ?_
                  refine WL.nil ?_
                  obtain rfl := Option.some.inj hb454
                  show ∃ s, _ = Ctl.next s ∧ _
                  exact ⟨_, rfl, e778, e779, e780, e781, e782, e783, e784, e785, rfl, (inR_wrap _ _), (ctr_next hl472 hr471), (ctr_rng hl472 hr471), hS773⟩
              · intro x793 f788 wd789 hs790 hI791
                replace hI791 : f788 2 = (Value.int .i64 i) ∧ f788 3 = (Value.int .i64 j) ∧ f788 4 = (Value.pointer (some ⟨b1, 0, none⟩)) ∧ f788 5 = (Value.pointer (some ⟨b9, 0, none⟩)) ∧ f788 9 = (Value.int .i64 ((x18).length : Int)) ∧ f788 10 = (Value.int .i64 (k28 : Int)) ∧ f788 11 = (Value.int .i64 (k49 : Int)) ∧ f788 12 = (Value.int .i64 x434) ∧ f788 13 = Value.int .i64 x793 ∧ InR .i64 x793 ∧ f788 15 = Value.int .i64 (((r_Table).length : Nat) : Int) ∧ InR .i64 (((r_Table).length : Nat) : Int) ∧ St wd10 wd789 [] := hI791
                obtain ⟨hf794, hf795, hf796, hf797, hf798, hf799, hf800, hf801, hf802, hr803, hf804, hr805, hS806⟩ := hI791
                refine W.seq (W.seq (W.region ?_))
                refine WL.val (Value.int .i64 (((r_Table).length : Nat) : Int)) _ (op_move hf804) rfl ?_
                refine WL.val (Value.pointer (some ⟨b1, 0, none⟩)) _ (op_fieldAddr fd_29_0 hf796) rfl ?_
                refine WL.val v_r_Table _ (op_load one_22 rfl (BoxAt.cell (BoxAt.lift (Ext.trans hE16 hS806.ext) hx6) rfl)) rfl ?_
                have hr807 := inR_len (Ty.lift _ (Ext.trans hE15 hS806.ext) r_r_Table)
                refine WL.val (Value.int .i64 ((r_Table).length : Int)) _ (op_lenL sl_22 (Ty.lift _ (Ext.trans hE15 hS806.ext) r_r_Table) rfl) rfl ?_
                refine WL.val (Value.bool (decide ((((r_Table).length : Nat) : Int) < ((r_Table).length : Int)))) _ (op_lss rfl rfl) rfl ?_
                have hl808 : ¬ (((r_Table).length : Nat) : Int) < ((r_Table).length : Int) := by omega
                refine WL.nil ?_
                show W _ _ _ _ _ _
                refine W.condF (decide ((((r_Table).length : Nat) : Int) < ((r_Table).length : Int))) rfl (decide_eq_false hl808) ?_
                refine W.exit ?_
                show _ = _ ∧ _
                exact ⟨rfl, _, hs790, hf794, hf795, hf796, hf797, hf798, hf799, hf800, hf801, hf802, hr803, hS806⟩
            · rintro f809 wd810 ⟨x813, rfl, hq811⟩
              replace hb54 := onRes_fin hb54
              replace hq811 : f809 2 = (Value.int .i64 i) ∧ f809 3 = (Value.int .i64 j) ∧ f809 4 = (Value.pointer (some ⟨b1, 0, none⟩)) ∧ f809 5 = (Value.pointer (some ⟨b9, 0, none⟩)) ∧ f809 9 = (Value.int .i64 ((x18).length : Int)) ∧ f809 10 = (Value.int .i64 (k28 : Int)) ∧ f809 11 = (Value.int .i64 (k49 : Int)) ∧ f809 12 = (Value.int .i64 x434) ∧ f809 13 = Value.int .i64 x813 ∧ InR .i64 x813 ∧ St wd10 wd810 [] := hq811
              obtain ⟨hf814, hf815, hf816, hf817, hf818, hf819, hf820, hf821, hf822, hr823, hS824⟩ := hq811
              show W _ _ _ _ _ _
              refine W.seq (W.region ?_)
              refine WL.val (Value.int .i64 x434) _ (op_move hf821) rfl ?_
              refine WL.val (Value.int .i64 x813) _ (op_move hf822) rfl ?_
              refine WL.val (Value.bool (x434 != x813)) _ (op_neq rfl rfl) rfl ?_
              refine WL.nil ?_
              show W _ _ _ _ _ _
              refine W.cond (x434 != x813) rfl (fun hc825 => ?_) (fun hc825 => ?_)
              · replace hb54 := ip hb54 hc825
                refine W.seq (W.region ?_)
                refine WL.val (Value.bool false) _ (op_assign rfl) rfl ?_
                refine WL.nil ?_
                show W _ _ _ _ _ _
                refine W.ret ?_
                obtain rfl := Option.some.inj hb54
                obtain rfl := hret57 _ rfl
                replace hb33 := onRes_ret hb33
                obtain rfl := Option.some.inj hb33
                obtain rfl := hret36 _ rfl
                replace h := onRes_ret h
                obtain rfl := Option.some.inj h
                show FinP _ _ _ _ _ _ _
                exact FinP.ret _ (res1 rfl rfl) ⟨rfl, (Ext.trans hE15 hS824.ext)⟩
              · replace hb54 := inegb hb54 hc825
                refine W.skip ?_
                show W _ _ _ _ _ _
                refine W.region ?_
                refine WL.val (Value.int .i64 (k49 : Int)) _ (op_move hf820) rfl ?_
                refine WL.val (Value.int .i64 (w64 ((k49 : Int) + (1 : Int)))) _ (op_add rfl rfl) rfl ?_
                refine WL.val (Value.int .i64 (w64 ((k49 : Int) + (1 : Int)))) _ (op_assign rfl) rfl ?_
                refine WL.nil ?_
                obtain rfl := Option.some.inj hb54
                show ∃ s, _ = Ctl.next s ∧ _
                exact ⟨_, rfl, hf814, hf815, hf816, hf817, hf818, hf819, (ctr_next hl67 hr25), (ctr_rng hl67 hr25), hS824⟩
        · intro s834 f830 wd831 hs832 hI833
          obtain ⟨⟩ := s834
          replace hI833 : f830 2 = (Value.int .i64 i) ∧ f830 3 = (Value.int .i64 j) ∧ f830 4 = (Value.pointer (some ⟨b1, 0, none⟩)) ∧ f830 5 = (Value.pointer (some ⟨b9, 0, none⟩)) ∧ f830 9 = (Value.int .i64 ((x18).length : Int)) ∧ f830 10 = (Value.int .i64 (k28 : Int)) ∧ f830 11 = Value.int .i64 (((x18).length : Nat) : Int) ∧ InR .i64 (((x18).length : Nat) : Int) ∧ St wd10 wd831 [] := hI833
          obtain ⟨hf835, hf836, hf837, hf838, hf839, hf840, hf841, hr842, hS843⟩ := hI833
          refine W.seq (W.seq (W.region ?_))
          refine WL.val (Value.int .i64 (((x18).length : Nat) : Int)) _ (op_move hf841) rfl ?_
          refine WL.val (Value.int .i64 ((x18).length : Int)) _ (op_move hf839) rfl ?_
          refine WL.val (Value.bool (decide ((((x18).length : Nat) : Int) < ((x18).length : Int)))) _ (op_lss rfl rfl) rfl ?_
          have hl844 : ¬ (((x18).length : Nat) : Int) < ((x18).length : Int) := by omega
          refine WL.nil ?_
          show W _ _ _ _ _ _
          refine W.condF (decide ((((x18).length : Nat) : Int) < ((x18).length : Int))) rfl (decide_eq_false hl844) ?_
          refine W.exit ?_
          show _ = _ ∧ _
          exact ⟨rfl, _, hs832, hf835, hf836, hf837, hf838, hf839, hf840, hS843⟩
      · rintro f845 wd846 ⟨s848, rfl, hq847⟩
        replace hb33 := onRes_fin hb33
        obtain ⟨⟩ := s848
        replace hq847 : f845 2 = (Value.int .i64 i) ∧ f845 3 = (Value.int .i64 j) ∧ f845 4 = (Value.pointer (some ⟨b1, 0, none⟩)) ∧ f845 5 = (Value.pointer (some ⟨b9, 0, none⟩)) ∧ f845 9 = (Value.int .i64 ((x18).length : Int)) ∧ f845 10 = (Value.int .i64 (k28 : Int)) ∧ St wd10 wd846 [] := hq847
        obtain ⟨hf849, hf850, hf851, hf852, hf853, hf854, hS855⟩ := hq847
        show W _ _ _ _ _ _
        refine W.region ?_
        refine WL.val (Value.int .i64 (k28 : Int)) _ (op_move hf854) rfl ?_
        refine WL.val (Value.int .i64 (w64 ((k28 : Int) + (1 : Int)))) _ (op_add rfl rfl) rfl ?_
        refine WL.val (Value.int .i64 (w64 ((k28 : Int) + (1 : Int)))) _ (op_assign rfl) rfl ?_
        refine WL.nil ?_
        obtain rfl := Option.some.inj hb33
        show ∃ s, _ = Ctl.next s ∧ _
        exact ⟨_, rfl, hf849, hf850, hf851, hf852, hf853, (ctr_next hl45 hr25), (ctr_rng hl45 hr25), hS855⟩
    · intro s862 f858 wd859 hs860 hI861
      obtain ⟨⟩ := s862
      replace hI861 : f858 2 = (Value.int .i64 i) ∧ f858 3 = (Value.int .i64 j) ∧ f858 4 = (Value.pointer (some ⟨b1, 0, none⟩)) ∧ f858 5 = (Value.pointer (some ⟨b9, 0, none⟩)) ∧ f858 9 = (Value.int .i64 ((x18).length : Int)) ∧ f858 10 = Value.int .i64 (((x18).length : Nat) : Int) ∧ InR .i64 (((x18).length : Nat) : Int) ∧ St wd10 wd859 [] := hI861
      obtain ⟨hf863, hf864, hf865, hf866, hf867, hf868, hr869, hS870⟩ := hI861
      refine W.seq (W.seq (W.region ?_))
      refine WL.val (Value.int .i64 (((x18).length : Nat) : Int)) _ (op_move hf868) rfl ?_
      refine WL.val (Value.int .i64 ((x18).length : Int)) _ (op_move hf867) rfl ?_
      refine WL.val (Value.bool (decide ((((x18).length : Nat) : Int) < ((x18).length : Int)))) _ (op_lss rfl rfl) rfl ?_
      have hl871 : ¬ (((x18).length : Nat) : Int) < ((x18).length : Int) := by omega
      refine WL.nil ?_
      show W _ _ _ _ _ _
      refine W.condF (decide ((((x18).length : Nat) : Int) < ((x18).length : Int))) rfl (decide_eq_false hl871) ?_
      refine W.exit ?_
      show _ = _ ∧ _
      exact ⟨rfl, _, hs860, hS870⟩
  · rintro f872 wd873 ⟨s875, rfl, hq874⟩
    replace h := onRes_fin h
    obtain ⟨⟩ := s875
    replace hq874 : St wd10 wd873 [] := hq874
    have hS876 := hq874
    show W _ _ _ _ _ _
    refine W.seq (W.region ?_)
    refine WL.val (Value.bool true) _ (op_assign rfl) rfl ?_
    refine WL.nil ?_
    show W _ _ _ _ _ _
    refine W.ret ?_
    obtain rfl := Option.some.inj h
    show FinP _ _ _ _ _ _ _
    exact FinP.ret _ (res1 rfl rfl) ⟨rfl, (Ext.trans hE15 hS876.ext)⟩

theorem c_spec_l03Duals {w : World} {r_Table : (List (List (List Int)))} {v_r_Table : Value} (r_r_Table : (Ty.sl (Ty.sl (Ty.sl (Ty.i .i64)))).rep w v_r_Table r_Table) {res : (List Int)} (h : p_spec_l03Duals r_Table  = some res) :
    Ret Try.prog 93 #[(Value.agg #[v_r_Table])] w (fun v w' => ∃ (u0 : Value), v = u0 ∧ Ext w w' ∧ Sep w.heap.size w' [(Ty.sl (Ty.i .i64)).at u0 res]) := by
  unfold p_spec_l03Duals at h
  have hS0 : St w w [] := St.start w
  refine Ret.start (fn := Try.f93) Try.func93 rfl 21 rfl rfl ?_
  refine W.seq (W.region ?_)
  refine WL.box hS0 rfl (cs := [v_r_Table]) rfl rfl ?_
  intro b1 wd2 hS3 he4 hx5
  replace hS3 : St w wd2 [bx b1 [v_r_Table]] := hS3
  have hx6 := St.boxAt hS3 0 rfl
  have hE7 : Ext w wd2 := hS3.ext
  have hS8 : St wd2 wd2 [] := St.start wd2
  refine WL.val (Value.slice none 0 0) _ (op_assign rfl) rfl ?_
  refine WL.nil ?_
  show W _ _ _ _ _ _
  refine W.seq (W.region ?_)
  refine WL.lit0 (t := (Ty.i .i64)) hS8 sl_25 rfl rfl ?_
  intro u9 wd10 hS11 he12
  replace hS11 : St wd2 wd10 [(Ty.sl (Ty.i .i64)).at u9 ([] : (List Int))] := hS11
  refine WL.val u9 _ (op_assign rfl) rfl ?_
  refine WL.nil ?_
  show W _ _ _ _ _ _
  refine W.seq (W.seq (W.region ?_))
  refine WL.val (Value.int .i64 (0 : Int)) _ (op_assign rfl) rfl ?_
  refine WL.nil ?_
  show W _ _ _ _ _ _
  obtain ⟨res13, hres14, h⟩ := bs h
  refine W.blockLoop (fun fq wq => ∃ s, res13 = Res.fin s ∧ ∃ (uu0 : Value), fq 3 = uu0 ∧ St wd2 wq [(Ty.sl (Ty.i .i64)).at uu0 s]) ?_ ?_
  · refine W.forN (fun k (s : (List Int)) fq wq => ∃ (uu0 : Value), fq 1 = (Value.pointer (some ⟨b1, 0, none⟩)) ∧ fq 3 = uu0 ∧ fq 4 = Value.int .i64 (k : Int) ∧ InR .i64 (k : Int) ∧ St wd2 wq [(Ty.sl (Ty.i .i64)).at uu0 s]) hres14 ⟨u9, rfl, rfl, rfl, (inR_i64.2 (show (-9223372036854775808 : Int) ≤ 0 ∧ (0 : Int) ≤ 9223372036854775807 from by decide)), hS11⟩ ?_ ?_
    · intro k15 x16 ct17 f18 wd19 hk20 hb21 hI22 hbrk23 hret24
      replace hI22 : ∃ (uu0 : Value), f18 1 = (Value.pointer (some ⟨b1, 0, none⟩)) ∧ f18 3 = uu0 ∧ f18 4 = Value.int .i64 (k15 : Int) ∧ InR .i64 (k15 : Int) ∧ St wd2 wd19 [(Ty.sl (Ty.i .i64)).at uu0 x16] := hI22
      replace hb21 : p_spec_l03Duals_L1 r_Table k15 x16 = some ct17 := hb21
      unfold p_spec_l03Duals_L1 at hb21
      obtain ⟨u25, hf26, hf27, hf28, hr29, hS30⟩ := hI22
      refine W.seq (W.seq (W.region ?_))
      refine WL.val (Value.int .i64 (k15 : Int)) _ (op_move hf28) rfl ?_
      refine WL.val (Value.pointer (some ⟨b1, 0, none⟩)) _ (op_fieldAddr fd_29_0 hf26) rfl ?_
      refine WL.val v_r_Table _ (op_load one_22 rfl (BoxAt.cell (BoxAt.lift hS30.ext hx6) rfl)) rfl ?_
      have hr31 := inR_len (Ty.lift _ (Ext.trans hE7 hS30.ext) r_r_Table)
      refine WL.val (Value.int .i64 ((r_Table).length : Int)) _ (op_lenL sl_22 (Ty.lift _ (Ext.trans hE7 hS30.ext) r_r_Table) rfl) rfl ?_
      refine WL.val (Value.bool (decide ((k15 : Int) < ((r_Table).length : Int)))) _ (op_lss rfl rfl) rfl ?_
      have hl32 : (k15 : Int) < ((r_Table).length : Int) := by omega
      refine WL.nil ?_
      show W _ _ _ _ _ _
      refine W.condT (decide ((k15 : Int) < ((r_Table).length : Int))) rfl (decide_eq_true hl32) ?_
      refine W.skip ?_
      show W _ _ _ _ _ _
      refine W.seq ?_
      refine W.block ?_
      refine W.region ?_
      refine WL.val u25 _ (op_move hf27) rfl ?_
      refine WL.val (Value.pointer (some ⟨b1, 0, none⟩)) _ (op_fieldAddr fd_29_0 hf26) rfl ?_
      refine WL.val v_r_Table _ (op_load one_22 rfl (BoxAt.cell (BoxAt.lift hS30.ext hx6) rfl)) rfl ?_
      refine WL.val (Value.int .i64 (k15 : Int)) _ (op_move hf28) rfl ?_
      obtain ⟨x34, hx35, hb21⟩ := bs hb21
      refine WL.call _ (op_call fn_111 (args2 rfl rfl)) (c_spec_l03Dual (Ty.lift _ (Ext.trans hE7 hS30.ext) r_r_Table) hr29 hx35) rfl ?_
      rintro _ wd37 ⟨rfl, hr36, he38⟩
      have hS40 := St.extend hS30 he38
      replace hS40 : St wd2 wd37 [(Ty.sl (Ty.i .i64)).at u25 x16] := hS40
      refine WL.litFlat (t := (Ty.i .i64)) (flat_i .i64) [(Value.int .i64 x34)] [x34] hS40 sl_25 rfl rfl (fillL rfl ⟨rfl, rfl, rfl, trivial⟩) rfl rfl (litL ⟨⟨rfl, hr36⟩, trivial⟩) rfl ?_
      intro u41 wd42 hS43 he44
      replace hS43 : St wd2 wd42 [(Ty.sl (Ty.i .i64)).at u25 x16, (Ty.sl (Ty.i .i64)).at u41 ([x34] : (List Int))] := hS43
      obtain ⟨x45, hx46, hb21⟩ := bs hb21
      refine WL.append (flat_i .i64) hS43 (k := 0) rfl sl_25 rfl rfl rfl rfl (St.rep (t := (Ty.sl (Ty.i .i64))) hS43 1 rfl) hx46 rfl ?_
      intro u47 wd48 hS49 hz50
      replace hS49 : St wd2 wd48 [(Ty.sl (Ty.i .i64)).at u47 x45, (Ty.sl (Ty.i .i64)).at u41 ([x34] : (List Int))] := hS49
      refine WL.val u47 _ (op_assign rfl) rfl ?_
      refine WL.nil ?_
      show W _ _ _ _ _ _
      refine W.region ?_
      refine WL.val (Value.int .i64 (k15 : Int)) _ (op_move hf28) rfl ?_
      refine WL.val (Value.int .i64 (w64 ((k15 : Int) + (1 : Int)))) _ (op_add rfl rfl) rfl ?_
      refine WL.val (Value.int .i64 (w64 ((k15 : Int) + (1 : Int)))) _ (op_assign rfl) rfl ?_
      refine WL.nil ?_
      obtain rfl := Option.some.inj hb21
      show ∃ s, _ = Ctl.next s ∧ _
      exact ⟨_, rfl, u47, hf26, rfl, (ctr_next hl32 hr31), (ctr_rng hl32 hr31), (St.pick hS49 [0] rfl)⟩
    · intro x57 f52 wd53 hs54 hI55
      replace hI55 : ∃ (uu0 : Value), f52 1 = (Value.pointer (some ⟨b1, 0, none⟩)) ∧ f52 3 = uu0 ∧ f52 4 = Value.int .i64 (((r_Table).length : Nat) : Int) ∧ InR .i64 (((r_Table).length : Nat) : Int) ∧ St wd2 wd53 [(Ty.sl (Ty.i .i64)).at uu0 x57] := hI55
      obtain ⟨u58, hf59, hf60, hf61, hr62, hS63⟩ := hI55
      refine W.seq (W.seq (W.region ?_))
      refine WL.val (Value.int .i64 (((r_Table).length : Nat) : Int)) _ (op_move hf61) rfl ?_
      refine WL.val (Value.pointer (some ⟨b1, 0, none⟩)) _ (op_fieldAddr fd_29_0 hf59) rfl ?_
      refine WL.val v_r_Table _ (op_load one_22 rfl (BoxAt.cell (BoxAt.lift hS63.ext hx6) rfl)) rfl ?_
      have hr64 := inR_len (Ty.lift _ (Ext.trans hE7 hS63.ext) r_r_Table)
      refine WL.val (Value.int .i64 ((r_Table).length : Int)) _ (op_lenL sl_22 (Ty.lift _ (Ext.trans hE7 hS63.ext) r_r_Table) rfl) rfl ?_
      refine WL.val (Value.bool (decide ((((r_Table).length : Nat) : Int) < ((r_Table).length : Int)))) _ (op_lss rfl rfl) rfl ?_
      have hl65 : ¬ (((r_Table).length : Nat) : Int) < ((r_Table).length : Int) := by omega
      refine WL.nil ?_
      show W _ _ _ _ _ _
      refine W.condF (decide ((((r_Table).length : Nat) : Int) < ((r_Table).length : Int))) rfl (decide_eq_false hl65) ?_
      refine W.exit ?_
      show _ = _ ∧ _
      exact ⟨rfl, _, hs54, u58, hf60, hS63⟩
  · rintro f66 wd67 ⟨x70, rfl, hq68⟩
    replace h := onRes_fin h
    replace hq68 : ∃ (uu0 : Value), f66 3 = uu0 ∧ St wd2 wd67 [(Ty.sl (Ty.i .i64)).at uu0 x70] := hq68
    obtain ⟨u71, hf72, hS73⟩ := hq68
    show W _ _ _ _ _ _
    refine W.seq (W.region ?_)
    refine WL.val u71 _ (op_move hf72) rfl ?_
    refine WL.val u71 _ (op_assign rfl) rfl ?_
    refine WL.nil ?_
    show W _ _ _ _ _ _
    refine W.ret ?_
    obtain rfl := Option.some.inj h
    show FinP _ _ _ _ _ _ _
    exact FinP.ret _ (res1 rfl rfl) ⟨u71, rfl, (Ext.trans hE7 hS73.ext), (St.out (St.pick hS73 [0] rfl) (hE7))⟩

theorem c_spec_l02Turn {w : World} {a : (List (List Int))} {v_a : Value} (r_a : (Ty.sl (Ty.sl (Ty.i .i64))).rep w v_a a) {res : (List (List Int))} (h : p_spec_l02Turn a  = some res) :
    Ret Try.prog 50 #[v_a] w (fun v w' => ∃ (u0 : Value), v = u0 ∧ Ext w w' ∧ Sep w.heap.size w' [(Ty.sl (Ty.sl (Ty.i .i64))).at u0 res]) := by
  unfold p_spec_l02Turn at h
  have hS0 : St w w [] := St.start w
  refine Ret.start (fn := Try.f50) Try.func50 rfl 38 rfl rfl ?_
  refine W.seq (W.region ?_)
  refine WL.val (Value.slice none 0 0) _ (op_assign rfl) rfl ?_
  refine WL.nil ?_
  show W _ _ _ _ _ _
  refine W.seq (W.region ?_)
  refine WL.lit0 (t := (Ty.sl (Ty.i .i64))) hS0 sl_65 rfl rfl ?_
  intro u1 wd2 hS3 he4
  replace hS3 : St w wd2 [(Ty.sl (Ty.sl (Ty.i .i64))).at u1 ([] : (List (List Int)))] := hS3
  refine WL.val u1 _ (op_assign rfl) rfl ?_
  refine WL.nil ?_
  show W _ _ _ _ _ _
  refine W.seq (W.seq (W.region ?_))
  refine WL.val (Value.int .i64 (0 : Int)) _ (op_assign rfl) rfl ?_
  refine WL.nil ?_
  show W _ _ _ _ _ _
  obtain ⟨res5, hres6, h⟩ := bs h
  refine W.blockLoop (fun fq wq => ∃ s, res5 = Res.fin s ∧ ∃ (uu0 : Value), fq 3 = uu0 ∧ St w wq [(Ty.sl (Ty.sl (Ty.i .i64))).at uu0 s.1]) ?_ ?_
  · refine W.whileC (fun (s : (List (List Int)) × Int) fq wq => ∃ (uu0 : Value), fq 0 = v_a ∧ fq 3 = uu0 ∧ fq 4 = Value.int .i64 s.2 ∧ InR .i64 s.2 ∧ St w wq [(Ty.sl (Ty.sl (Ty.i .i64))).at uu0 s.1]) hres6 ⟨u1, rfl, rfl, rfl, (inR_i64.2 (show (-9223372036854775808 : Int) ≤ 0 ∧ (0 : Int) ≤ 9223372036854775807 from by decide)), hS3⟩ ?_
    intro s126 ct10 f11 wd12 hb14 hI15 hbrk16 hret17
    obtain ⟨x8, x9⟩ := s126
    replace hI15 : ∃ (uu0 : Value), f11 0 = v_a ∧ f11 3 = uu0 ∧ f11 4 = Value.int .i64 x9 ∧ InR .i64 x9 ∧ St w wd12 [(Ty.sl (Ty.sl (Ty.i .i64))).at uu0 x8] := hI15
    replace hb14 : p_spec_l02Turn_L1 a  x8 x9 = some ct10 := hb14
    unfold p_spec_l02Turn_L1 at hb14
    obtain ⟨u18, hf19, hf20, hf21, hr22, hS23⟩ := hI15
    refine W.seq (W.seq (W.region ?_))
    refine WL.val (Value.int .i64 x9) _ (op_move hf21) rfl ?_
    refine WL.val v_a _ (op_move hf19) rfl ?_
    obtain ⟨x24, hx27, hb14⟩ := bs hb14
    obtain ⟨ha25, hb26, hx27⟩ := idx_some hx27
    refine WL.val (Value.pointer (some (elA v_a ((0 : Int)).toNat))) _ (op_idx sl_65 (Ty.lift _ hS23.ext r_a) rfl rfl ha25 hb26) rfl ?_
    obtain ⟨u28, hc29, hr30⟩ := repSl.el r_a hx27
    refine WL.val u28 _ (op_load one_25 rfl (Ext.cell hS23.ext hc29)) rfl ?_
    have hr31 := inR_len (Ty.lift _ hS23.ext hr30)
    refine WL.val (Value.int .i64 ((x24).length : Int)) _ (op_lenL sl_25 (Ty.lift _ hS23.ext hr30) rfl) rfl ?_
    refine WL.val (Value.bool (decide (x9 < ((x24).length : Int)))) _ (op_lss rfl rfl) rfl ?_
    refine WL.nil ?_
    show W _ _ _ _ _ _
    refine W.cond (decide (x9 < ((x24).length : Int))) rfl (fun hc32 => ?_) (fun hc32 => ?_)
    · replace hb14 := ip hb14 hc32
      refine W.skip ?_
      show W _ _ _ _ _ _
      refine W.seq ?_
      refine W.block ?_
      refine W.seq (W.region ?_)
      refine WL.lit0 (t := (Ty.i .i64)) hS23 sl_25 rfl rfl ?_
      intro u34 wd35 hS36 he37
      replace hS36 : St w wd35 [(Ty.sl (Ty.sl (Ty.i .i64))).at u18 x8, (Ty.sl (Ty.i .i64)).at u34 ([] : (List Int))] := hS36
      refine WL.val u34 _ (op_assign rfl) rfl ?_
      refine WL.nil ?_
      show W _ _ _ _ _ _
      refine W.seq (W.seq (W.region ?_))
      refine WL.val (Value.int .i64 (0 : Int)) _ (op_assign rfl) rfl ?_
      refine WL.nil ?_
      show W _ _ _ _ _ _
      obtain ⟨res38, hres39, hb14⟩ := bs hb14
      refine W.blockLoop (fun fq wq => ∃ s, res38 = Res.fin s ∧ ∃ (uu0 : Value), fq 0 = v_a ∧ fq 3 = u18 ∧ fq 4 = (Value.int .i64 x9) ∧ fq 5 = uu0 ∧ St w wq [(Ty.sl (Ty.sl (Ty.i .i64))).at u18 x8, (Ty.sl (Ty.i .i64)).at uu0 s]) ?_ ?_
      · refine W.forN (fun k (s : (List Int)) fq wq => ∃ (uu0 : Value), fq 0 = v_a ∧ fq 3 = u18 ∧ fq 4 = (Value.int .i64 x9) ∧ fq 5 = uu0 ∧ fq 6 = Value.int .i64 (k : Int) ∧ InR .i64 (k : Int) ∧ St w wq [(Ty.sl (Ty.sl (Ty.i .i64))).at u18 x8, (Ty.sl (Ty.i .i64)).at uu0 s]) hres39 ⟨u34, hf19, hf20, hf21, rfl, rfl, (inR_i64.2 (show (-9223372036854775808 : Int) ≤ 0 ∧ (0 : Int) ≤ 9223372036854775807 from by decide)), hS36⟩ ?_ ?_
        · intro k40 x41 ct42 f43 wd44 hk45 hb46 hI47 hbrk48 hret49
          replace hI47 : ∃ (uu0 : Value), f43 0 = v_a ∧ f43 3 = u18 ∧ f43 4 = (Value.int .i64 x9) ∧ f43 5 = uu0 ∧ f43 6 = Value.int .i64 (k40 : Int) ∧ InR .i64 (k40 : Int) ∧ St w wd44 [(Ty.sl (Ty.sl (Ty.i .i64))).at u18 x8, (Ty.sl (Ty.i .i64)).at uu0 x41] := hI47
          replace hb46 : p_spec_l02Turn_L2 a x9 k40 x41 = some ct42 := hb46
          unfold p_spec_l02Turn_L2 at hb46
          obtain ⟨u50, hf51, hf52, hf53, hf54, hf55, hr56, hS57⟩ := hI47
          refine W.seq (W.seq (W.region ?_))
          refine WL.val (Value.int .i64 (k40 : Int)) _ (op_move hf55) rfl ?_
          refine WL.val v_a _ (op_move hf51) rfl ?_
          have hr58 := inR_len (Ty.lift _ hS57.ext r_a)
          refine WL.val (Value.int .i64 ((a).length : Int)) _ (op_lenL sl_65 (Ty.lift _ hS57.ext r_a) rfl) rfl ?_
          refine WL.val (Value.bool (decide ((k40 : Int) < ((a).length : Int)))) _ (op_lss rfl rfl) rfl ?_
          have hl59 : (k40 : Int) < ((a).length : Int) := by omega
          refine WL.nil ?_
          show W _ _ _ _ _ _
          refine W.condT (decide ((k40 : Int) < ((a).length : Int))) rfl (decide_eq_true hl59) ?_
          refine W.skip ?_
          show W _ _ _ _ _ _
          refine W.seq ?_
          refine W.block ?_
          refine W.region ?_
          refine WL.val u50 _ (op_move hf54) rfl ?_
          refine WL.val v_a _ (op_move hf51) rfl ?_
          refine WL.val (Value.int .i64 (k40 : Int)) _ (op_move hf55) rfl ?_
          obtain ⟨x61, hx64, hb46⟩ := bs hb46
          obtain ⟨ha62, hb63, hx64⟩ := idx_some hx64
          refine WL.val (Value.pointer (some (elA v_a ((k40 : Int)).toNat))) _ (op_idx sl_65 (Ty.lift _ hS57.ext r_a) rfl rfl ha62 hb63) rfl ?_
          obtain ⟨u65, hc66, hr67⟩ := repSl.el r_a hx64
          refine WL.val u65 _ (op_load one_25 rfl (Ext.cell hS57.ext hc66)) rfl ?_
          refine WL.val (Value.int .i64 x9) _ (op_move hf53) rfl ?_
          obtain ⟨x68, hx71, hb46⟩ := bs hb46
          obtain ⟨ha69, hb70, hx71⟩ := idx_some hx71
          refine WL.val (Value.pointer (some (elA u65 (x9).toNat))) _ (op_idx sl_25 (Ty.lift _ hS57.ext hr67) rfl rfl ha69 hb70) rfl ?_
          obtain ⟨u72, hc73, hr74⟩ := repSl.el hr67 hx71
          obtain ⟨rfl, hr74⟩ := hr74
          refine WL.val (Value.int .i64 x68) _ (op_load one_2 rfl (Ext.cell hS57.ext hc73)) rfl ?_
          refine WL.litFlat (t := (Ty.i .i64)) (flat_i .i64) [(Value.int .i64 x68)] [x68] hS57 sl_25 rfl rfl (fillL rfl ⟨rfl, rfl, rfl, trivial⟩) rfl rfl (litL ⟨⟨rfl, hr74⟩, trivial⟩) rfl ?_
          intro u75 wd76 hS77 he78
          replace hS77 : St w wd76 [(Ty.sl (Ty.sl (Ty.i .i64))).at u18 x8, (Ty.sl (Ty.i .i64)).at u50 x41, (Ty.sl (Ty.i .i64)).at u75 ([x68] : (List Int))] := hS77
          obtain ⟨x79, hx80, hb46⟩ := bs hb46
          refine WL.append (flat_i .i64) hS77 (k := 1) rfl sl_25 rfl rfl rfl rfl (St.rep (t := (Ty.sl (Ty.i .i64))) hS77 2 rfl) hx80 rfl ?_
          intro u81 wd82 hS83 hz84
          replace hS83 : St w wd82 [(Ty.sl (Ty.sl (Ty.i .i64))).at u18 x8, (Ty.sl (Ty.i .i64)).at u81 x79, (Ty.sl (Ty.i .i64)).at u75 ([x68] : (List Int))] := hS83
          refine WL.val u81 _ (op_assign rfl) rfl ?_
          refine WL.nil ?_
          show W _ _ _ _ _ _
          refine W.region ?_
          refine WL.val (Value.int .i64 (k40 : Int)) _ (op_move hf55) rfl ?_
          refine WL.val (Value.int .i64 (w64 ((k40 : Int) + (1 : Int)))) _ (op_add rfl rfl) rfl ?_
          refine WL.val (Value.int .i64 (w64 ((k40 : Int) + (1 : Int)))) _ (op_assign rfl) rfl ?_
          refine WL.nil ?_
          obtain rfl := Option.some.inj hb46
          show ∃ s, _ = Ctl.next s ∧ _
          exact ⟨_, rfl, u81, hf51, hf52, hf53, rfl, (ctr_next hl59 hr58), (ctr_rng hl59 hr58), (St.pick hS83 [0, 1] rfl)⟩
        · intro x91 f86 wd87 hs88 hI89
          replace hI89 : ∃ (uu0 : Value), f86 0 = v_a ∧ f86 3 = u18 ∧ f86 4 = (Value.int .i64 x9) ∧ f86 5 = uu0 ∧ f86 6 = Value.int .i64 (((a).length : Nat) : Int) ∧ InR .i64 (((a).length : Nat) : Int) ∧ St w wd87 [(Ty.sl (Ty.sl (Ty.i .i64))).at u18 x8, (Ty.sl (Ty.i .i64)).at uu0 x91] := hI89
          obtain ⟨u92, hf93, hf94, hf95, hf96, hf97, hr98, hS99⟩ := hI89
          refine W.seq (W.seq (W.region ?_))
          refine WL.val (Value.int .i64 (((a).length : Nat) : Int)) _ (op_move hf97) rfl ?_
          refine WL.val v_a _ (op_move hf93) rfl ?_
          have hr100 := inR_len (Ty.lift _ hS99.ext r_a)
          refine WL.val (Value.int .i64 ((a).length : Int)) _ (op_lenL sl_65 (Ty.lift _ hS99.ext r_a) rfl) rfl ?_
          refine WL.val (Value.bool (decide ((((a).length : Nat) : Int) < ((a).length : Int)))) _ (op_lss rfl rfl) rfl ?_
          have hl101 : ¬ (((a).length : Nat) : Int) < ((a).length : Int) := by omega
          refine WL.nil ?_
          show W _ _ _ _ _ _
          refine W.condF (decide ((((a).length : Nat) : Int) < ((a).length : Int))) rfl (decide_eq_false hl101) ?_
          refine W.exit ?_
          show _ = _ ∧ _
          exact ⟨rfl, _, hs88, u92, hf93, hf94, hf95, hf96, hS99⟩
      · rintro f102 wd103 ⟨x106, rfl, hq104⟩
        replace hb14 := onRes_fin hb14
        replace hq104 : ∃ (uu0 : Value), f102 0 = v_a ∧ f102 3 = u18 ∧ f102 4 = (Value.int .i64 x9) ∧ f102 5 = uu0 ∧ St w wd103 [(Ty.sl (Ty.sl (Ty.i .i64))).at u18 x8, (Ty.sl (Ty.i .i64)).at uu0 x106] := hq104
        obtain ⟨u107, hf108, hf109, hf110, hf111, hS112⟩ := hq104
        show W _ _ _ _ _ _
        refine W.region ?_
        refine WL.val u18 _ (op_move hf109) rfl ?_
        refine WL.val u107 _ (op_move hf111) rfl ?_
        refine WL.lit [u107] hS112 sl_65 rfl rfl (fillL rfl ⟨rfl, rfl, (cells_rep (St.rep (t := (Ty.sl (Ty.i .i64))) hS112 1 rfl)), trivial⟩) rfl rfl ?_
        intro b117 wd114 hS115 he116 hx118
        replace hS115 : St w wd114 [(Ty.sl (Ty.sl (Ty.i .i64))).at u18 x8, (Ty.sl (Ty.i .i64)).at u107 x106, bx b117 [u107]] := hS115
        obtain ⟨x119, hx120, hb14⟩ := bs hb14
        refine WL.appendRow hS115 (k := 0) (k2 := 1) (k3 := 2) rfl rfl rfl rfl sl_65 rfl rfl rfl rfl hx120 rfl ?_
        intro u121 wd122 hS123 hz124
        replace hS123 : St w wd122 [(Ty.sl (Ty.sl (Ty.i .i64))).at u121 x119, emp, bx b117 [u107]] := hS123
        refine WL.val u121 _ (op_assign rfl) rfl ?_
        refine WL.nil ?_
        show W _ _ _ _ _ _
        refine W.region ?_
        refine WL.val (Value.int .i64 x9) _ (op_move hf110) rfl ?_
        refine WL.val (Value.int .i64 (w64 (x9 + (1 : Int)))) _ (op_add rfl rfl) rfl ?_
        refine WL.val (Value.int .i64 (w64 (x9 + (1 : Int)))) _ (op_assign rfl) rfl ?_
        refine WL.nil ?_
        obtain rfl := Option.some.inj hb14
        show ∃ s, _ = Ctl.next s ∧ _
        exact ⟨_, rfl, u121, hf108, rfl, rfl, (inR_wrap _ _), (St.pick hS123 [0] rfl)⟩
    · replace hb14 := inegb hb14 hc32
      refine W.exit ?_
      obtain rfl := Option.some.inj hb14
      show _ = _ ∧ _
      exact ⟨rfl, _, hbrk16 _ rfl, u18, hf20, hS23⟩
  · rintro f127 wd128 ⟨s130, rfl, hq129⟩
    replace h := onRes_fin h
    obtain ⟨x131, x132⟩ := s130
    replace hq129 : ∃ (uu0 : Value), f127 3 = uu0 ∧ St w wd128 [(Ty.sl (Ty.sl (Ty.i .i64))).at uu0 x131] := hq129
    replace h : (_ : Option _) = _ := h
    dsimp only at h
    obtain ⟨u133, hf134, hS135⟩ := hq129
    show W _ _ _ _ _ _
    refine W.seq (W.region ?_)
    refine WL.val u133 _ (op_move hf134) rfl ?_
    refine WL.val u133 _ (op_assign rfl) rfl ?_
    refine WL.nil ?_
    show W _ _ _ _ _ _
    refine W.ret ?_
    obtain rfl := Option.some.inj h
    show FinP _ _ _ _ _ _ _
    exact FinP.ret _ (res1 rfl rfl) ⟨u133, rfl, hS135.ext, (St.out (St.pick hS135 [0] rfl) (Ext.refl _))⟩

theorem c_spec_l09Fault {w : World} {r_Table : (List (List (List Int)))} {v_r_Table : Value} {a_Matrices : (List (List (List Int)))} {v_a_Matrices : Value} (r_r_Table : (Ty.sl (Ty.sl (Ty.sl (Ty.i .i64)))).rep w v_r_Table r_Table) (r_a_Matrices : (Ty.sl (Ty.sl (Ty.sl (Ty.i .i64)))).rep w v_a_Matrices a_Matrices) {res : (List Int)} (h : p_spec_l09Fault r_Table a_Matrices  = some res) :
    Ret Try.prog 78 #[(Value.agg #[v_r_Table]), (Value.agg #[v_a_Matrices])] w (fun v w' => ∃ (u0 : Value), v = u0 ∧ Ext w w' ∧ Sep w.heap.size w' [(Ty.sl (Ty.i .i64)).at u0 res]) := by
  unfold p_spec_l09Fault at h
  have hS0 : St w w [] := St.start w
  refine Ret.start (fn := Try.f78) Try.func78 rfl 70 rfl rfl ?_
  refine W.seq (W.region ?_)
  refine WL.box hS0 rfl (cs := [v_r_Table]) rfl rfl ?_
  intro b1 wd2 hS3 he4 hx5
  replace hS3 : St w wd2 [bx b1 [v_r_Table]] := hS3
  have hx6 := St.boxAt hS3 0 rfl
  have hE7 : Ext w wd2 := hS3.ext
  have hS8 : St wd2 wd2 [] := St.start wd2
  refine WL.box hS8 rfl (cs := [v_a_Matrices]) rfl rfl ?_
  intro b9 wd10 hS11 he12 hx13
  replace hS11 : St wd2 wd10 [bx b9 [v_a_Matrices]] := hS11
  have hx14 := St.boxAt hS11 0 rfl
  have hE15 : Ext w wd10 := (Ext.trans hE7 hS11.ext)
  have hE16 : Ext wd2 wd10 := hS11.ext
  have hS17 : St wd10 wd10 [] := St.start wd10
  refine WL.val (Value.slice none 0 0) _ (op_assign rfl) rfl ?_
  refine WL.nil ?_
  show W _ _ _ _ _ _
  refine W.seq (W.region ?_)
  refine WL.val (Value.pointer (some ⟨b1, 0, none⟩)) _ (op_fieldAddr fd_29_0 rfl) rfl ?_
  refine WL.val v_r_Table _ (op_load one_22 rfl (BoxAt.cell (BoxAt.lift (Ext.trans hE16 hS17.ext) hx6) rfl)) rfl ?_
  have hr18 := inR_len (Ty.lift _ (Ext.trans hE15 hS17.ext) r_r_Table)
  refine WL.val (Value.int .i64 ((r_Table).length : Int)) _ (op_lenL sl_22 (Ty.lift _ (Ext.trans hE15 hS17.ext) r_r_Table) rfl) rfl ?_
  refine WL.val (Value.int .i64 ((r_Table).length : Int)) _ (op_assign rfl) rfl ?_
  refine WL.nil ?_
  show W _ _ _ _ _ _
  refine W.seq (W.seq ?_)
  obtain ⟨x46, hx49, h⟩ := bs h
  obtain ⟨ha47, hb48, hx49⟩ := idx_some hx49
  obtain ⟨u60, hc61, hr62⟩ := repSl.el r_a_Matrices hx49
  obtain ⟨u100, hc101, hr102⟩ := repSl.el r_a_Matrices hx49
  obtain ⟨x125, hx126, h⟩ := bs h
  refine W.drawR mixo 10 [] [fun _ v _ _ => v = (Value.pointer (some ⟨b9, 0, none⟩)), fun _ v _ _ => v = v_a_Matrices, fun _ v _ _ => v = (Value.pointer (some (elA v_a_Matrices ((0 : Int)).toNat))), fun _ v _ _ => v = u60, fun _ v _ _ => v = (Value.pointer (some ⟨b9, 0, none⟩)), fun _ v _ _ => v = v_a_Matrices, fun _ v _ _ => v = (Value.pointer (some (elA v_a_Matrices ((0 : Int)).toNat))), fun _ v _ _ => v = u100, fun _ v _ _ => v = (Value.int .i64 ((x46).length : Int)) ∧ InR .i64 ((x46).length : Int), fun _ v S w' => SepS S w' [(Ty.sl (Ty.sl (Ty.i .i64))).at v x125]] (by kernel_rfl) (by kernel_rfl) ⟨⟨fun _ _ _ _ _ _ h => h, fun _ _ _ _ _ _ h => h⟩, ⟨fun _ _ _ _ _ _ h => h, fun _ _ _ _ _ _ h => h⟩, ⟨fun _ _ _ _ _ _ h => h, fun _ _ _ _ _ _ h => h⟩, ⟨fun _ _ _ _ _ _ h => h, fun _ _ _ _ _ _ h => h⟩, ⟨fun _ _ _ _ _ _ h => h, fun _ _ _ _ _ _ h => h⟩, ⟨fun _ _ _ _ _ _ h => h, fun _ _ _ _ _ _ h => h⟩, ⟨fun _ _ _ _ _ _ h => h, fun _ _ _ _ _ _ h => h⟩, ⟨fun _ _ _ _ _ _ h => h, fun _ _ _ _ _ _ h => h⟩, ⟨fun _ _ _ _ _ _ h => h, fun _ _ _ _ _ _ h => h⟩, ⟨fun _ _ _ _ _ he h => SepS.extend he h, fun _ _ _ _ _ _ h => h⟩, trivial⟩ ⟨?_, ?_, ?_, ?_, ?_, ?_, ?_, ?_, ?_, ?_, trivial⟩ ?_
  · refine ObX.op rfl ?_
    intro f19 wd20 he21 hout22 hphi23
    have hS24 : St wd10 wd20 [] := St.extend hS17 he21
    have e25 : f19 3 = (Value.pointer (some ⟨b9, 0, none⟩)) := (hout22 3 rfl).trans rfl
    exact OpX.val (Value.pointer (some ⟨b9, 0, none⟩)) wd20 rfl (op_fieldAddr fd_42_0 e25) (Ext.refl _) rfl
  · refine ObX.op rfl ?_
    intro f26 wd27 he28 hout29 hphi30
    have hS31 : St wd10 wd27 [] := St.extend hS17 he28
    obtain ⟨S32, hS33, hf34⟩ := hphi30 0 13 _ rfl rfl rfl
    have e35 : f26 13 = (Value.pointer (some ⟨b9, 0, none⟩)) := hf34
    exact OpX.val v_a_Matrices wd27 rfl (op_load one_22 e35 (BoxAt.cell (BoxAt.lift hS31.ext hx14) rfl)) (Ext.refl _) rfl
  · refine ObX.op rfl ?_
    intro f36 wd37 he38 hout39 hphi40
    have hS41 : St wd10 wd37 [] := St.extend hS17 he38
    obtain ⟨S42, hS43, hf44⟩ := hphi40 1 14 _ rfl rfl rfl
    have e45 : f36 14 = v_a_Matrices := hf44
    exact OpX.val (Value.pointer (some (elA v_a_Matrices ((0 : Int)).toNat))) wd37 rfl (op_idx sl_22 (Ty.lift _ (Ext.trans hE15 hS41.ext) r_a_Matrices) e45 rfl ha47 hb48) (Ext.refl _) rfl
  · refine ObX.op rfl ?_
    intro f50 wd51 he52 hout53 hphi54
    have hS55 : St wd10 wd51 [] := St.extend hS17 he52
    obtain ⟨S56, hS57, hf58⟩ := hphi54 2 15 _ rfl rfl rfl
    have e59 : f50 15 = (Value.pointer (some (elA v_a_Matrices ((0 : Int)).toNat))) := hf58
    exact OpX.val u60 wd51 rfl (op_load one_65 e59 (Ext.cell (Ext.trans hE15 hS55.ext) hc61)) (Ext.refl _) rfl
  · refine ObX.op rfl ?_
    intro f63 wd64 he65 hout66 hphi67
    have hS68 : St wd10 wd64 [] := St.extend hS17 he65
    have e69 : f63 3 = (Value.pointer (some ⟨b9, 0, none⟩)) := (hout66 3 rfl).trans rfl
    exact OpX.val (Value.pointer (some ⟨b9, 0, none⟩)) wd64 rfl (op_fieldAddr fd_42_0 e69) (Ext.refl _) rfl
  · refine ObX.op rfl ?_
    intro f70 wd71 he72 hout73 hphi74
    have hS75 : St wd10 wd71 [] := St.extend hS17 he72
    obtain ⟨S76, hS77, hf78⟩ := hphi74 4 17 _ rfl rfl rfl
    have e79 : f70 17 = (Value.pointer (some ⟨b9, 0, none⟩)) := hf78
    exact OpX.val v_a_Matrices wd71 rfl (op_load one_22 e79 (BoxAt.cell (BoxAt.lift hS75.ext hx14) rfl)) (Ext.refl _) rfl
  · refine ObX.op rfl ?_
    intro f80 wd81 he82 hout83 hphi84
    have hS85 : St wd10 wd81 [] := St.extend hS17 he82
    obtain ⟨S86, hS87, hf88⟩ := hphi84 5 18 _ rfl rfl rfl
    have e89 : f80 18 = v_a_Matrices := hf88
    exact OpX.val (Value.pointer (some (elA v_a_Matrices ((0 : Int)).toNat))) wd81 rfl (op_idx sl_22 (Ty.lift _ (Ext.trans hE15 hS85.ext) r_a_Matrices) e89 rfl ha47 hb48) (Ext.refl _) rfl
  · refine ObX.op rfl ?_
    intro f90 wd91 he92 hout93 hphi94
    have hS95 : St wd10 wd91 [] := St.extend hS17 he92
    obtain ⟨S96, hS97, hf98⟩ := hphi94 6 19 _ rfl rfl rfl
    have e99 : f90 19 = (Value.pointer (some (elA v_a_Matrices ((0 : Int)).toNat))) := hf98
    exact OpX.val u100 wd91 rfl (op_load one_65 e99 (Ext.cell (Ext.trans hE15 hS95.ext) hc101)) (Ext.refl _) rfl
  · refine ObX.op rfl ?_
    intro f103 wd104 he105 hout106 hphi107
    have hS108 : St wd10 wd104 [] := St.extend hS17 he105
    obtain ⟨S109, hS110, hf111⟩ := hphi107 7 20 _ rfl rfl rfl
    have e112 : f103 20 = u100 := hf111
    have hr113 := inR_len (Ty.lift _ (Ext.trans hE15 hS108.ext) hr102)
    exact OpX.val (Value.int .i64 ((x46).length : Int)) wd104 rfl (op_lenL sl_65 (Ty.lift _ (Ext.trans hE15 hS108.ext) hr102) e112) (Ext.refl _) ⟨rfl, hr113⟩
  · refine ObX.op rfl ?_
    intro f114 wd115 he116 hout117 hphi118
    have hS119 : St wd10 wd115 [] := St.extend hS17 he116
    obtain ⟨S120, hS121, hf122⟩ := hphi118 8 21 _ rfl rfl rfl
    obtain ⟨e123, hr124⟩ : f114 21 = (Value.int .i64 ((x46).length : Int)) ∧ InR .i64 ((x46).length : Int) := hf122
    refine OpX.call rfl (op_call fn_48 (args1 e123)) (Ret.mono (c_spec_l02Unit hr124 hx126) ?_)
    rintro u127 wd128 ⟨_, rfl, he129, hs130⟩
    exact ⟨he129, _, newS _ _, (Sep.new hs130)⟩
  · intro f131 wd132 Ss133 he134 hout135 hSn136 hSd137 hphi138
    show WL _ _ _ _ _ _ _
    have hS139 : St wd10 wd132 [] := St.extend hS17 he134
    have e140 : f131 16 = u60 := hphi138 3 16 _ (by decide) rfl rfl
    have e141 : SepS (Ss133 9) wd132 [(Ty.sl (Ty.sl (Ty.i .i64))).at (f131 22) x125] := hphi138 9 22 _ (by decide) rfl rfl
    have e142 : f131 2 = (Value.pointer (some ⟨b1, 0, none⟩)) := (hout135 2 rfl).trans rfl
    have e143 : f131 3 = (Value.pointer (some ⟨b9, 0, none⟩)) := (hout135 3 rfl).trans rfl
    have e144 : f131 5 = (Value.int .i64 ((r_Table).length : Int)) := (hout135 5 rfl).trans rfl
    have hS145 := St.joinS hS17 he134 hSn136 (SepS.consS hSd137 rfl e141 SepS.nilS)
    replace hS145 : St wd10 wd132 [(Ty.sl (Ty.sl (Ty.i .i64))).at (f131 22) x125] := hS145
    have hb146 := St.rep (t := (Ty.sl (Ty.sl (Ty.i .i64)))) hS145 0 rfl
    have hE147 : Ext w wd132 := (Ext.trans hE15 hS145.ext)
    have hE148 : Ext wd2 wd132 := (Ext.trans hE16 hS145.ext)
    have hE149 : Ext wd10 wd132 := hS145.ext
    have hS150 : St wd132 wd132 [] := St.start wd132
    obtain ⟨x151, hx152, h⟩ := bs h
    refine WL.call _ (op_call fn_101 (args2 e140 rfl)) (c_spec_l01Same2 (Ty.lift _ (Ext.trans hE147 hS150.ext) hr62) (Ty.lift _ hS150.ext hb146) hx152) rfl ?_
    rintro _ wd153 ⟨rfl, he154⟩
    have hS156 := St.extend hS150 he154
    replace hS156 : St wd132 wd153 [] := hS156
    refine WL.val (Value.bool (!x151)) _ (op_not rfl) rfl ?_
    refine WL.nil ?_
    show W _ _ _ _ _ _
    refine W.cond (!x151) rfl (fun hc157 => ?_) (fun hc157 => ?_)
    · replace h := ip h hc157
      refine W.seq (W.region ?_)
      refine WL.litFlat (t := (Ty.i .i64)) (flat_i .i64) [(Value.int .i64 (0 : Int))] [(0 : Int)] hS156 sl_25 rfl rfl (fillL rfl ⟨rfl, rfl, rfl, trivial⟩) rfl rfl (litL ⟨⟨rfl, (inR_i64.2 (show (-9223372036854775808 : Int) ≤ 0 ∧ (0 : Int) ≤ 9223372036854775807 from by decide))⟩, trivial⟩) rfl ?_
      intro u159 wd160 hS161 he162
      replace hS161 : St wd132 wd160 [(Ty.sl (Ty.i .i64)).at u159 ([(0 : Int)] : (List Int))] := hS161
      refine WL.val u159 _ (op_assign rfl) rfl ?_
      refine WL.nil ?_
      show W _ _ _ _ _ _
      refine W.ret ?_
      obtain rfl := Option.some.inj h
      show FinP _ _ _ _ _ _ _
      exact FinP.ret _ (res1 rfl rfl) ⟨u159, rfl, (Ext.trans hE147 hS161.ext), (St.out (St.pick hS161 [0] rfl) (hE147))⟩
    · replace h := inegb h hc157
      refine W.skip ?_
      show W _ _ _ _ _ _
      refine W.seq (W.seq (W.region ?_))
      refine WL.val (Value.int .i64 (0 : Int)) _ (op_assign rfl) rfl ?_
      refine WL.nil ?_
      show W _ _ _ _ _ _
      obtain ⟨res163, hres164, h⟩ := bs h
      refine W.blockLoop (fun fq wq => ∃ s, res163 = Res.fin s ∧ fq 2 = (Value.pointer (some ⟨b1, 0, none⟩)) ∧ fq 3 = (Value.pointer (some ⟨b9, 0, none⟩)) ∧ fq 5 = (Value.int .i64 ((r_Table).length : Int)) ∧ St wd132 wq []) ?_ ?_
      · refine W.forN (fun k (s : Unit) fq wq => fq 2 = (Value.pointer (some ⟨b1, 0, none⟩)) ∧ fq 3 = (Value.pointer (some ⟨b9, 0, none⟩)) ∧ fq 5 = (Value.int .i64 ((r_Table).length : Int)) ∧ fq 6 = Value.int .i64 (k : Int) ∧ InR .i64 (k : Int) ∧ St wd132 wq []) hres164 ⟨e142, e143, e144, rfl, (inR_i64.2 (show (-9223372036854775808 : Int) ≤ 0 ∧ (0 : Int) ≤ 9223372036854775807 from by decide)), hS156⟩ ?_ ?_
        · intro k165 s238 ct166 f167 wd168 hk169 hb170 hI171 hbrk172 hret173
          obtain ⟨⟩ := s238
          replace hI171 : f167 2 = (Value.pointer (some ⟨b1, 0, none⟩)) ∧ f167 3 = (Value.pointer (some ⟨b9, 0, none⟩)) ∧ f167 5 = (Value.int .i64 ((r_Table).length : Int)) ∧ f167 6 = Value.int .i64 (k165 : Int) ∧ InR .i64 (k165 : Int) ∧ St wd132 wd168 [] := hI171
          replace hb170 : p_spec_l09Fault_L1 r_Table a_Matrices k165  = some ct166 := hb170
          unfold p_spec_l09Fault_L1 at hb170
          obtain ⟨hf174, hf175, hf176, hf177, hr178, hS179⟩ := hI171
          refine W.seq (W.seq (W.region ?_))
          refine WL.val (Value.int .i64 (k165 : Int)) _ (op_move hf177) rfl ?_
          refine WL.val (Value.int .i64 ((r_Table).length : Int)) _ (op_move hf176) rfl ?_
          refine WL.val (Value.bool (decide ((k165 : Int) < ((r_Table).length : Int)))) _ (op_lss rfl rfl) rfl ?_
          have hl180 : (k165 : Int) < ((r_Table).length : Int) := by omega
          refine WL.nil ?_
          show W _ _ _ _ _ _
          refine W.condT (decide ((k165 : Int) < ((r_Table).length : Int))) rfl (decide_eq_true hl180) ?_
          refine W.skip ?_
          show W _ _ _ _ _ _
          refine W.seq ?_
          refine W.block ?_
          refine W.seq (W.region ?_)
          refine WL.val (Value.int .i64 (0 : Int)) _ (op_assign rfl) rfl ?_
          refine WL.nil ?_
          show W _ _ _ _ _ _
          obtain ⟨res182, hres183, hb170⟩ := bs hb170
          refine W.blockLoop (fun fq wq => ∃ s, res182 = Res.fin s ∧ fq 2 = (Value.pointer (some ⟨b1, 0, none⟩)) ∧ fq 3 = (Value.pointer (some ⟨b9, 0, none⟩)) ∧ fq 5 = (Value.int .i64 ((r_Table).length : Int)) ∧ fq 6 = (Value.int .i64 (k165 : Int)) ∧ St wd132 wq []) ?_ ?_
          · refine W.forN (fun k (s : Unit) fq wq => fq 2 = (Value.pointer (some ⟨b1, 0, none⟩)) ∧ fq 3 = (Value.pointer (some ⟨b9, 0, none⟩)) ∧ fq 5 = (Value.int .i64 ((r_Table).length : Int)) ∧ fq 6 = (Value.int .i64 (k165 : Int)) ∧ fq 7 = Value.int .i64 (k : Int) ∧ InR .i64 (k : Int) ∧ St wd132 wq []) hres183 ⟨hf174, hf175, hf176, hf177, rfl, (inR_i64.2 (show (-9223372036854775808 : Int) ≤ 0 ∧ (0 : Int) ≤ 9223372036854775807 from by decide)), hS179⟩ ?_ ?_
            · intro k184 s214 ct185 f186 wd187 hk188 hb189 hI190 hbrk191 hret192
              obtain ⟨⟩ := s214
              replace hI190 : f186 2 = (Value.pointer (some ⟨b1, 0, none⟩)) ∧ f186 3 = (Value.pointer (some ⟨b9, 0, none⟩)) ∧ f186 5 = (Value.int .i64 ((r_Table).length : Int)) ∧ f186 6 = (Value.int .i64 (k165 : Int)) ∧ f186 7 = Value.int .i64 (k184 : Int) ∧ InR .i64 (k184 : Int) ∧ St wd132 wd187 [] := hI190
              replace hb189 : p_spec_l09Fault_L2 r_Table a_Matrices k165 k184  = some ct185 := hb189
              unfold p_spec_l09Fault_L2 at hb189
              obtain ⟨hf193, hf194, hf195, hf196, hf197, hr198, hS199⟩ := hI190
              refine W.seq (W.seq (W.region ?_))
              refine WL.val (Value.int .i64 (k184 : Int)) _ (op_move hf197) rfl ?_
              refine WL.val (Value.int .i64 ((r_Table).length : Int)) _ (op_move hf195) rfl ?_
              refine WL.val (Value.bool (decide ((k184 : Int) < ((r_Table).length : Int)))) _ (op_lss rfl rfl) rfl ?_
              have hl200 : (k184 : Int) < ((r_Table).length : Int) := by omega
              refine WL.nil ?_
              show W _ _ _ _ _ _
              refine W.condT (decide ((k184 : Int) < ((r_Table).length : Int))) rfl (decide_eq_true hl200) ?_
              refine W.skip ?_
              show W _ _ _ _ _ _
              refine W.seq ?_
              refine W.block ?_
              refine W.seq (W.region ?_)
              refine WL.val (Value.agg #[v_r_Table]) _ (op_loadBox st_29 hf193 (BoxAt.lift (Ext.trans hE148 hS199.ext) hx6) rfl rfl) rfl ?_
              refine WL.val (Value.agg #[v_a_Matrices]) _ (op_loadBox st_42 hf194 (BoxAt.lift (Ext.trans hE149 hS199.ext) hx14) rfl rfl) rfl ?_
              refine WL.val (Value.int .i64 (k165 : Int)) _ (op_move hf196) rfl ?_
              refine WL.val (Value.int .i64 (k184 : Int)) _ (op_move hf197) rfl ?_
              obtain ⟨x202, hx203, hb189⟩ := bs hb189
              refine WL.call _ (op_call fn_102 (args4 rfl rfl rfl rfl)) (c_spec_l09Product (Ty.lift _ (Ext.trans hE147 hS199.ext) r_r_Table) (Ty.lift _ (Ext.trans hE147 hS199.ext) r_a_Matrices) hr178 hr198 hx203) rfl ?_
              rintro _ wd204 ⟨rfl, he205⟩
              have hS207 := St.extend hS199 he205
              replace hS207 : St wd132 wd204 [] := hS207
              refine WL.val (Value.bool (!x202)) _ (op_not rfl) rfl ?_
              refine WL.nil ?_
              show W _ _ _ _ _ _
              refine W.cond (!x202) rfl (fun hc208 => ?_) (fun hc208 => ?_)
              · replace hb189 := ip hb189 hc208
                refine W.seq (W.region ?_)
                refine WL.val (Value.int .i64 (k165 : Int)) _ (op_move hf196) rfl ?_
                refine WL.val (Value.int .i64 (k184 : Int)) _ (op_move hf197) rfl ?_
                refine WL.litFlat (t := (Ty.i .i64)) (flat_i .i64) [(Value.int .i64 (1 : Int)), (Value.int .i64 (k165 : Int)), (Value.int .i64 (k184 : Int))] [(1 : Int), (k165 : Int), (k184 : Int)] hS207 sl_25 rfl rfl (fillL rfl ⟨rfl, rfl, rfl, rfl, rfl, rfl, rfl, rfl, rfl, trivial⟩) rfl rfl (litL ⟨⟨rfl, (inR_i64.2 (show (-9223372036854775808 : Int) ≤ 1 ∧ (1 : Int) ≤ 9223372036854775807 from by decide))⟩, ⟨rfl, hr178⟩, ⟨rfl, hr198⟩, trivial⟩) rfl ?_
                intro u210 wd211 hS212 he213
                replace hS212 : St wd132 wd211 [(Ty.sl (Ty.i .i64)).at u210 ([(1 : Int), (k165 : Int), (k184 : Int)] : (List Int))] := hS212
                refine WL.val u210 _ (op_assign rfl) rfl ?_
                refine WL.nil ?_
                show W _ _ _ _ _ _
                refine W.ret ?_
                obtain rfl := Option.some.inj hb189
                obtain rfl := hret192 _ rfl
                replace hb170 := onRes_ret hb170
                obtain rfl := Option.some.inj hb170
                obtain rfl := hret173 _ rfl
                replace h := onRes_ret h
                obtain rfl := Option.some.inj h
                show FinP _ _ _ _ _ _ _
                exact FinP.ret _ (res1 rfl rfl) ⟨u210, rfl, (Ext.trans hE147 hS212.ext), (St.out (St.pick hS212 [0] rfl) (hE147))⟩
              · replace hb189 := inegb hb189 hc208
                refine W.skip ?_
                show W _ _ _ _ _ _
                refine W.region ?_
                refine WL.val (Value.int .i64 (k184 : Int)) _ (op_move hf197) rfl ?_
                refine WL.val (Value.int .i64 (w64 ((k184 : Int) + (1 : Int)))) _ (op_add rfl rfl) rfl ?_
                refine WL.val (Value.int .i64 (w64 ((k184 : Int) + (1 : Int)))) _ (op_assign rfl) rfl ?_
                refine WL.nil ?_
                obtain rfl := Option.some.inj hb189
                show ∃ s, _ = Ctl.next s ∧ _
                exact ⟨_, rfl, hf193, hf194, hf195, hf196, (ctr_next hl200 hr18), (ctr_rng hl200 hr18), hS207⟩
            · intro s219 f215 wd216 hs217 hI218
              obtain ⟨⟩ := s219
              replace hI218 : f215 2 = (Value.pointer (some ⟨b1, 0, none⟩)) ∧ f215 3 = (Value.pointer (some ⟨b9, 0, none⟩)) ∧ f215 5 = (Value.int .i64 ((r_Table).length : Int)) ∧ f215 6 = (Value.int .i64 (k165 : Int)) ∧ f215 7 = Value.int .i64 (((r_Table).length : Nat) : Int) ∧ InR .i64 (((r_Table).length : Nat) : Int) ∧ St wd132 wd216 [] := hI218
              obtain ⟨hf220, hf221, hf222, hf223, hf224, hr225, hS226⟩ := hI218
              refine W.seq (W.seq (W.region ?_))
              refine WL.val (Value.int .i64 (((r_Table).length : Nat) : Int)) _ (op_move hf224) rfl ?_
              refine WL.val (Value.int .i64 ((r_Table).length : Int)) _ (op_move hf222) rfl ?_
              refine WL.val (Value.bool (decide ((((r_Table).length : Nat) : Int) < ((r_Table).length : Int)))) _ (op_lss rfl rfl) rfl ?_
              have hl227 : ¬ (((r_Table).length : Nat) : Int) < ((r_Table).length : Int) := by omega
              refine WL.nil ?_
              show W _ _ _ _ _ _
              refine W.condF (decide ((((r_Table).length : Nat) : Int) < ((r_Table).length : Int))) rfl (decide_eq_false hl227) ?_
              refine W.exit ?_
              show _ = _ ∧ _
              exact ⟨rfl, _, hs217, hf220, hf221, hf222, hf223, hS226⟩
          · rintro f228 wd229 ⟨s231, rfl, hq230⟩
            replace hb170 := onRes_fin hb170
            obtain ⟨⟩ := s231
            replace hq230 : f228 2 = (Value.pointer (some ⟨b1, 0, none⟩)) ∧ f228 3 = (Value.pointer (some ⟨b9, 0, none⟩)) ∧ f228 5 = (Value.int .i64 ((r_Table).length : Int)) ∧ f228 6 = (Value.int .i64 (k165 : Int)) ∧ St wd132 wd229 [] := hq230
            obtain ⟨hf232, hf233, hf234, hf235, hS236⟩ := hq230
            show W _ _ _ _ _ _
            refine W.region ?_
            refine WL.val (Value.int .i64 (k165 : Int)) _ (op_move hf235) rfl ?_
            refine WL.val (Value.int .i64 (w64 ((k165 : Int) + (1 : Int)))) _ (op_add rfl rfl) rfl ?_
            refine WL.val (Value.int .i64 (w64 ((k165 : Int) + (1 : Int)))) _ (op_assign rfl) rfl ?_
            refine WL.nil ?_
            obtain rfl := Option.some.inj hb170
            show ∃ s, _ = Ctl.next s ∧ _
            exact ⟨_, rfl, hf232, hf233, hf234, (ctr_next hl180 hr18), (ctr_rng hl180 hr18), hS236⟩
        · intro s243 f239 wd240 hs241 hI242
          obtain ⟨⟩ := s243
          replace hI242 : f239 2 = (Value.pointer (some ⟨b1, 0, none⟩)) ∧ f239 3 = (Value.pointer (some ⟨b9, 0, none⟩)) ∧ f239 5 = (Value.int .i64 ((r_Table).length : Int)) ∧ f239 6 = Value.int .i64 (((r_Table).length : Nat) : Int) ∧ InR .i64 (((r_Table).length : Nat) : Int) ∧ St wd132 wd240 [] := hI242
          obtain ⟨hf244, hf245, hf246, hf247, hr248, hS249⟩ := hI242
          refine W.seq (W.seq (W.region ?_))
          refine WL.val (Value.int .i64 (((r_Table).length : Nat) : Int)) _ (op_move hf247) rfl ?_
          refine WL.val (Value.int .i64 ((r_Table).length : Int)) _ (op_move hf246) rfl ?_
          refine WL.val (Value.bool (decide ((((r_Table).length : Nat) : Int) < ((r_Table).length : Int)))) _ (op_lss rfl rfl) rfl ?_
          have hl250 : ¬ (((r_Table).length : Nat) : Int) < ((r_Table).length : Int) := by omega
          refine WL.nil ?_
          show W _ _ _ _ _ _
          refine W.condF (decide ((((r_Table).length : Nat) : Int) < ((r_Table).length : Int))) rfl (decide_eq_false hl250) ?_
          refine W.exit ?_
          show _ = _ ∧ _
          exact ⟨rfl, _, hs241, hf244, hf245, hf246, hS249⟩
      · rintro f251 wd252 ⟨s254, rfl, hq253⟩
        replace h := onRes_fin h
        obtain ⟨⟩ := s254
        replace hq253 : f251 2 = (Value.pointer (some ⟨b1, 0, none⟩)) ∧ f251 3 = (Value.pointer (some ⟨b9, 0, none⟩)) ∧ f251 5 = (Value.int .i64 ((r_Table).length : Int)) ∧ St wd132 wd252 [] := hq253
        obtain ⟨hf255, hf256, hf257, hS258⟩ := hq253
        show W _ _ _ _ _ _
        refine W.seq (W.region ?_)
        refine WL.val (Value.agg #[v_r_Table]) _ (op_loadBox st_29 hf255 (BoxAt.lift (Ext.trans hE148 hS258.ext) hx6) rfl rfl) rfl ?_
        obtain ⟨x259, hx260, h⟩ := bs h
        refine WL.call _ (op_call fn_93 (args1 rfl)) (c_spec_l03Duals (Ty.lift _ (Ext.trans hE147 hS258.ext) r_r_Table) hx260) rfl ?_
        rintro u261 wd262 ⟨_, rfl, he263, hs264⟩
        have hS265 := St.join hS258 he263 hs264
        replace hS265 : St wd132 wd262 [(Ty.sl (Ty.i .i64)).at u261 x259] := hS265
        have hb266 := St.rep (t := (Ty.sl (Ty.i .i64))) hS265 0 rfl
        have hE267 : Ext w wd262 := (Ext.trans hE147 hS265.ext)
        have hE268 : Ext wd2 wd262 := (Ext.trans hE148 hS265.ext)
        have hE269 : Ext wd10 wd262 := (Ext.trans hE149 hS265.ext)
        have hE270 : Ext wd132 wd262 := hS265.ext
        have hS271 : St wd262 wd262 [] := St.start wd262
        refine WL.val u261 _ (op_assign rfl) rfl ?_
        refine WL.nil ?_
        show W _ _ _ _ _ _
        refine W.seq (W.seq (W.region ?_))
        refine WL.val (Value.int .i64 (0 : Int)) _ (op_assign rfl) rfl ?_
        refine WL.nil ?_
        show W _ _ _ _ _ _
        obtain ⟨res272, hres273, h⟩ := bs h
        refine W.blockLoop (fun fq wq => ∃ s, res272 = Res.fin s ∧ St wd262 wq []) ?_ ?_
        · refine W.forN (fun k (s : Unit) fq wq => fq 3 = (Value.pointer (some ⟨b9, 0, none⟩)) ∧ fq 5 = (Value.int .i64 ((r_Table).length : Int)) ∧ fq 8 = u261 ∧ fq 9 = Value.int .i64 (k : Int) ∧ InR .i64 (k : Int) ∧ St wd262 wq []) hres273 ⟨hf256, hf257, rfl, rfl, (inR_i64.2 (show (-9223372036854775808 : Int) ≤ 0 ∧ (0 : Int) ≤ 9223372036854775807 from by decide)), hS271⟩ ?_ ?_
          · intro k274 s493 ct275 f276 wd277 hk278 hb279 hI280 hbrk281 hret282
            obtain ⟨⟩ := s493
            replace hI280 : f276 3 = (Value.pointer (some ⟨b9, 0, none⟩)) ∧ f276 5 = (Value.int .i64 ((r_Table).length : Int)) ∧ f276 8 = u261 ∧ f276 9 = Value.int .i64 (k274 : Int) ∧ InR .i64 (k274 : Int) ∧ St wd262 wd277 [] := hI280
            replace hb279 : p_spec_l09Fault_L3 x259 a_Matrices k274  = some ct275 := hb279
            unfold p_spec_l09Fault_L3 at hb279
            obtain ⟨hf283, hf284, hf285, hf286, hr287, hS288⟩ := hI280
            refine W.seq (W.seq (W.region ?_))
            refine WL.val (Value.int .i64 (k274 : Int)) _ (op_move hf286) rfl ?_
            refine WL.val (Value.int .i64 ((r_Table).length : Int)) _ (op_move hf284) rfl ?_
            refine WL.val (Value.bool (decide ((k274 : Int) < ((r_Table).length : Int)))) _ (op_lss rfl rfl) rfl ?_
            have hl289 : (k274 : Int) < ((r_Table).length : Int) := by omega
            refine WL.nil ?_
            show W _ _ _ _ _ _
            refine W.condT (decide ((k274 : Int) < ((r_Table).length : Int))) rfl (decide_eq_true hl289) ?_
            refine W.skip ?_
            show W _ _ _ _ _ _
            refine W.seq ?_
            refine W.block ?_
            refine W.seq ?_
            obtain ⟨x337, hx340, hb279⟩ := bs hb279
            obtain ⟨ha338, hb339, hx340⟩ := idx_some hx340
            obtain ⟨u351, hc352, hr353⟩ := repSl.el hb266 hx340
            obtain ⟨rfl, hr353⟩ := hr353
            obtain ⟨x369, hx372, hb279⟩ := bs hb279
            obtain ⟨ha370, hb371, hx372⟩ := idx_some hx372
            obtain ⟨u383, hc384, hr385⟩ := repSl.el r_a_Matrices hx372
            obtain ⟨x425, hx428, hb279⟩ := bs hb279
            obtain ⟨ha426, hb427, hx428⟩ := idx_some hx428
            obtain ⟨u439, hc440, hr441⟩ := repSl.el r_a_Matrices hx428
            obtain ⟨x452, hx453, hb279⟩ := bs hb279
            refine W.drawR mixo 14 [] [fun _ v _ _ => v = (Value.pointer (some ⟨b9, 0, none⟩)), fun _ v _ _ => v = v_a_Matrices, fun _ v _ _ => v = u261, fun _ v _ _ => v = (Value.int .i64 (k274 : Int)) ∧ InR .i64 (k274 : Int), fun _ v _ _ => v = (Value.pointer (some (elA u261 ((k274 : Int)).toNat))), fun _ v _ _ => v = (Value.int .i64 x337) ∧ InR .i64 x337, fun _ v _ _ => v = (Value.pointer (some (elA v_a_Matrices (x337).toNat))), fun _ v _ _ => v = u383, fun _ v _ _ => v = (Value.pointer (some ⟨b9, 0, none⟩)), fun _ v _ _ => v = v_a_Matrices, fun _ v _ _ => v = (Value.int .i64 (k274 : Int)) ∧ InR .i64 (k274 : Int), fun _ v _ _ => v = (Value.pointer (some (elA v_a_Matrices ((k274 : Int)).toNat))), fun _ v _ _ => v = u439, fun _ v S w' => SepS S w' [(Ty.sl (Ty.sl (Ty.i .i64))).at v x452]] (by kernel_rfl) (by kernel_rfl) ⟨⟨fun _ _ _ _ _ _ h => h, fun _ _ _ _ _ _ h => h⟩, ⟨fun _ _ _ _ _ _ h => h, fun _ _ _ _ _ _ h => h⟩, ⟨fun _ _ _ _ _ _ h => h, fun _ _ _ _ _ _ h => h⟩, ⟨fun _ _ _ _ _ _ h => h, fun _ _ _ _ _ _ h => h⟩, ⟨fun _ _ _ _ _ _ h => h, fun _ _ _ _ _ _ h => h⟩, ⟨fun _ _ _ _ _ _ h => h, fun _ _ _ _ _ _ h => h⟩, ⟨fun _ _ _ _ _ _ h => h, fun _ _ _ _ _ _ h => h⟩, ⟨fun _ _ _ _ _ _ h => h, fun _ _ _ _ _ _ h => h⟩, ⟨fun _ _ _ _ _ _ h => h, fun _ _ _ _ _ _ h => h⟩, ⟨fun _ _ _ _ _ _ h => h, fun _ _ _ _ _ _ h => h⟩, ⟨fun _ _ _ _ _ _ h => h, fun _ _ _ _ _ _ h => h⟩, ⟨fun _ _ _ _ _ _ h => h, fun _ _ _ _ _ _ h => h⟩, ⟨fun _ _ _ _ _ _ h => h, fun _ _ _ _ _ _ h => h⟩, ⟨fun _ _ _ _ _ he h => SepS.extend he h, fun _ _ _ _ _ _ h => h⟩, trivial⟩ ⟨?_, ?_, ?_, ?_, ?_, ?_, ?_, ?_, ?_, ?_, ?_, ?_, ?_, ?_, trivial⟩ ?_
            · refine ObX.op rfl ?_
              intro f291 wd292 he293 hout294 hphi295
              have hS296 : St wd262 wd292 [] := St.extend hS288 he293
              have e297 : f291 3 = (Value.pointer (some ⟨b9, 0, none⟩)) := (hout294 3 rfl).trans hf283
              exact OpX.val (Value.pointer (some ⟨b9, 0, none⟩)) wd292 rfl (op_fieldAddr fd_42_0 e297) (Ext.refl _) rfl
            · refine ObX.op rfl ?_
              intro f298 wd299 he300 hout301 hphi302
              have hS303 : St wd262 wd299 [] := St.extend hS288 he300
              obtain ⟨S304, hS305, hf306⟩ := hphi302 0 52 _ rfl rfl rfl
              have e307 : f298 52 = (Value.pointer (some ⟨b9, 0, none⟩)) := hf306
              exact OpX.val v_a_Matrices wd299 rfl (op_load one_22 e307 (BoxAt.cell (BoxAt.lift (Ext.trans hE269 hS303.ext) hx14) rfl)) (Ext.refl _) rfl
            · refine ObX.op rfl ?_
              intro f308 wd309 he310 hout311 hphi312
              have hS313 : St wd262 wd309 [] := St.extend hS288 he310
              have e314 : f308 8 = u261 := (hout311 8 rfl).trans hf285
              exact OpX.val u261 wd309 rfl (op_move e314) (Ext.refl _) rfl
            · refine ObX.op rfl ?_
              intro f315 wd316 he317 hout318 hphi319
              have hS320 : St wd262 wd316 [] := St.extend hS288 he317
              have e321 : f315 9 = (Value.int .i64 (k274 : Int)) := (hout318 9 rfl).trans hf286
              exact OpX.val (Value.int .i64 (k274 : Int)) wd316 rfl (op_move e321) (Ext.refl _) ⟨rfl, hr287⟩
            · refine ObX.op rfl ?_
              intro f322 wd323 he324 hout325 hphi326
              have hS327 : St wd262 wd323 [] := St.extend hS288 he324
              obtain ⟨S328, hS329, hf330⟩ := hphi326 2 54 _ rfl rfl rfl
              have e331 : f322 54 = u261 := hf330
              obtain ⟨S332, hS333, hf334⟩ := hphi326 3 55 _ rfl rfl rfl
              obtain ⟨e335, hr336⟩ : f322 55 = (Value.int .i64 (k274 : Int)) ∧ InR .i64 (k274 : Int) := hf334
              exact OpX.val (Value.pointer (some (elA u261 ((k274 : Int)).toNat))) wd323 rfl (op_idx sl_25 (Ty.lift _ hS327.ext hb266) e331 e335 ha338 hb339) (Ext.refl _) rfl
            · refine ObX.op rfl ?_
              intro f341 wd342 he343 hout344 hphi345
              have hS346 : St wd262 wd342 [] := St.extend hS288 he343
              obtain ⟨S347, hS348, hf349⟩ := hphi345 4 56 _ rfl rfl rfl
              have e350 : f341 56 = (Value.pointer (some (elA u261 ((k274 : Int)).toNat))) := hf349
              exact OpX.val (Value.int .i64 x337) wd342 rfl (op_load one_2 e350 (Ext.cell hS346.ext hc352)) (Ext.refl _) ⟨rfl, hr353⟩
            · refine ObX.op rfl ?_
              intro f354 wd355 he356 hout357 hphi358
              have hS359 : St wd262 wd355 [] := St.extend hS288 he356
              obtain ⟨S360, hS361, hf362⟩ := hphi358 1 53 _ rfl rfl rfl
              have e363 : f354 53 = v_a_Matrices := hf362
              obtain ⟨S364, hS365, hf366⟩ := hphi358 5 57 _ rfl rfl rfl
              obtain ⟨e367, hr368⟩ : f354 57 = (Value.int .i64 x337) ∧ InR .i64 x337 := hf366
              exact OpX.val (Value.pointer (some (elA v_a_Matrices (x337).toNat))) wd355 rfl (op_idx sl_22 (Ty.lift _ (Ext.trans hE267 hS359.ext) r_a_Matrices) e363 e367 ha370 hb371) (Ext.refl _) rfl
            · refine ObX.op rfl ?_
              intro f373 wd374 he375 hout376 hphi377
              have hS378 : St wd262 wd374 [] := St.extend hS288 he375
              obtain ⟨S379, hS380, hf381⟩ := hphi377 6 58 _ rfl rfl rfl
              have e382 : f373 58 = (Value.pointer (some (elA v_a_Matrices (x337).toNat))) := hf381
              exact OpX.val u383 wd374 rfl (op_load one_65 e382 (Ext.cell (Ext.trans hE267 hS378.ext) hc384)) (Ext.refl _) rfl
            · refine ObX.op rfl ?_
              intro f386 wd387 he388 hout389 hphi390
              have hS391 : St wd262 wd387 [] := St.extend hS288 he388
              have e392 : f386 3 = (Value.pointer (some ⟨b9, 0, none⟩)) := (hout389 3 rfl).trans hf283
              exact OpX.val (Value.pointer (some ⟨b9, 0, none⟩)) wd387 rfl (op_fieldAddr fd_42_0 e392) (Ext.refl _) rfl
            · refine ObX.op rfl ?_
              intro f393 wd394 he395 hout396 hphi397
              have hS398 : St wd262 wd394 [] := St.extend hS288 he395
              obtain ⟨S399, hS400, hf401⟩ := hphi397 8 60 _ rfl rfl rfl
              have e402 : f393 60 = (Value.pointer (some ⟨b9, 0, none⟩)) := hf401
              exact OpX.val v_a_Matrices wd394 rfl (op_load one_22 e402 (BoxAt.cell (BoxAt.lift (Ext.trans hE269 hS398.ext) hx14) rfl)) (Ext.refl _) rfl
            · refine ObX.op rfl ?_
              intro f403 wd404 he405 hout406 hphi407
              have hS408 : St wd262 wd404 [] := St.extend hS288 he405
              have e409 : f403 9 = (Value.int .i64 (k274 : Int)) := (hout406 9 rfl).trans hf286
              exact OpX.val (Value.int .i64 (k274 : Int)) wd404 rfl (op_move e409) (Ext.refl _) ⟨rfl, hr287⟩
            · refine ObX.op rfl ?_
              intro f410 wd411 he412 hout413 hphi414
              have hS415 : St wd262 wd411 [] := St.extend hS288 he412
              obtain ⟨S416, hS417, hf418⟩ := hphi414 9 61 _ rfl rfl rfl
              have e419 : f410 61 = v_a_Matrices := hf418
              obtain ⟨S420, hS421, hf422⟩ := hphi414 10 62 _ rfl rfl rfl
              obtain ⟨e423, hr424⟩ : f410 62 = (Value.int .i64 (k274 : Int)) ∧ InR .i64 (k274 : Int) := hf422
              exact OpX.val (Value.pointer (some (elA v_a_Matrices ((k274 : Int)).toNat))) wd411 rfl (op_idx sl_22 (Ty.lift _ (Ext.trans hE267 hS415.ext) r_a_Matrices) e419 e423 ha426 hb427) (Ext.refl _) rfl
            · refine ObX.op rfl ?_
              intro f429 wd430 he431 hout432 hphi433
              have hS434 : St wd262 wd430 [] := St.extend hS288 he431
              obtain ⟨S435, hS436, hf437⟩ := hphi433 11 63 _ rfl rfl rfl
              have e438 : f429 63 = (Value.pointer (some (elA v_a_Matrices ((k274 : Int)).toNat))) := hf437
              exact OpX.val u439 wd430 rfl (op_load one_65 e438 (Ext.cell (Ext.trans hE267 hS434.ext) hc440)) (Ext.refl _) rfl
            · refine ObX.op rfl ?_
              intro f442 wd443 he444 hout445 hphi446
              have hS447 : St wd262 wd443 [] := St.extend hS288 he444
              obtain ⟨S448, hS449, hf450⟩ := hphi446 12 64 _ rfl rfl rfl
              have e451 : f442 64 = u439 := hf450
              refine OpX.call rfl (op_call fn_50 (args1 e451)) (Ret.mono (c_spec_l02Turn (Ty.lift _ (Ext.trans hE267 hS447.ext) hr441) hx453) ?_)
              rintro u454 wd455 ⟨_, rfl, he456, hs457⟩
              exact ⟨he456, _, newS _ _, (Sep.new hs457)⟩
            · intro f458 wd459 Ss460 he461 hout462 hSn463 hSd464 hphi465
              show WL _ _ _ _ _ _ _
              have hS466 : St wd262 wd459 [] := St.extend hS288 he461
              have e467 : f458 59 = u383 := hphi465 7 59 _ (by decide) rfl rfl
              have e468 : SepS (Ss460 13) wd459 [(Ty.sl (Ty.sl (Ty.i .i64))).at (f458 65) x452] := hphi465 13 65 _ (by decide) rfl rfl
              have e469 : f458 3 = (Value.pointer (some ⟨b9, 0, none⟩)) := (hout462 3 rfl).trans hf283
              have e470 : f458 5 = (Value.int .i64 ((r_Table).length : Int)) := (hout462 5 rfl).trans hf284
              have e471 : f458 8 = u261 := (hout462 8 rfl).trans hf285
              have e472 : f458 9 = (Value.int .i64 (k274 : Int)) := (hout462 9 rfl).trans hf286
              have hS473 := St.joinS hS288 he461 hSn463 (SepS.consS hSd464 rfl e468 SepS.nilS)
              replace hS473 : St wd262 wd459 [(Ty.sl (Ty.sl (Ty.i .i64))).at (f458 65) x452] := hS473
              have hb474 := St.rep (t := (Ty.sl (Ty.sl (Ty.i .i64)))) hS473 0 rfl
              have hE475 : Ext w wd459 := (Ext.trans hE267 hS473.ext)
              have hE476 : Ext wd2 wd459 := (Ext.trans hE268 hS473.ext)
              have hE477 : Ext wd10 wd459 := (Ext.trans hE269 hS473.ext)
              have hE478 : Ext wd132 wd459 := (Ext.trans hE270 hS473.ext)
              have hE479 : Ext wd262 wd459 := hS473.ext
              have hS480 : St wd459 wd459 [] := St.start wd459
              obtain ⟨x481, hx482, hb279⟩ := bs hb279
              refine WL.call _ (op_call fn_101 (args2 e467 rfl)) (c_spec_l01Same2 (Ty.lift _ (Ext.trans hE475 hS480.ext) hr385) (Ty.lift _ hS480.ext hb474) hx482) rfl ?_
              rintro _ wd483 ⟨rfl, he484⟩
              have hS486 := St.extend hS480 he484
              replace hS486 : St wd459 wd483 [] := hS486
              refine WL.val (Value.bool (!x481)) _ (op_not rfl) rfl ?_
              refine WL.nil ?_
              show W _ _ _ _ _ _
              refine W.cond (!x481) rfl (fun hc487 => ?_) (fun hc487 => ?_)
              · replace hb279 := ip hb279 hc487
                refine W.seq (W.region ?_)
                refine WL.val (Value.int .i64 (k274 : Int)) _ (op_move e472) rfl ?_
                refine WL.litFlat (t := (Ty.i .i64)) (flat_i .i64) [(Value.int .i64 (2 : Int)), (Value.int .i64 (k274 : Int))] [(2 : Int), (k274 : Int)] hS486 sl_25 rfl rfl (fillL rfl ⟨rfl, rfl, rfl, rfl, rfl, rfl, trivial⟩) rfl rfl (litL ⟨⟨rfl, (inR_i64.2 (show (-9223372036854775808 : Int) ≤ 2 ∧ (2 : Int) ≤ 9223372036854775807 from by decide))⟩, ⟨rfl, hr287⟩, trivial⟩) rfl ?_
                intro u489 wd490 hS491 he492
                replace hS491 : St wd459 wd490 [(Ty.sl (Ty.i .i64)).at u489 ([(2 : Int), (k274 : Int)] : (List Int))] := hS491
                refine WL.val u489 _ (op_assign rfl) rfl ?_
                refine WL.nil ?_
                show W _ _ _ _ _ _
                refine W.ret ?_
                obtain rfl := Option.some.inj hb279
                obtain rfl := hret282 _ rfl
                replace h := onRes_ret h
                obtain rfl := Option.some.inj h
                show FinP _ _ _ _ _ _ _
                exact FinP.ret _ (res1 rfl rfl) ⟨u489, rfl, (Ext.trans hE475 hS491.ext), (St.out (St.pick hS491 [0] rfl) (hE475))⟩
              · replace hb279 := inegb hb279 hc487
                refine W.skip ?_
                show W _ _ _ _ _ _
                refine W.region ?_
                refine WL.val (Value.int .i64 (k274 : Int)) _ (op_move e472) rfl ?_
                refine WL.val (Value.int .i64 (w64 ((k274 : Int) + (1 : Int)))) _ (op_add rfl rfl) rfl ?_
                refine WL.val (Value.int .i64 (w64 ((k274 : Int) + (1 : Int)))) _ (op_assign rfl) rfl ?_
                refine WL.nil ?_
                obtain rfl := Option.some.inj hb279
                show ∃ s, _ = Ctl.next s ∧ _
                exact ⟨_, rfl, e469, e470, e471, (ctr_next hl289 hr18), (ctr_rng hl289 hr18), (St.ofExt (Ext.trans hE479 hS486.ext))⟩
          · intro s498 f494 wd495 hs496 hI497
            obtain ⟨⟩ := s498
            replace hI497 : f494 3 = (Value.pointer (some ⟨b9, 0, none⟩)) ∧ f494 5 = (Value.int .i64 ((r_Table).length : Int)) ∧ f494 8 = u261 ∧ f494 9 = Value.int .i64 (((r_Table).length : Nat) : Int) ∧ InR .i64 (((r_Table).length : Nat) : Int) ∧ St wd262 wd495 [] := hI497
            obtain ⟨hf499, hf500, hf501, hf502, hr503, hS504⟩ := hI497
            refine W.seq (W.seq (W.region ?_))
            refine WL.val (Value.int .i64 (((r_Table).length : Nat) : Int)) _ (op_move hf502) rfl ?_
            refine WL.val (Value.int .i64 ((r_Table).length : Int)) _ (op_move hf500) rfl ?_
            refine WL.val (Value.bool (decide ((((r_Table).length : Nat) : Int) < ((r_Table).length : Int)))) _ (op_lss rfl rfl) rfl ?_
            have hl505 : ¬ (((r_Table).length : Nat) : Int) < ((r_Table).length : Int) := by omega
            refine WL.nil ?_
            show W _ _ _ _ _ _
            refine W.condF (decide ((((r_Table).length : Nat) : Int) < ((r_Table).length : Int))) rfl (decide_eq_false hl505) ?_
            refine W.exit ?_
            show _ = _ ∧ _
            exact ⟨rfl, _, hs496, hS504⟩
        · rintro f506 wd507 ⟨s509, rfl, hq508⟩
          replace h := onRes_fin h
          obtain ⟨⟩ := s509
          replace hq508 : St wd262 wd507 [] := hq508
          have hS510 := hq508
          show W _ _ _ _ _ _
          refine W.seq (W.region ?_)
          refine WL.val (Value.slice none 0 0) _ (op_assign rfl) rfl ?_
          refine WL.nil ?_
          show W _ _ _ _ _ _
          refine W.ret ?_
          obtain rfl := Option.some.inj h
          show FinP _ _ _ _ _ _ _
          exact FinP.ret _ (res1 rfl rfl) ⟨(Value.slice none 0 0), rfl, (Ext.trans hE267 hS510.ext), (St.out (St.pick (St.addNil (Ty.i .i64) hS510) [0] rfl) (hE267))⟩

theorem c_spec_l09Is {w : World} {r_Table : (List (List (List Int)))} {v_r_Table : Value} {a_Matrices : (List (List (List Int)))} {v_a_Matrices : Value} (r_r_Table : (Ty.sl (Ty.sl (Ty.sl (Ty.i .i64)))).rep w v_r_Table r_Table) (r_a_Matrices : (Ty.sl (Ty.sl (Ty.sl (Ty.i .i64)))).rep w v_a_Matrices a_Matrices) {res : Bool} (h : p_spec_l09Is r_Table a_Matrices  = some res) :
    Ret Try.prog 46 #[(Value.agg #[v_r_Table]), (Value.agg #[v_a_Matrices])] w (fun v w' => v = Value.bool res ∧ Ext w w') := by
  unfold p_spec_l09Is at h
  have hS0 : St w w [] := St.start w
  refine Ret.start (fn := Try.f46) Try.func46 rfl 19 rfl rfl ?_
  refine W.seq (W.region ?_)
  refine WL.box hS0 rfl (cs := [v_r_Table]) rfl rfl ?_
  intro b1 wd2 hS3 he4 hx5
  replace hS3 : St w wd2 [bx b1 [v_r_Table]] := hS3
  have hx6 := St.boxAt hS3 0 rfl
  have hE7 : Ext w wd2 := hS3.ext
  have hS8 : St wd2 wd2 [] := St.start wd2
  refine WL.box hS8 rfl (cs := [v_a_Matrices]) rfl rfl ?_
  intro b9 wd10 hS11 he12 hx13
  replace hS11 : St wd2 wd10 [bx b9 [v_a_Matrices]] := hS11
  have hx14 := St.boxAt hS11 0 rfl
  have hE15 : Ext w wd10 := (Ext.trans hE7 hS11.ext)
  have hE16 : Ext wd2 wd10 := hS11.ext
  have hS17 : St wd10 wd10 [] := St.start wd10
  refine WL.val (Value.bool false) _ (op_assign rfl) rfl ?_
  refine WL.nil ?_
  show W _ _ _ _ _ _
  refine W.seq (W.region ?_)
  refine WL.val (Value.agg #[v_r_Table]) _ (op_loadBox st_29 rfl (BoxAt.lift (Ext.trans hE16 hS17.ext) hx6) rfl rfl) rfl ?_
  obtain ⟨x18, hx19, h⟩ := bs h
  refine WL.call _ (op_call fn_60 (args1 rfl)) (c_spec_l03Is (Ty.lift _ (Ext.trans hE15 hS17.ext) r_r_Table) hx19) rfl ?_
  rintro _ wd20 ⟨rfl, he21⟩
  have hS23 := St.extend hS17 he21
  replace hS23 : St wd10 wd20 [] := hS23
  refine WL.val (Value.bool x18) _ (op_move rfl) rfl ?_
  obtain ⟨x25, hj26, h⟩ := bs h
  refine WL.cut 4 (fun fq wq => fq 2 = (Value.pointer (some ⟨b1, 0, none⟩)) ∧ fq 3 = (Value.pointer (some ⟨b9, 0, none⟩)) ∧ fq 11 = Value.bool x25 ∧ St wd10 wq []) ?_ ?_
  · rcases Bool.eq_false_or_eq_true x18 with hc24 | hc24
    · replace hj26 := ip hj26 hc24
      refine WL.grun rfl (bool_of rfl hc24) ?_
      refine WL.val (Value.agg #[v_r_Table]) _ (op_loadBox st_29 rfl (BoxAt.lift (Ext.trans hE16 hS23.ext) hx6) rfl rfl) rfl ?_
      refine WL.grun rfl (bool_of rfl hc24) ?_
      refine WL.val (Value.agg #[v_a_Matrices]) _ (op_loadBox st_42 rfl (BoxAt.lift hS23.ext hx14) rfl rfl) rfl ?_
      refine WL.grun rfl (bool_of rfl hc24) ?_
      obtain ⟨x30, hx31, hj26⟩ := bs hj26
      refine WL.call _ (op_call fn_77 (args2 rfl rfl)) (c_spec_l09Family (Ty.lift _ (Ext.trans hE15 hS23.ext) r_r_Table) (Ty.lift _ (Ext.trans hE15 hS23.ext) r_a_Matrices) hx31) rfl ?_
      rintro _ wd32 ⟨rfl, he33⟩
      have hS35 := St.extend hS23 he33
      replace hS35 : St wd10 wd32 [] := hS35
      refine WL.val (Value.bool x30) _ (op_pick_t (evb_of rfl hc24) rfl) rfl ?_
      refine WL.nil ?_
      obtain rfl := Option.some.inj hj26
      exact ⟨rfl, rfl, rfl, rfl, hS35⟩
    · replace hj26 := inegb hj26 hc24
      refine WL.gskip rfl (bool_of rfl hc24) rfl ?_
      refine WL.gskip rfl (bool_of rfl hc24) rfl ?_
      refine WL.gskip rfl (bool_of rfl hc24) rfl ?_
      refine WL.val (Value.bool false) _ (op_pick_f (evb_of rfl hc24) rfl) rfl ?_
      refine WL.nil ?_
      obtain rfl := Option.some.inj hj26
      exact ⟨rfl, rfl, rfl, rfl, hS23⟩
  · intro f27 wd28 hq29
    obtain ⟨hf36, hf37, hf38, hS39⟩ := hq29
    refine WL.val (Value.bool x25) _ (op_move hf38) rfl ?_
    obtain ⟨x41, hj42, h⟩ := bs h
    refine WL.cut 6 (fun fq wq => fq 18 = Value.bool x41 ∧ St wd10 wq []) ?_ ?_
    · rcases Bool.eq_false_or_eq_true x25 with hc40 | hc40
      · replace hj42 := ip hj42 hc40
        refine WL.grun rfl (bool_of rfl hc40) ?_
        refine WL.val (Value.agg #[v_r_Table]) _ (op_loadBox st_29 hf36 (BoxAt.lift (Ext.trans hE16 hS39.ext) hx6) rfl rfl) rfl ?_
        refine WL.grun rfl (bool_of rfl hc40) ?_
        refine WL.val (Value.agg #[v_a_Matrices]) _ (op_loadBox st_42 hf37 (BoxAt.lift hS39.ext hx14) rfl rfl) rfl ?_
        refine WL.grun rfl (bool_of rfl hc40) ?_
        obtain ⟨x46, hx47, hj42⟩ := bs hj42
        refine WL.call _ (op_call fn_78 (args2 rfl rfl)) (c_spec_l09Fault (Ty.lift _ (Ext.trans hE15 hS39.ext) r_r_Table) (Ty.lift _ (Ext.trans hE15 hS39.ext) r_a_Matrices) hx47) rfl ?_
        rintro u48 wd49 ⟨_, rfl, he50, hs51⟩
        have hS52 := St.join hS39 he50 hs51
        replace hS52 : St wd10 wd49 [(Ty.sl (Ty.i .i64)).at u48 x46] := hS52
        refine WL.grun rfl (bool_of rfl hc40) ?_
        have hr53 := inR_len (St.rep (t := (Ty.sl (Ty.i .i64))) hS52 0 rfl)
        refine WL.val (Value.int .i64 ((x46).length : Int)) _ (op_lenL sl_25 (St.rep (t := (Ty.sl (Ty.i .i64))) hS52 0 rfl) rfl) rfl ?_
        refine WL.grun rfl (bool_of rfl hc40) ?_
        refine WL.val (Value.bool (((x46).length : Int) == (0 : Int))) _ (op_eql rfl rfl) rfl ?_
        refine WL.val (Value.bool (((x46).length : Int) == (0 : Int))) _ (op_pick_t (evb_of rfl hc40) rfl) rfl ?_
        refine WL.nil ?_
        obtain rfl := Option.some.inj hj42
        exact ⟨rfl, rfl, (St.pick hS52 [] rfl)⟩
      · replace hj42 := inegb hj42 hc40
        refine WL.gskip rfl (bool_of rfl hc40) rfl ?_
        refine WL.gskip rfl (bool_of rfl hc40) rfl ?_
        refine WL.gskip rfl (bool_of rfl hc40) rfl ?_
        refine WL.gskip rfl (bool_of rfl hc40) rfl ?_
        refine WL.gskip rfl (bool_of rfl hc40) rfl ?_
        refine WL.val (Value.bool false) _ (op_pick_f (evb_of rfl hc40) rfl) rfl ?_
        refine WL.nil ?_
        obtain rfl := Option.some.inj hj42
        exact ⟨rfl, rfl, hS39⟩
    · intro f43 wd44 hq45
      obtain ⟨hf54, hS55⟩ := hq45
      refine WL.val (Value.bool x41) _ (op_assign hf54) rfl ?_
      refine WL.nil ?_
      show W _ _ _ _ _ _
      refine W.ret ?_
      obtain rfl := Option.some.inj h
      show FinP _ _ _ _ _ _ _
      exact FinP.ret _ (res1 rfl rfl) ⟨rfl, (Ext.trans hE15 hS55.ext)⟩

theorem c_spec_l03Label {w : World} {r_Table : (List (List (List Int)))} {v_r_Table : Value} {i : Int} (r_r_Table : (Ty.sl (Ty.sl (Ty.sl (Ty.i .i64)))).rep w v_r_Table r_Table) (r_i : InR .i64 i) {res : Bool} (h : p_spec_l03Label r_Table i  = some res) :
    Ret Try.prog 47 #[(Value.agg #[v_r_Table]), (Value.int .i64 i)] w (fun v w' => v = Value.bool res ∧ Ext w w') := by
  unfold p_spec_l03Label at h
  have hS0 : St w w [] := St.start w
  refine Ret.start (fn := Try.f47) Try.func47 rfl 11 rfl rfl ?_
  refine W.seq (W.region ?_)
  refine WL.box hS0 rfl (cs := [v_r_Table]) rfl rfl ?_
  intro b1 wd2 hS3 he4 hx5
  replace hS3 : St w wd2 [bx b1 [v_r_Table]] := hS3
  have hx6 := St.boxAt hS3 0 rfl
  have hE7 : Ext w wd2 := hS3.ext
  have hS8 : St wd2 wd2 [] := St.start wd2
  refine WL.val (Value.bool false) _ (op_assign rfl) rfl ?_
  refine WL.nil ?_
  show W _ _ _ _ _ _
  refine W.seq (W.region ?_)
  refine WL.val (Value.int .i64 i) _ (op_move rfl) rfl ?_
  refine WL.val (Value.pointer (some ⟨b1, 0, none⟩)) _ (op_fieldAddr fd_29_0 rfl) rfl ?_
  refine WL.val v_r_Table _ (op_load one_22 rfl (BoxAt.cell (BoxAt.lift hS8.ext hx6) rfl)) rfl ?_
  have hr9 := inR_len (Ty.lift _ (Ext.trans hE7 hS8.ext) r_r_Table)
  refine WL.val (Value.int .i64 ((r_Table).length : Int)) _ (op_lenL sl_22 (Ty.lift _ (Ext.trans hE7 hS8.ext) r_r_Table) rfl) rfl ?_
  refine WL.val (Value.int .i64 (w64 (((r_Table).length : Int) - (1 : Int)))) _ (op_sub rfl rfl) rfl ?_
  obtain ⟨x10, hx11, h⟩ := bs h
  refine WL.call _ (op_call fn_75 (args3 rfl rfl rfl)) (c_spec_l01In r_i (inR_i64.2 (show (-9223372036854775808 : Int) ≤ 0 ∧ (0 : Int) ≤ 9223372036854775807 from by decide)) (inR_wrap _ _) hx11) rfl ?_
  rintro _ wd12 ⟨rfl, he13⟩
  have hS15 := St.extend hS8 he13
  replace hS15 : St wd2 wd12 [] := hS15
  refine WL.val (Value.bool x10) _ (op_assign rfl) rfl ?_
  refine WL.nil ?_
  show W _ _ _ _ _ _
  refine W.ret ?_
  obtain rfl := Option.some.inj h
  show FinP _ _ _ _ _ _ _
  exact FinP.ret _ (res1 rfl rfl) ⟨rfl, (Ext.trans hE7 hS15.ext)⟩

theorem c_spec_l09Size {w : World} {a_Matrices : (List (List (List Int)))} {v_a_Matrices : Value} (r_a_Matrices : (Ty.sl (Ty.sl (Ty.sl (Ty.i .i64)))).rep w v_a_Matrices a_Matrices) {res : Int} (h : p_spec_l09Size a_Matrices  = some res) :
    Ret Try.prog 49 #[(Value.agg #[v_a_Matrices])] w (fun v w' => v = Value.int .i64 res ∧ InR .i64 res ∧ Ext w w') := by
  unfold p_spec_l09Size at h
  have hS0 : St w w [] := St.start w
  refine Ret.start (fn := Try.f49) Try.func49 rfl 8 rfl rfl ?_
  refine W.seq (W.region ?_)
  refine WL.box hS0 rfl (cs := [v_a_Matrices]) rfl rfl ?_
  intro b1 wd2 hS3 he4 hx5
  replace hS3 : St w wd2 [bx b1 [v_a_Matrices]] := hS3
  have hx6 := St.boxAt hS3 0 rfl
  have hE7 : Ext w wd2 := hS3.ext
  have hS8 : St wd2 wd2 [] := St.start wd2
  refine WL.val (Value.int .i64 (0 : Int)) _ (op_assign rfl) rfl ?_
  refine WL.nil ?_
  show W _ _ _ _ _ _
  refine W.seq (W.region ?_)
  refine WL.val (Value.pointer (some ⟨b1, 0, none⟩)) _ (op_fieldAddr fd_42_0 rfl) rfl ?_
  refine WL.val v_a_Matrices _ (op_load one_22 rfl (BoxAt.cell (BoxAt.lift hS8.ext hx6) rfl)) rfl ?_
  obtain ⟨x9, hx12, h⟩ := bs h
  obtain ⟨ha10, hb11, hx12⟩ := idx_some hx12
  refine WL.val (Value.pointer (some (elA v_a_Matrices ((0 : Int)).toNat))) _ (op_idx sl_22 (Ty.lift _ (Ext.trans hE7 hS8.ext) r_a_Matrices) rfl rfl ha10 hb11) rfl ?_
  obtain ⟨u13, hc14, hr15⟩ := repSl.el r_a_Matrices hx12
  refine WL.val u13 _ (op_load one_65 rfl (Ext.cell (Ext.trans hE7 hS8.ext) hc14)) rfl ?_
  have hr16 := inR_len (Ty.lift _ (Ext.trans hE7 hS8.ext) hr15)
  refine WL.val (Value.int .i64 ((x9).length : Int)) _ (op_lenL sl_65 (Ty.lift _ (Ext.trans hE7 hS8.ext) hr15) rfl) rfl ?_
  refine WL.val (Value.int .i64 ((x9).length : Int)) _ (op_assign rfl) rfl ?_
  refine WL.nil ?_
  show W _ _ _ _ _ _
  refine W.ret ?_
  obtain rfl := Option.some.inj h
  show FinP _ _ _ _ _ _ _
  exact FinP.ret _ (res1 rfl rfl) ⟨rfl, hr16, (Ext.trans hE7 hS8.ext)⟩

theorem c_spec_CountFixedPoints {w : World} {r_Table : (List (List (List Int)))} {v_r_Table : Value} {a_Matrices : (List (List (List Int)))} {v_a_Matrices : Value} {i : Int} (r_r_Table : (Ty.sl (Ty.sl (Ty.sl (Ty.i .i64)))).rep w v_r_Table r_Table) (r_a_Matrices : (Ty.sl (Ty.sl (Ty.sl (Ty.i .i64)))).rep w v_a_Matrices a_Matrices) (r_i : InR .i64 i) {res : Int × Int} (h : p_spec_CountFixedPoints r_Table a_Matrices i  = some res) :
    Ret Try.prog 19 #[(Value.agg #[v_r_Table]), (Value.agg #[v_a_Matrices]), (Value.int .i64 i)] w (fun v w' => v = (Value.tuple #[Value.int .i64 res.1, Value.int .i64 res.2]) ∧ InR .i64 res.1 ∧ InR .i64 res.2 ∧ Ext w w') := by
  unfold p_spec_CountFixedPoints at h
  have hS0 : St w w [] := St.start w
  refine Ret.start (fn := Try.f19) Try.func19 rfl 47 rfl rfl ?_
  refine W.seq (W.region ?_)
  refine WL.box hS0 rfl (cs := [v_r_Table]) rfl rfl ?_
  intro b1 wd2 hS3 he4 hx5
  replace hS3 : St w wd2 [bx b1 [v_r_Table]] := hS3
  have hx6 := St.boxAt hS3 0 rfl
  have hE7 : Ext w wd2 := hS3.ext
  have hS8 : St wd2 wd2 [] := St.start wd2
  refine WL.box hS8 rfl (cs := [v_a_Matrices]) rfl rfl ?_
  intro b9 wd10 hS11 he12 hx13
  replace hS11 : St wd2 wd10 [bx b9 [v_a_Matrices]] := hS11
  have hx14 := St.boxAt hS11 0 rfl
  have hE15 : Ext w wd10 := (Ext.trans hE7 hS11.ext)
  have hE16 : Ext wd2 wd10 := hS11.ext
  have hS17 : St wd10 wd10 [] := St.start wd10
  refine WL.val (Value.int .i64 (0 : Int)) _ (op_assign rfl) rfl ?_
  refine WL.val (Value.int .i64 (0 : Int)) _ (op_assign rfl) rfl ?_
  refine WL.nil ?_
  show W _ _ _ _ _ _
  refine W.seq (W.seq (W.region ?_))
  refine WL.val (Value.agg #[v_r_Table]) _ (op_loadBox st_29 rfl (BoxAt.lift (Ext.trans hE16 hS17.ext) hx6) rfl rfl) rfl ?_
  refine WL.val (Value.agg #[v_a_Matrices]) _ (op_loadBox st_42 rfl (BoxAt.lift hS17.ext hx14) rfl rfl) rfl ?_
  obtain ⟨x18, hx19, h⟩ := bs h
  refine WL.call _ (op_call fn_46 (args2 rfl rfl)) (c_spec_l09Is (Ty.lift _ (Ext.trans hE15 hS17.ext) r_r_Table) (Ty.lift _ (Ext.trans hE15 hS17.ext) r_a_Matrices) hx19) rfl ?_
  rintro _ wd20 ⟨rfl, he21⟩
  have hS23 := St.extend hS17 he21
  replace hS23 : St wd10 wd20 [] := hS23
  refine WL.val (Value.bool (!x18)) _ (op_not rfl) rfl ?_
  refine WL.nil ?_
  show W _ _ _ _ _ _
  refine W.cond (!x18) rfl (fun hc24 => ?_) (fun hc24 => ?_)
  · replace h := ip h hc24
    refine W.seq (W.region ?_)
    refine WL.val (Value.int .i64 (0 : Int)) _ (op_assign rfl) rfl ?_
    refine WL.val (Value.int .i64 (1 : Int)) _ (op_assign rfl) rfl ?_
    refine WL.nil ?_
    show W _ _ _ _ _ _
    refine W.ret ?_
    obtain rfl := Option.some.inj h
    show FinP _ _ _ _ _ _ _
    exact FinP.ret _ (res2 rfl rfl rfl) ⟨rfl, (inR_i64.2 (show (-9223372036854775808 : Int) ≤ 0 ∧ (0 : Int) ≤ 9223372036854775807 from by decide)), (inR_i64.2 (show (-9223372036854775808 : Int) ≤ 1 ∧ (1 : Int) ≤ 9223372036854775807 from by decide)), (Ext.trans hE15 hS23.ext)⟩
  · replace h := inegb h hc24
    refine W.skip ?_
    show W _ _ _ _ _ _
    refine W.seq (W.seq (W.region ?_))
    refine WL.val (Value.agg #[v_r_Table]) _ (op_loadBox st_29 rfl (BoxAt.lift (Ext.trans hE16 hS23.ext) hx6) rfl rfl) rfl ?_
    refine WL.val (Value.int .i64 i) _ (op_move rfl) rfl ?_
    obtain ⟨x26, hx27, h⟩ := bs h
    refine WL.call _ (op_call fn_47 (args2 rfl rfl)) (c_spec_l03Label (Ty.lift _ (Ext.trans hE15 hS23.ext) r_r_Table) r_i hx27) rfl ?_
    rintro _ wd28 ⟨rfl, he29⟩
    have hS31 := St.extend hS23 he29
    replace hS31 : St wd10 wd28 [] := hS31
    refine WL.val (Value.bool (!x26)) _ (op_not rfl) rfl ?_
    refine WL.nil ?_
    show W _ _ _ _ _ _
    refine W.cond (!x26) rfl (fun hc32 => ?_) (fun hc32 => ?_)
    · replace h := ip h hc32
      refine W.seq (W.region ?_)
      refine WL.val (Value.int .i64 (0 : Int)) _ (op_assign rfl) rfl ?_
      refine WL.val (Value.int .i64 (2 : Int)) _ (op_assign rfl) rfl ?_
      refine WL.nil ?_
      show W _ _ _ _ _ _
      refine W.ret ?_
      obtain rfl := Option.some.inj h
      show FinP _ _ _ _ _ _ _
      exact FinP.ret _ (res2 rfl rfl rfl) ⟨rfl, (inR_i64.2 (show (-9223372036854775808 : Int) ≤ 0 ∧ (0 : Int) ≤ 9223372036854775807 from by decide)), (inR_i64.2 (show (-9223372036854775808 : Int) ≤ 2 ∧ (2 : Int) ≤ 9223372036854775807 from by decide)), (Ext.trans hE15 hS31.ext)⟩
    · replace h := inegb h hc32
      refine W.skip ?_
      show W _ _ _ _ _ _
      refine W.seq (W.region ?_)
      refine WL.val (Value.agg #[v_a_Matrices]) _ (op_loadBox st_42 rfl (BoxAt.lift hS31.ext hx14) rfl rfl) rfl ?_
      obtain ⟨x34, hx35, h⟩ := bs h
      refine WL.call _ (op_call fn_49 (args1 rfl)) (c_spec_l09Size (Ty.lift _ (Ext.trans hE15 hS31.ext) r_a_Matrices) hx35) rfl ?_
      rintro _ wd37 ⟨rfl, hr36, he38⟩
      have hS40 := St.extend hS31 he38
      replace hS40 : St wd10 wd37 [] := hS40
      obtain ⟨x41, hx42, h⟩ := bs h
      refine WL.call _ (op_call fn_48 (args1 rfl)) (c_spec_l02Unit hr36 hx42) rfl ?_
      rintro u43 wd44 ⟨_, rfl, he45, hs46⟩
      have hS47 := St.join hS40 he45 hs46
      replace hS47 : St wd10 wd44 [(Ty.sl (Ty.sl (Ty.i .i64))).at u43 x41] := hS47
      have hb48 := St.rep (t := (Ty.sl (Ty.sl (Ty.i .i64)))) hS47 0 rfl
      have hE49 : Ext w wd44 := (Ext.trans hE15 hS47.ext)
      have hE50 : Ext wd2 wd44 := (Ext.trans hE16 hS47.ext)
      have hE51 : Ext wd10 wd44 := hS47.ext
      have hS52 : St wd44 wd44 [] := St.start wd44
      refine WL.val (Value.int .i64 (0 : Int)) _ (op_assign rfl) rfl ?_
      refine WL.val u43 _ (op_assign rfl) rfl ?_
      refine WL.nil ?_
      show W _ _ _ _ _ _
      refine W.seq (W.region ?_)
      refine WL.val (Value.pointer (some ⟨b9, 0, none⟩)) _ (op_fieldAddr fd_42_0 rfl) rfl ?_
      refine WL.val v_a_Matrices _ (op_load one_22 rfl (BoxAt.cell (BoxAt.lift (Ext.trans hE51 hS52.ext) hx14) rfl)) rfl ?_
      refine WL.val (Value.int .i64 i) _ (op_move rfl) rfl ?_
      obtain ⟨x53, hx56, h⟩ := bs h
      obtain ⟨ha54, hb55, hx56⟩ := idx_some hx56
      refine WL.val (Value.pointer (some (elA v_a_Matrices (i).toNat))) _ (op_idx sl_22 (Ty.lift _ (Ext.trans hE49 hS52.ext) r_a_Matrices) rfl rfl ha54 hb55) rfl ?_
      obtain ⟨u57, hc58, hr59⟩ := repSl.el r_a_Matrices hx56
      refine WL.val u57 _ (op_load one_65 rfl (Ext.cell (Ext.trans hE49 hS52.ext) hc58)) rfl ?_
      obtain ⟨x60, hx61, h⟩ := bs h
      refine WL.call _ (op_call fn_50 (args1 rfl)) (c_spec_l02Turn (Ty.lift _ (Ext.trans hE49 hS52.ext) hr59) hx61) rfl ?_
      rintro u62 wd63 ⟨_, rfl, he64, hs65⟩
      have hS66 := St.join hS52 he64 hs65
      replace hS66 : St wd44 wd63 [(Ty.sl (Ty.sl (Ty.i .i64))).at u62 x60] := hS66
      have hb67 := St.rep (t := (Ty.sl (Ty.sl (Ty.i .i64)))) hS66 0 rfl
      have hE68 : Ext w wd63 := (Ext.trans hE49 hS66.ext)
      have hE69 : Ext wd2 wd63 := (Ext.trans hE50 hS66.ext)
      have hE70 : Ext wd10 wd63 := (Ext.trans hE51 hS66.ext)
      have hE71 : Ext wd44 wd63 := hS66.ext
      have hS72 : St wd63 wd63 [] := St.start wd63
      refine WL.val u62 _ (op_assign rfl) rfl ?_
      refine WL.nil ?_
      show W _ _ _ _ _ _
      refine W.seq (W.seq (W.region ?_))
      refine WL.val (Value.int .i64 (0 : Int)) _ (op_assign rfl) rfl ?_
      refine WL.nil ?_
      show W _ _ _ _ _ _
      obtain ⟨res73, hres74, h⟩ := bs h
      refine W.blockLoop (fun fq wq => ∃ s, res73 = Res.fin s ∧ fq 8 = Value.int .i64 s ∧ InR .i64 s ∧ St wd63 wq []) ?_ ?_
      · refine W.forN (fun k (s : Int) fq wq => fq 8 = Value.int .i64 s ∧ InR .i64 s ∧ fq 9 = u43 ∧ fq 10 = u62 ∧ fq 11 = Value.int .i64 (k : Int) ∧ InR .i64 (k : Int) ∧ St wd63 wq []) hres74 ⟨rfl, (inR_i64.2 (show (-9223372036854775808 : Int) ≤ 0 ∧ (0 : Int) ≤ 9223372036854775807 from by decide)), rfl, rfl, rfl, (inR_i64.2 (show (-9223372036854775808 : Int) ≤ 0 ∧ (0 : Int) ≤ 9223372036854775807 from by decide)), hS72⟩ ?_ ?_
        · intro k75 x76 ct77 f78 wd79 hk80 hb81 hI82 hbrk83 hret84
          replace hI82 : f78 8 = Value.int .i64 x76 ∧ InR .i64 x76 ∧ f78 9 = u43 ∧ f78 10 = u62 ∧ f78 11 = Value.int .i64 (k75 : Int) ∧ InR .i64 (k75 : Int) ∧ St wd63 wd79 [] := hI82
          replace hb81 : p_spec_CountFixedPoints_L1 x60 x41 k75 x76 = some ct77 := hb81
          unfold p_spec_CountFixedPoints_L1 at hb81
          obtain ⟨hf85, hr86, hf87, hf88, hf89, hr90, hS91⟩ := hI82
          refine W.seq (W.seq (W.region ?_))
          refine WL.val (Value.int .i64 (k75 : Int)) _ (op_move hf89) rfl ?_
          refine WL.val u62 _ (op_move hf88) rfl ?_
          have hr92 := inR_len (Ty.lift _ hS91.ext hb67)
          refine WL.val (Value.int .i64 ((x60).length : Int)) _ (op_lenL sl_65 (Ty.lift _ hS91.ext hb67) rfl) rfl ?_
          refine WL.val (Value.bool (decide ((k75 : Int) < ((x60).length : Int)))) _ (op_lss rfl rfl) rfl ?_
          have hl93 : (k75 : Int) < ((x60).length : Int) := by omega
          refine WL.nil ?_
          show W _ _ _ _ _ _
          refine W.condT (decide ((k75 : Int) < ((x60).length : Int))) rfl (decide_eq_true hl93) ?_
          refine W.skip ?_
          show W _ _ _ _ _ _
          refine W.seq ?_
          refine W.block ?_
          refine W.seq ?_
          obtain ⟨x124, hx127, hb81⟩ := bs hb81
          obtain ⟨ha125, hb126, hx127⟩ := idx_some hx127
          obtain ⟨u138, hc139, hr140⟩ := repSl.el hb67 hx127
          obtain ⟨x170, hx173, hb81⟩ := bs hb81
          obtain ⟨ha171, hb172, hx173⟩ := idx_some hx173
          obtain ⟨u184, hc185, hr186⟩ := repSl.el hb48 hx173
          refine W.drawR mixo 8 [] [fun _ v _ _ => v = u62, fun _ v _ _ => v = (Value.int .i64 (k75 : Int)) ∧ InR .i64 (k75 : Int), fun _ v _ _ => v = (Value.pointer (some (elA u62 ((k75 : Int)).toNat))), fun _ v _ _ => v = u138, fun _ v _ _ => v = u43, fun _ v _ _ => v = (Value.int .i64 (k75 : Int)) ∧ InR .i64 (k75 : Int), fun _ v _ _ => v = (Value.pointer (some (elA u43 ((k75 : Int)).toNat))), fun _ v _ _ => v = u184] (by kernel_rfl) (by kernel_rfl) ⟨⟨fun _ _ _ _ _ _ h => h, fun _ _ _ _ _ _ h => h⟩, ⟨fun _ _ _ _ _ _ h => h, fun _ _ _ _ _ _ h => h⟩, ⟨fun _ _ _ _ _ _ h => h, fun _ _ _ _ _ _ h => h⟩, ⟨fun _ _ _ _ _ _ h => h, fun _ _ _ _ _ _ h => h⟩, ⟨fun _ _ _ _ _ _ h => h, fun _ _ _ _ _ _ h => h⟩, ⟨fun _ _ _ _ _ _ h => h, fun _ _ _ _ _ _ h => h⟩, ⟨fun _ _ _ _ _ _ h => h, fun _ _ _ _ _ _ h => h⟩, ⟨fun _ _ _ _ _ _ h => h, fun _ _ _ _ _ _ h => h⟩, trivial⟩ ⟨?_, ?_, ?_, ?_, ?_, ?_, ?_, ?_, trivial⟩ ?_
          · refine ObX.op rfl ?_
            intro f95 wd96 he97 hout98 hphi99
            have hS100 : St wd63 wd96 [] := St.extend hS91 he97
            have e101 : f95 10 = u62 := (hout98 10 rfl).trans hf88
            exact OpX.val u62 wd96 rfl (op_move e101) (Ext.refl _) rfl
          · refine ObX.op rfl ?_
            intro f102 wd103 he104 hout105 hphi106
            have hS107 : St wd63 wd103 [] := St.extend hS91 he104
            have e108 : f102 11 = (Value.int .i64 (k75 : Int)) := (hout105 11 rfl).trans hf89
            exact OpX.val (Value.int .i64 (k75 : Int)) wd103 rfl (op_move e108) (Ext.refl _) ⟨rfl, hr90⟩
          · refine ObX.op rfl ?_
            intro f109 wd110 he111 hout112 hphi113
            have hS114 : St wd63 wd110 [] := St.extend hS91 he111
            obtain ⟨S115, hS116, hf117⟩ := hphi113 0 35 _ rfl rfl rfl
            have e118 : f109 35 = u62 := hf117
            obtain ⟨S119, hS120, hf121⟩ := hphi113 1 36 _ rfl rfl rfl
            obtain ⟨e122, hr123⟩ : f109 36 = (Value.int .i64 (k75 : Int)) ∧ InR .i64 (k75 : Int) := hf121
            exact OpX.val (Value.pointer (some (elA u62 ((k75 : Int)).toNat))) wd110 rfl (op_idx sl_65 (Ty.lift _ hS114.ext hb67) e118 e122 ha125 hb126) (Ext.refl _) rfl
          · refine ObX.op rfl ?_
            intro f128 wd129 he130 hout131 hphi132
            have hS133 : St wd63 wd129 [] := St.extend hS91 he130
            obtain ⟨S134, hS135, hf136⟩ := hphi132 2 37 _ rfl rfl rfl
            have e137 : f128 37 = (Value.pointer (some (elA u62 ((k75 : Int)).toNat))) := hf136
            exact OpX.val u138 wd129 rfl (op_load one_25 e137 (Ext.cell hS133.ext hc139)) (Ext.refl _) rfl
          · refine ObX.op rfl ?_
            intro f141 wd142 he143 hout144 hphi145
            have hS146 : St wd63 wd142 [] := St.extend hS91 he143
            have e147 : f141 9 = u43 := (hout144 9 rfl).trans hf87
            exact OpX.val u43 wd142 rfl (op_move e147) (Ext.refl _) rfl
          · refine ObX.op rfl ?_
            intro f148 wd149 he150 hout151 hphi152
            have hS153 : St wd63 wd149 [] := St.extend hS91 he150
            have e154 : f148 11 = (Value.int .i64 (k75 : Int)) := (hout151 11 rfl).trans hf89
            exact OpX.val (Value.int .i64 (k75 : Int)) wd149 rfl (op_move e154) (Ext.refl _) ⟨rfl, hr90⟩
          · refine ObX.op rfl ?_
            intro f155 wd156 he157 hout158 hphi159
            have hS160 : St wd63 wd156 [] := St.extend hS91 he157
            obtain ⟨S161, hS162, hf163⟩ := hphi159 4 39 _ rfl rfl rfl
            have e164 : f155 39 = u43 := hf163
            obtain ⟨S165, hS166, hf167⟩ := hphi159 5 40 _ rfl rfl rfl
            obtain ⟨e168, hr169⟩ : f155 40 = (Value.int .i64 (k75 : Int)) ∧ InR .i64 (k75 : Int) := hf167
            exact OpX.val (Value.pointer (some (elA u43 ((k75 : Int)).toNat))) wd156 rfl (op_idx sl_65 (Ty.lift _ (Ext.trans hE71 hS160.ext) hb48) e164 e168 ha171 hb172) (Ext.refl _) rfl
          · refine ObX.op rfl ?_
            intro f174 wd175 he176 hout177 hphi178
            have hS179 : St wd63 wd175 [] := St.extend hS91 he176
            obtain ⟨S180, hS181, hf182⟩ := hphi178 6 41 _ rfl rfl rfl
            have e183 : f174 41 = (Value.pointer (some (elA u43 ((k75 : Int)).toNat))) := hf182
            exact OpX.val u184 wd175 rfl (op_load one_25 e183 (Ext.cell (Ext.trans hE71 hS179.ext) hc185)) (Ext.refl _) rfl
          · intro f187 wd188 Ss189 he190 hout191 hSn192 hSd193 hphi194
            show WL _ _ _ _ _ _ _
            have hS195 : St wd63 wd188 [] := St.extend hS91 he190
            have e196 : f187 38 = u138 := hphi194 3 38 _ (by decide) rfl rfl
            have e197 : f187 42 = u184 := hphi194 7 42 _ (by decide) rfl rfl
            have e198 : f187 8 = (Value.int .i64 x76) := (hout191 8 rfl).trans hf85
            have e199 : f187 9 = u43 := (hout191 9 rfl).trans hf87
            have e200 : f187 10 = u62 := (hout191 10 rfl).trans hf88
            have e201 : f187 11 = (Value.int .i64 (k75 : Int)) := (hout191 11 rfl).trans hf89
            obtain ⟨x202, hx203, hb81⟩ := bs hb81
            refine WL.call _ (op_call fn_51 (args2 e196 e197)) (c_spec_l01Same (Ty.lift _ hS195.ext hr140) (Ty.lift _ (Ext.trans hE71 hS195.ext) hr186) hx203) rfl ?_
            rintro _ wd204 ⟨rfl, he205⟩
            have hS207 := St.extend hS195 he205
            replace hS207 : St wd63 wd204 [] := hS207
            refine WL.nil ?_
            show W _ _ _ _ _ _
            obtain ⟨x208, hj209, hb81⟩ := bs hb81
            refine W.cutCode (fun fq wq => fq 8 = Value.int .i64 x208 ∧ InR .i64 x208 ∧ fq 9 = u43 ∧ fq 10 = u62 ∧ fq 11 = (Value.int .i64 (k75 : Int)) ∧ St wd63 wq []) ?_ ?_
            · refine W.cond x202 rfl (fun hc210 => ?_) (fun hc210 => ?_)
              · replace hj209 := ip hj209 hc210
                refine W.region ?_
                refine WL.val (Value.int .i64 x76) _ (op_move e198) rfl ?_
                refine WL.val (Value.int .i64 (w64 (x76 + (1 : Int)))) _ (op_add rfl rfl) rfl ?_
                refine WL.val (Value.int .i64 (w64 (x76 + (1 : Int)))) _ (op_assign rfl) rfl ?_
                refine WL.nil ?_
                obtain rfl := Option.some.inj hj209
                exact ⟨rfl, (inR_wrap _ _), e199, e200, e201, hS207⟩
              · replace hj209 := inegb hj209 hc210
                refine W.skip ?_
                obtain rfl := Option.some.inj hj209
                exact ⟨e198, hr86, e199, e200, e201, hS207⟩
            · intro f211 wd212 hq213
              obtain ⟨hf214, hr215, hf216, hf217, hf218, hS219⟩ := hq213
              show W _ _ _ _ _ _
              refine W.region ?_
              refine WL.val (Value.int .i64 (k75 : Int)) _ (op_move hf218) rfl ?_
              refine WL.val (Value.int .i64 (w64 ((k75 : Int) + (1 : Int)))) _ (op_add rfl rfl) rfl ?_
              refine WL.val (Value.int .i64 (w64 ((k75 : Int) + (1 : Int)))) _ (op_assign rfl) rfl ?_
              refine WL.nil ?_
              obtain rfl := Option.some.inj hb81
              show ∃ s, _ = Ctl.next s ∧ _
              exact ⟨_, rfl, hf214, hr215, hf216, hf217, (ctr_next hl93 hr92), (ctr_rng hl93 hr92), hS219⟩
        · intro x226 f221 wd222 hs223 hI224
          replace hI224 : f221 8 = Value.int .i64 x226 ∧ InR .i64 x226 ∧ f221 9 = u43 ∧ f221 10 = u62 ∧ f221 11 = Value.int .i64 (((x60).length : Nat) : Int) ∧ InR .i64 (((x60).length : Nat) : Int) ∧ St wd63 wd222 [] := hI224
          obtain ⟨hf227, hr228, hf229, hf230, hf231, hr232, hS233⟩ := hI224
          refine W.seq (W.seq (W.region ?_))
          refine WL.val (Value.int .i64 (((x60).length : Nat) : Int)) _ (op_move hf231) rfl ?_
          refine WL.val u62 _ (op_move hf230) rfl ?_
          have hr234 := inR_len (Ty.lift _ hS233.ext hb67)
          refine WL.val (Value.int .i64 ((x60).length : Int)) _ (op_lenL sl_65 (Ty.lift _ hS233.ext hb67) rfl) rfl ?_
          refine WL.val (Value.bool (decide ((((x60).length : Nat) : Int) < ((x60).length : Int)))) _ (op_lss rfl rfl) rfl ?_
          have hl235 : ¬ (((x60).length : Nat) : Int) < ((x60).length : Int) := by omega
          refine WL.nil ?_
          show W _ _ _ _ _ _
          refine W.condF (decide ((((x60).length : Nat) : Int) < ((x60).length : Int))) rfl (decide_eq_false hl235) ?_
          refine W.exit ?_
          show _ = _ ∧ _
          exact ⟨rfl, _, hs223, hf227, hr228, hS233⟩
      · rintro f236 wd237 ⟨x240, rfl, hq238⟩
        replace h := onRes_fin h
        replace hq238 : f236 8 = Value.int .i64 x240 ∧ InR .i64 x240 ∧ St wd63 wd237 [] := hq238
        obtain ⟨hf241, hr242, hS243⟩ := hq238
        show W _ _ _ _ _ _
        refine W.seq (W.region ?_)
        refine WL.val (Value.int .i64 x240) _ (op_move hf241) rfl ?_
        refine WL.val (Value.int .i64 x240) _ (op_assign rfl) rfl ?_
        refine WL.val (Value.int .i64 (0 : Int)) _ (op_assign rfl) rfl ?_
        refine WL.nil ?_
        show W _ _ _ _ _ _
        refine W.ret ?_
        obtain rfl := Option.some.inj h
        show FinP _ _ _ _ _ _ _
        exact FinP.ret _ (res2 rfl rfl rfl) ⟨rfl, hr242, (inR_i64.2 (show (-9223372036854775808 : Int) ≤ 0 ∧ (0 : Int) ≤ 9223372036854775807 from by decide)), (Ext.trans hE68 hS243.ext)⟩

theorem c_impl_isFamily_c1 {w : World} {row : (List Int)} {v_row : Value} {b_c0 : Nat} {c0 : Int} (r_row : (Ty.sl (Ty.i .i64)).rep w v_row row) (k_c0 : BoxAt w b_c0 [(Value.int .i64 c0)]) (r_c0 : InR .i64 c0) {res : Bool} (h : p_impl_isFamily_c1 row c0 = some res) :
    Ret Try.prog 84 #[v_row, (Value.pointer (some ⟨b_c0, 0, none⟩))] w (fun v w' => v = Value.bool res ∧ Ext w w') := by
  unfold p_impl_isFamily_c1 at h
  have hS0 : St w w [] := St.start w
  refine Ret.start (fn := Try.f84) Try.func84 rfl 13 rfl rfl ?_
  refine W.seq (W.region ?_)
  refine WL.val (Value.bool false) _ (op_assign rfl) rfl ?_
  refine WL.nil ?_
  show W _ _ _ _ _ _
  refine W.seq (W.region ?_)
  refine WL.val v_row _ (op_move rfl) rfl ?_
  have hr1 := inR_len (Ty.lift _ hS0.ext r_row)
  refine WL.val (Value.int .i64 ((row).length : Int)) _ (op_lenL sl_25 (Ty.lift _ hS0.ext r_row) rfl) rfl ?_
  refine WL.val (Value.int .i64 c0) _ (op_load one_3 rfl (BoxAt.cell (BoxAt.lift hS0.ext k_c0) rfl)) rfl ?_
  refine WL.val (Value.bool (((row).length : Int) != c0)) _ (op_neq rfl rfl) rfl ?_
  refine WL.val (Value.bool (((row).length : Int) != c0)) _ (op_move rfl) rfl ?_
  obtain ⟨x3, hj4, h⟩ := bs h
  refine WL.cut 4 (fun fq wq => fq 12 = Value.bool x3 ∧ St w wq []) ?_ ?_
  · rcases Bool.eq_false_or_eq_true (((row).length : Int) != c0) with hc2 | hc2
    · replace hj4 := ip hj4 hc2
      refine WL.gskip rfl (bool_of rfl hc2) rfl ?_
      refine WL.gskip rfl (bool_of rfl hc2) rfl ?_
      refine WL.gskip rfl (bool_of rfl hc2) rfl ?_
      refine WL.val (Value.bool true) _ (op_pick_t (evb_of rfl hc2) rfl) rfl ?_
      refine WL.nil ?_
      obtain rfl := Option.some.inj hj4
      exact ⟨rfl, rfl, hS0⟩
    · replace hj4 := inegb hj4 hc2
      refine WL.grun rfl (bool_of rfl hc2) ?_
      refine WL.val v_row _ (op_move rfl) rfl ?_
      refine WL.grun rfl (bool_of rfl hc2) ?_
      obtain ⟨x8, hx9, hj4⟩ := bs hj4
      refine WL.call _ (op_call fn_76 (args3 rfl rfl rfl)) (c_impl_allWithin (Ty.lift _ hS0.ext r_row) (inR_i64.2 (show (-9223372036854775808 : Int) ≤ 0 ∧ (0 : Int) ≤ 9223372036854775807 from by decide)) (inR_i64.2 (show (-9223372036854775808 : Int) ≤ 1000 ∧ (1000 : Int) ≤ 9223372036854775807 from by decide)) hx9) rfl ?_
      rintro _ wd10 ⟨rfl, he11⟩
      have hS13 := St.extend hS0 he11
      replace hS13 : St w wd10 [] := hS13
      refine WL.grun rfl (bool_of rfl hc2) ?_
      refine WL.val (Value.bool (!x8)) _ (op_not rfl) rfl ?_
      refine WL.val (Value.bool (!x8)) _ (op_pick_f (evb_of rfl hc2) rfl) rfl ?_
      refine WL.nil ?_
      obtain rfl := Option.some.inj hj4
      exact ⟨rfl, rfl, hS13⟩
  · intro f5 wd6 hq7
    obtain ⟨hf14, hS15⟩ := hq7
    refine WL.val (Value.bool x3) _ (op_assign hf14) rfl ?_
    refine WL.nil ?_
    show W _ _ _ _ _ _
    refine W.ret ?_
    obtain rfl := Option.some.inj h
    show FinP _ _ _ _ _ _ _
    exact FinP.ret _ (res1 rfl rfl) ⟨rfl, hS15.ext⟩

theorem c_impl_isFamily {w : World} {r_Table : (List (List (List Int)))} {v_r_Table : Value} {a_Matrices : (List (List (List Int)))} {v_a_Matrices : Value} (r_r_Table : (Ty.sl (Ty.sl (Ty.sl (Ty.i .i64)))).rep w v_r_Table r_Table) (r_a_Matrices : (Ty.sl (Ty.sl (Ty.sl (Ty.i .i64)))).rep w v_a_Matrices a_Matrices) {res : Bool} (h : p_impl_isFamily r_Table a_Matrices  = some res) :
    Ret Try.prog 58 #[(Value.agg #[v_r_Table]), (Value.agg #[v_a_Matrices])] w (fun v w' => v = Value.bool res ∧ Ext w w') := by
  unfold p_impl_isFamily at h
  have hS0 : St w w [] := St.start w
  refine Ret.start (fn := Try.f58) Try.func58 rfl 43 rfl rfl ?_
  refine W.seq (W.region ?_)
  refine WL.box hS0 rfl (cs := [v_r_Table]) rfl rfl ?_
  intro b1 wd2 hS3 he4 hx5
  replace hS3 : St w wd2 [bx b1 [v_r_Table]] := hS3
  have hx6 := St.boxAt hS3 0 rfl
  have hE7 : Ext w wd2 := hS3.ext
  have hS8 : St wd2 wd2 [] := St.start wd2
  refine WL.box hS8 rfl (cs := [v_a_Matrices]) rfl rfl ?_
  intro b9 wd10 hS11 he12 hx13
  replace hS11 : St wd2 wd10 [bx b9 [v_a_Matrices]] := hS11
  have hx14 := St.boxAt hS11 0 rfl
  have hE15 : Ext w wd10 := (Ext.trans hE7 hS11.ext)
  have hE16 : Ext wd2 wd10 := hS11.ext
  have hS17 : St wd10 wd10 [] := St.start wd10
  refine WL.val (Value.bool false) _ (op_assign rfl) rfl ?_
  refine WL.nil ?_
  show W _ _ _ _ _ _
  refine W.seq (W.seq (W.region ?_))
  refine WL.val (Value.pointer (some ⟨b9, 0, none⟩)) _ (op_fieldAddr fd_42_0 rfl) rfl ?_
  refine WL.val v_a_Matrices _ (op_load one_22 rfl (BoxAt.cell (BoxAt.lift hS17.ext hx14) rfl)) rfl ?_
  have hr18 := inR_len (Ty.lift _ (Ext.trans hE15 hS17.ext) r_a_Matrices)
  refine WL.val (Value.int .i64 ((a_Matrices).length : Int)) _ (op_lenL sl_22 (Ty.lift _ (Ext.trans hE15 hS17.ext) r_a_Matrices) rfl) rfl ?_
  refine WL.val (Value.pointer (some ⟨b1, 0, none⟩)) _ (op_fieldAddr fd_29_0 rfl) rfl ?_
  refine WL.val v_r_Table _ (op_load one_22 rfl (BoxAt.cell (BoxAt.lift (Ext.trans hE16 hS17.ext) hx6) rfl)) rfl ?_
  have hr19 := inR_len (Ty.lift _ (Ext.trans hE15 hS17.ext) r_r_Table)
  refine WL.val (Value.int .i64 ((r_Table).length : Int)) _ (op_lenL sl_22 (Ty.lift _ (Ext.trans hE15 hS17.ext) r_r_Table) rfl) rfl ?_
  refine WL.val (Value.bool (((a_Matrices).length : Int) != ((r_Table).length : Int))) _ (op_neq rfl rfl) rfl ?_
  refine WL.nil ?_
  show W _ _ _ _ _ _
  refine W.cond (((a_Matrices).length : Int) != ((r_Table).length : Int)) rfl (fun hc20 => ?_) (fun hc20 => ?_)
  · replace h := ip h hc20
    refine W.seq (W.region ?_)
    refine WL.val (Value.bool false) _ (op_assign rfl) rfl ?_
    refine WL.nil ?_
    show W _ _ _ _ _ _
    refine W.ret ?_
    obtain rfl := Option.some.inj h
    show FinP _ _ _ _ _ _ _
    exact FinP.ret _ (res1 rfl rfl) ⟨rfl, (Ext.trans hE15 hS17.ext)⟩
  · replace h := inegb h hc20
    refine W.skip ?_
    show W _ _ _ _ _ _
    refine W.seq (W.region ?_)
    refine WL.val (Value.pointer (some ⟨b9, 0, none⟩)) _ (op_fieldAddr fd_42_0 rfl) rfl ?_
    refine WL.val v_a_Matrices _ (op_load one_22 rfl (BoxAt.cell (BoxAt.lift hS17.ext hx14) rfl)) rfl ?_
    obtain ⟨x22, hx25, h⟩ := bs h
    obtain ⟨ha23, hb24, hx25⟩ := idx_some hx25
    refine WL.val (Value.pointer (some (elA v_a_Matrices ((0 : Int)).toNat))) _ (op_idx sl_22 (Ty.lift _ (Ext.trans hE15 hS17.ext) r_a_Matrices) rfl rfl ha23 hb24) rfl ?_
    obtain ⟨u26, hc27, hr28⟩ := repSl.el r_a_Matrices hx25
    refine WL.val u26 _ (op_load one_65 rfl (Ext.cell (Ext.trans hE15 hS17.ext) hc27)) rfl ?_
    have hr29 := inR_len (Ty.lift _ (Ext.trans hE15 hS17.ext) hr28)
    refine WL.val (Value.int .i64 ((x22).length : Int)) _ (op_lenL sl_65 (Ty.lift _ (Ext.trans hE15 hS17.ext) hr28) rfl) rfl ?_
    refine WL.alloc hS17 ze_3 (cs := [(Value.int .i64 (0 : Int))]) rfl rfl ?_
    intro b30 wd31 hS32 he33
    replace hS32 : St wd10 wd31 [bx b30 [(Value.int .i64 (0 : Int))]] := hS32
    refine WL.storeBox [(Value.int .i64 ((x22).length : Int))] hS32 (k := 0) rfl rfl rfl (us := [(Value.int .i64 ((x22).length : Int))]) rfl sz_3 rfl rfl (all_cons rfl all_nil) rfl ?_
    intro wd34 hS35
    replace hS35 : St wd10 wd34 [bx b30 [(Value.int .i64 ((x22).length : Int))]] := hS35
    refine WL.nil ?_
    show W _ _ _ _ _ _
    refine W.seq (W.seq (W.region ?_))
    refine WL.val (Value.pointer (some ⟨b9, 0, none⟩)) _ (op_fieldAddr fd_42_0 rfl) rfl ?_
    refine WL.val v_a_Matrices _ (op_load one_22 rfl (BoxAt.cell (BoxAt.lift hS35.ext hx14) rfl)) rfl ?_
    have hr36 := inR_len (Ty.lift _ (Ext.trans hE15 hS35.ext) r_a_Matrices)
    refine WL.val (Value.int .i64 ((a_Matrices).length : Int)) _ (op_lenL sl_22 (Ty.lift _ (Ext.trans hE15 hS35.ext) r_a_Matrices) rfl) rfl ?_
    refine WL.val (Value.int .i64 (0 : Int)) _ (op_move rfl) rfl ?_
    refine WL.nil ?_
    show W _ _ _ _ _ _
    obtain ⟨res37, hres38, h⟩ := bs h
    refine W.blockLoop (fun fq wq => ∃ s, res37 = Res.fin s ∧ fq 5 = (Value.pointer (some ⟨b30, 0, none⟩)) ∧ St wd10 wq [bx b30 [(Value.int .i64 ((x22).length : Int))]]) ?_ ?_
    · refine W.forN (fun k (s : Unit) fq wq => fq 5 = (Value.pointer (some ⟨b30, 0, none⟩)) ∧ fq 21 = v_a_Matrices ∧ fq 22 = (Value.int .i64 ((a_Matrices).length : Int)) ∧ fq 23 = Value.int .i64 (k : Int) ∧ InR .i64 (k : Int) ∧ St wd10 wq [bx b30 [(Value.int .i64 ((x22).length : Int))]]) hres38 ⟨rfl, rfl, rfl, rfl, (inR_i64.2 (show (-9223372036854775808 : Int) ≤ 0 ∧ (0 : Int) ≤ 9223372036854775807 from by decide)), hS35⟩ ?_ ?_
      · intro k39 s88 ct40 f41 wd42 hk43 hb44 hI45 hbrk46 hret47
        obtain ⟨⟩ := s88
        replace hI45 : f41 5 = (Value.pointer (some ⟨b30, 0, none⟩)) ∧ f41 21 = v_a_Matrices ∧ f41 22 = (Value.int .i64 ((a_Matrices).length : Int)) ∧ f41 23 = Value.int .i64 (k39 : Int) ∧ InR .i64 (k39 : Int) ∧ St wd10 wd42 [bx b30 [(Value.int .i64 ((x22).length : Int))]] := hI45
        replace hb44 : p_impl_isFamily_L1 a_Matrices x22 k39  = some ct40 := hb44
        unfold p_impl_isFamily_L1 at hb44
        obtain ⟨hf48, hf49, hf50, hf51, hr52, hS53⟩ := hI45
        refine W.seq (W.region ?_)
        refine WL.val (Value.bool (decide ((k39 : Int) < ((a_Matrices).length : Int)))) _ (op_lss hf51 hf50) rfl ?_
        have hl54 : (k39 : Int) < ((a_Matrices).length : Int) := by omega
        refine WL.nil ?_
        show W _ _ _ _ _ _
        refine W.seq ?_
        refine W.condT (decide ((k39 : Int) < ((a_Matrices).length : Int))) rfl (decide_eq_true hl54) ?_
        refine W.skip ?_
        show W _ _ _ _ _ _
        refine W.seq ?_
        refine W.block ?_
        refine W.seq (W.region ?_)
        obtain ⟨x56, hx59, hb44⟩ := bs hb44
        obtain ⟨ha57, hb58, hx59⟩ := idx_some hx59
        refine WL.val (Value.pointer (some (elA v_a_Matrices ((k39 : Int)).toNat))) _ (op_idx sl_22 (Ty.lift _ (Ext.trans hE15 hS53.ext) r_a_Matrices) hf49 hf51 ha57 hb58) rfl ?_
        obtain ⟨u60, hc61, hr62⟩ := repSl.el r_a_Matrices hx59
        refine WL.val u60 _ (op_load one_65 rfl (Ext.cell (Ext.trans hE15 hS53.ext) hc61)) rfl ?_
        refine WL.val u60 _ (op_assign rfl) rfl ?_
        refine WL.nil ?_
        show W _ _ _ _ _ _
        refine W.seq (W.region ?_)
        refine WL.val u60 _ (op_move rfl) rfl ?_
        have hr63 := inR_len (Ty.lift _ (Ext.trans hE15 hS53.ext) hr62)
        refine WL.val (Value.int .i64 ((x56).length : Int)) _ (op_lenL sl_65 (Ty.lift _ (Ext.trans hE15 hS53.ext) hr62) rfl) rfl ?_
        refine WL.val (Value.int .i64 ((x22).length : Int)) _ (op_load one_3 hf48 (BoxAt.cell (St.boxAt hS53 0 rfl) rfl)) rfl ?_
        refine WL.val (Value.bool (((x56).length : Int) != ((x22).length : Int))) _ (op_neq rfl rfl) rfl ?_
        refine WL.val (Value.bool (((x56).length : Int) != ((x22).length : Int))) _ (op_move rfl) rfl ?_
        obtain ⟨x65, hj66, hb44⟩ := bs hb44
        refine WL.cut 4 (fun fq wq => fq 5 = (Value.pointer (some ⟨b30, 0, none⟩)) ∧ fq 21 = v_a_Matrices ∧ fq 22 = (Value.int .i64 ((a_Matrices).length : Int)) ∧ fq 23 = (Value.int .i64 (k39 : Int)) ∧ fq 35 = Value.bool x65 ∧ St wd10 wq [bx b30 [(Value.int .i64 ((x22).length : Int))]]) ?_ ?_
        · rcases Bool.eq_false_or_eq_true (((x56).length : Int) != ((x22).length : Int)) with hc64 | hc64
          · replace hj66 := ip hj66 hc64
            refine WL.gskip rfl (bool_of rfl hc64) rfl ?_
            refine WL.gskip rfl (bool_of rfl hc64) rfl ?_
            refine WL.gskip rfl (bool_of rfl hc64) rfl ?_
            refine WL.val (Value.bool true) _ (op_pick_t (evb_of rfl hc64) rfl) rfl ?_
            refine WL.nil ?_
            obtain rfl := Option.some.inj hj66
            exact ⟨rfl, hf48, hf49, hf50, hf51, rfl, hS53⟩
          · replace hj66 := inegb hj66 hc64
            refine WL.grun rfl (bool_of rfl hc64) ?_
            refine WL.val u60 _ (op_move rfl) rfl ?_
            refine WL.grun rfl (bool_of rfl hc64) ?_
            refine WL.val (Value.func (.func 84) #[] #[(Value.pointer (some ⟨b30, 0, none⟩))]) _ (op_makeFunc (va := #[]) (vb := #[(Value.pointer (some ⟨b30, 0, none⟩))]) args0 (args1 hf48)) rfl ?_
            refine WL.grun rfl (bool_of rfl hc64) ?_
            obtain ⟨x74, hx75, hj66⟩ := bs hj66
            refine WL.call _ (op_call fn_83 (args2 rfl rfl)) (c_slices_ContainsFunc_LLint64_Lint64 (Ty.lift _ (Ext.trans hE15 hS53.ext) hr62) (⟨84, #[], #[(Value.pointer (some ⟨b30, 0, none⟩))], rfl, fn_84, fun wd70 u0_71 a0_71 r72 he71 ra0_71 hq73 => c_impl_isFamily_c1 ra0_71 (BoxAt.lift he71 (St.boxAt hS53 0 rfl)) hr29 hq73⟩) hx75) rfl ?_
            rintro _ wd76 ⟨rfl, he77⟩
            have hS79 := St.extend hS53 he77
            replace hS79 : St wd10 wd76 [bx b30 [(Value.int .i64 ((x22).length : Int))]] := hS79
            refine WL.val (Value.bool x74) _ (op_pick_f (evb_of rfl hc64) rfl) rfl ?_
            refine WL.nil ?_
            obtain rfl := Option.some.inj hj66
            exact ⟨rfl, hf48, hf49, hf50, hf51, rfl, hS79⟩
        · intro f67 wd68 hq69
          obtain ⟨hf80, hf81, hf82, hf83, hf84, hS85⟩ := hq69
          refine WL.nil ?_
          show W _ _ _ _ _ _
          refine W.cond x65 hf84 (fun hc86 => ?_) (fun hc86 => ?_)
          · replace hb44 := ip hb44 hc86
            refine W.seq (W.region ?_)
            refine WL.val (Value.bool false) _ (op_assign rfl) rfl ?_
            refine WL.nil ?_
            show W _ _ _ _ _ _
            refine W.ret ?_
            obtain rfl := Option.some.inj hb44
            obtain rfl := hret47 _ rfl
            replace h := onRes_ret h
            obtain rfl := Option.some.inj h
            show FinP _ _ _ _ _ _ _
            exact FinP.ret _ (res1 rfl rfl) ⟨rfl, (Ext.trans hE15 hS85.ext)⟩
          · replace hb44 := inegb hb44 hc86
            refine W.skip ?_
            show W _ _ _ _ _ _
            refine W.region ?_
            refine WL.val (Value.int .i64 (w64 ((k39 : Int) + (1 : Int)))) _ (op_add hf83 rfl) rfl ?_
            refine WL.val (Value.int .i64 (w64 ((k39 : Int) + (1 : Int)))) _ (op_move rfl) rfl ?_
            refine WL.nil ?_
            obtain rfl := Option.some.inj hb44
            show ∃ s, _ = Ctl.next s ∧ _
            exact ⟨_, rfl, hf80, hf81, hf82, (ctr_next hl54 hr36), (ctr_rng hl54 hr36), hS85⟩
      · intro s93 f89 wd90 hs91 hI92
        obtain ⟨⟩ := s93
        replace hI92 : f89 5 = (Value.pointer (some ⟨b30, 0, none⟩)) ∧ f89 21 = v_a_Matrices ∧ f89 22 = (Value.int .i64 ((a_Matrices).length : Int)) ∧ f89 23 = Value.int .i64 (((a_Matrices).length : Nat) : Int) ∧ InR .i64 (((a_Matrices).length : Nat) : Int) ∧ St wd10 wd90 [bx b30 [(Value.int .i64 ((x22).length : Int))]] := hI92
        obtain ⟨hf94, hf95, hf96, hf97, hr98, hS99⟩ := hI92
        refine W.seq (W.region ?_)
        refine WL.val (Value.bool (decide ((((a_Matrices).length : Nat) : Int) < ((a_Matrices).length : Int)))) _ (op_lss hf97 hf96) rfl ?_
        have hl100 : ¬ (((a_Matrices).length : Nat) : Int) < ((a_Matrices).length : Int) := by omega
        refine WL.nil ?_
        show W _ _ _ _ _ _
        refine W.seq ?_
        refine W.condF (decide ((((a_Matrices).length : Nat) : Int) < ((a_Matrices).length : Int))) rfl (decide_eq_false hl100) ?_
        refine W.exit ?_
        show _ = _ ∧ _
        exact ⟨rfl, _, hs91, hf94, hS99⟩
    · rintro f101 wd102 ⟨s104, rfl, hq103⟩
      replace h := onRes_fin h
      obtain ⟨⟩ := s104
      replace hq103 : f101 5 = (Value.pointer (some ⟨b30, 0, none⟩)) ∧ St wd10 wd102 [bx b30 [(Value.int .i64 ((x22).length : Int))]] := hq103
      obtain ⟨hf105, hS106⟩ := hq103
      show W _ _ _ _ _ _
      refine W.seq (W.region ?_)
      refine WL.val (Value.int .i64 ((x22).length : Int)) _ (op_load one_3 hf105 (BoxAt.cell (St.boxAt hS106 0 rfl) rfl)) rfl ?_
      refine WL.val (Value.bool (decide (((x22).length : Int) ≥ (1 : Int)))) _ (op_geq rfl rfl) rfl ?_
      refine WL.val (Value.bool (decide (((x22).length : Int) ≥ (1 : Int)))) _ (op_move rfl) rfl ?_
      refine WL.cut 3 (fun fq wq => fq 42 = (Value.bool ((decide (((x22).length : Int) ≥ (1 : Int))) && (decide (((x22).length : Int) ≤ (16 : Int))))) ∧ St wd10 wq []) ?_ ?_
      · rcases Bool.eq_false_or_eq_true (decide (((x22).length : Int) ≥ (1 : Int))) with hc107 | hc107
        · refine WL.grun rfl (bool_of rfl hc107) ?_
          refine WL.val (Value.int .i64 ((x22).length : Int)) _ (op_load one_3 hf105 (BoxAt.cell (St.boxAt hS106 0 rfl) rfl)) rfl ?_
          refine WL.grun rfl (bool_of rfl hc107) ?_
          refine WL.val (Value.bool (decide (((x22).length : Int) ≤ (16 : Int)))) _ (op_leq rfl rfl) rfl ?_
          refine WL.val (Value.bool (decide (((x22).length : Int) ≤ (16 : Int)))) _ (op_pick_t (evb_of rfl hc107) rfl) rfl ?_
          refine WL.nil ?_
          exact ⟨rfl, (andT hc107), (St.pick hS106 [] rfl)⟩
        · refine WL.gskip rfl (bool_of rfl hc107) rfl ?_
          refine WL.gskip rfl (bool_of rfl hc107) rfl ?_
          refine WL.val (Value.bool false) _ (op_pick_f (evb_of rfl hc107) rfl) rfl ?_
          refine WL.nil ?_
          exact ⟨rfl, (andF hc107), (St.pick hS106 [] rfl)⟩
      · intro f108 wd109 hq110
        obtain ⟨hf111, hS112⟩ := hq110
        refine WL.val (Value.bool ((decide (((x22).length : Int) ≥ (1 : Int))) && (decide (((x22).length : Int) ≤ (16 : Int))))) _ (op_assign hf111) rfl ?_
        refine WL.nil ?_
        show W _ _ _ _ _ _
        refine W.ret ?_
        obtain rfl := Option.some.inj h
        show FinP _ _ _ _ _ _ _
        exact FinP.ret _ (res1 rfl rfl) ⟨rfl, (Ext.trans hE15 hS112.ext)⟩

end Go.VG
