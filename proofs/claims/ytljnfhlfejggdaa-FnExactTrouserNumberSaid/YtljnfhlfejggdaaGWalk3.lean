/- The walks, part 3: each Go function returns what its plain twin returns. No condition beyond what each names. -/
import Derived.Test.YtljnfhlfejggdaaGWalk2
set_option linter.all false
namespace Go.VG
open Go.Proofs
attribute [local irreducible] W WL Sep FinP

theorem c_slices_EqualFunc_LLint64_LLint64_Lint64_Lint64 {w : World} {s1 : (List (List Int))} {v_s1 : Value} {s2 : (List (List Int))} {v_s2 : Value} {eq : (List Int) → (List Int) → Option Bool} {v_eq : Value} (r_s1 : (Ty.sl (Ty.sl (Ty.i .i64))).rep w v_s1 s1) (r_s2 : (Ty.sl (Ty.sl (Ty.i .i64))).rep w v_s2 s2) (r_eq : FnT_li_li_to_b Try.prog v_eq w eq) {res : Bool} (h : p_slices_EqualFunc_LLint64_LLint64_Lint64_Lint64 s1 s2 eq  = some res) :
    Ret Try.prog 148 #[v_s1, v_s2, v_eq] w (fun v w' => v = Value.bool res ∧ Ext w w') := by
  unfold p_slices_EqualFunc_LLint64_LLint64_Lint64_Lint64 at h
  have hS0 : St w w [] := St.start w
  have q_eq := r_eq
  obtain ⟨g_eq, fst_eq, cap_eq, eq_eq, ok_eq, call_eq⟩ := q_eq
  subst eq_eq
  refine Ret.start (fn := Try.f148) Try.func148 rfl 32 rfl rfl ?_
  refine W.seq ?_
  refine W.region ?_
  refine WL.val (Value.bool false) _ (op_assign rfl) rfl ?_
  refine WL.nil ?_
  show W _ _ _ _ _ _
  refine W.seq ?_
  refine W.seq ?_
  refine W.region ?_
  refine WL.val v_s1 _ (op_move rfl) rfl ?_
  have hr1 := inR_len (Ty.lift _ hS0.ext r_s1)
  refine WL.val (Value.int .i64 ((s1).length : Int)) _ (op_lenL sl_22 (Ty.lift _ hS0.ext r_s1) rfl) rfl ?_
  refine WL.val v_s2 _ (op_move rfl) rfl ?_
  have hr2 := inR_len (Ty.lift _ hS0.ext r_s2)
  refine WL.val (Value.int .i64 ((s2).length : Int)) _ (op_lenL sl_22 (Ty.lift _ hS0.ext r_s2) rfl) rfl ?_
  refine WL.val (Value.bool (((s1).length : Int) != ((s2).length : Int))) _ (op_neq rfl rfl) rfl ?_
  refine WL.nil ?_
  show W _ _ _ _ _ _
  refine W.cond (((s1).length : Int) != ((s2).length : Int)) rfl (fun hc3 => ?_) (fun hc3 => ?_)
  · replace h := ip h hc3
    refine W.seq ?_
    refine W.region ?_
    refine WL.val (Value.bool false) _ (op_assign rfl) rfl ?_
    refine WL.nil ?_
    show W _ _ _ _ _ _
    refine W.ret ?_
    obtain rfl := Option.some.inj h
    show FinP _ _ _ _ _ _ _
    exact FinP.ret _ (res1 rfl rfl) ⟨rfl, hS0.ext⟩
  · replace h := inegb h hc3
    refine W.skip ?_
    show W _ _ _ _ _ _
    refine W.seq ?_
    refine W.seq ?_
    refine W.region ?_
    refine WL.val v_s1 _ (op_move rfl) rfl ?_
    have hr5 := inR_len (Ty.lift _ hS0.ext r_s1)
    refine WL.val (Value.int .i64 ((s1).length : Int)) _ (op_lenL sl_22 (Ty.lift _ hS0.ext r_s1) rfl) rfl ?_
    refine WL.val (Value.int .i64 (0 : Int)) _ (op_move rfl) rfl ?_
    refine WL.nil ?_
    show W _ _ _ _ _ _
    obtain ⟨res6, hres7, h⟩ := bs h
    refine W.blockLoop (fun fq wq => ∃ s, res6 = Res.fin s ∧ St w wq []) ?_ ?_
    · refine W.forN (fun k (s : Unit) fq wq => fq 1 = v_s2 ∧ fq 2 = (Value.func (.func g_eq) fst_eq cap_eq) ∧ fq 15 = v_s1 ∧ fq 16 = (Value.int .i64 ((s1).length : Int)) ∧ fq 17 = Value.int .i64 (k : Int) ∧ InR .i64 (k : Int) ∧ St w wq []) hres7 ⟨rfl, rfl, rfl, rfl, rfl, (inR_i64.2 (show (-9223372036854775808 : Int) ≤ 0 ∧ (0 : Int) ≤ 9223372036854775807 from by decide)), hS0⟩ ?_ ?_
      · intro k8 s48 ct9 f10 wd11 hk12 hb13 hI14 hbrk15 hret16
        obtain ⟨⟩ := s48
        replace hI14 : f10 1 = v_s2 ∧ f10 2 = (Value.func (.func g_eq) fst_eq cap_eq) ∧ f10 15 = v_s1 ∧ f10 16 = (Value.int .i64 ((s1).length : Int)) ∧ f10 17 = Value.int .i64 (k8 : Int) ∧ InR .i64 (k8 : Int) ∧ St w wd11 [] := hI14
        replace hb13 : p_slices_EqualFunc_LLint64_LLint64_Lint64_Lint64_L1 s1 s2 eq k8  = some ct9 := hb13
        unfold p_slices_EqualFunc_LLint64_LLint64_Lint64_Lint64_L1 at hb13
        obtain ⟨hf17, hf18, hf19, hf20, hf21, hr22, hS23⟩ := hI14
        refine W.seq ?_
        refine W.region ?_
        refine WL.val (Value.bool (decide ((k8 : Int) < ((s1).length : Int)))) _ (op_lss hf21 hf20) rfl ?_
        have hl24 : (k8 : Int) < ((s1).length : Int) := by omega
        refine WL.nil ?_
        show W _ _ _ _ _ _
        refine W.seq ?_
        refine W.condT (decide ((k8 : Int) < ((s1).length : Int))) rfl (decide_eq_true hl24) ?_
        refine W.skip ?_
        show W _ _ _ _ _ _
        refine W.seq ?_
        refine W.block ?_
        refine W.seq ?_
        refine W.region ?_
        refine WL.val (Value.int .i64 (k8 : Int)) _ (op_move hf21) rfl ?_
        obtain ⟨x26, hx29, hb13⟩ := bs hb13
        obtain ⟨ha27, hb28, hx29⟩ := idx_some hx29
        refine WL.val (Value.pointer (some (elA v_s1 ((k8 : Int)).toNat))) _ (op_idx sl_22 (Ty.lift _ hS23.ext r_s1) hf19 hf21 ha27 hb28) rfl ?_
        obtain ⟨u30, hc31, hr32⟩ := repSl.el r_s1 hx29
        refine WL.val u30 _ (op_load one_23 rfl (Ext.cell hS23.ext hc31)) rfl ?_
        refine WL.val (Value.int .i64 (k8 : Int)) _ (op_assign rfl) rfl ?_
        refine WL.val u30 _ (op_assign rfl) rfl ?_
        refine WL.nil ?_
        show W _ _ _ _ _ _
        refine W.seq ?_
        refine W.region ?_
        refine WL.val v_s2 _ (op_move hf17) rfl ?_
        refine WL.val (Value.int .i64 (k8 : Int)) _ (op_move rfl) rfl ?_
        obtain ⟨x33, hx36, hb13⟩ := bs hb13
        obtain ⟨ha34, hb35, hx36⟩ := idx_some hx36
        refine WL.val (Value.pointer (some (elA v_s2 ((k8 : Int)).toNat))) _ (op_idx sl_22 (Ty.lift _ hS23.ext r_s2) rfl rfl ha34 hb35) rfl ?_
        obtain ⟨u37, hc38, hr39⟩ := repSl.el r_s2 hx36
        refine WL.val u37 _ (op_load one_23 rfl (Ext.cell hS23.ext hc38)) rfl ?_
        refine WL.val u37 _ (op_assign rfl) rfl ?_
        refine WL.nil ?_
        show W _ _ _ _ _ _
        refine W.seq ?_
        refine W.region ?_
        refine WL.val (Value.func (.func g_eq) fst_eq cap_eq) _ (op_move hf18) rfl ?_
        refine WL.val u30 _ (op_move rfl) rfl ?_
        refine WL.val u37 _ (op_move rfl) rfl ?_
        obtain ⟨x40, hx41, hb13⟩ := bs hb13
        refine WL.call _ (op_callV rfl ok_eq (args2 rfl rfl)) (call_eq wd11 u30 x26 u37 x33 x40 hS23.ext (Ty.lift _ hS23.ext hr32) (Ty.lift _ hS23.ext hr39) hx41) rfl ?_
        rintro _ wd42 ⟨rfl, he43⟩
        have hS45 := St.extend hS23 he43
        refine WL.val (Value.bool (!x40)) _ (op_not rfl) rfl ?_
        refine WL.nil ?_
        show W _ _ _ _ _ _
        refine W.cond (!x40) rfl (fun hc46 => ?_) (fun hc46 => ?_)
        · replace hb13 := ip hb13 hc46
          refine W.seq ?_
          refine W.region ?_
          refine WL.val (Value.bool false) _ (op_assign rfl) rfl ?_
          refine WL.nil ?_
          show W _ _ _ _ _ _
          refine W.ret ?_
          obtain rfl := Option.some.inj hb13
          obtain rfl := hret16 _ rfl
          replace h := onRes_ret h
          obtain rfl := Option.some.inj h
          show FinP _ _ _ _ _ _ _
          exact FinP.ret _ (res1 rfl rfl) ⟨rfl, hS45.ext⟩
        · replace hb13 := inegb hb13 hc46
          refine W.skip ?_
          show W _ _ _ _ _ _
          refine W.region ?_
          refine WL.val (Value.int .i64 (w64 ((k8 : Int) + (1 : Int)))) _ (op_add hf21 rfl) rfl ?_
          refine WL.val (Value.int .i64 (w64 ((k8 : Int) + (1 : Int)))) _ (op_move rfl) rfl ?_
          refine WL.nil ?_
          obtain rfl := Option.some.inj hb13
          show ∃ s, _ = Ctl.next s ∧ _
          exact ⟨_, rfl, hf17, hf18, hf19, hf20, (ctr_next hl24 hr5), (ctr_rng hl24 hr5), hS45⟩
      · intro s53 f49 wd50 hs51 hI52
        obtain ⟨⟩ := s53
        replace hI52 : f49 1 = v_s2 ∧ f49 2 = (Value.func (.func g_eq) fst_eq cap_eq) ∧ f49 15 = v_s1 ∧ f49 16 = (Value.int .i64 ((s1).length : Int)) ∧ f49 17 = Value.int .i64 (((s1).length : Nat) : Int) ∧ InR .i64 (((s1).length : Nat) : Int) ∧ St w wd50 [] := hI52
        obtain ⟨hf54, hf55, hf56, hf57, hf58, hr59, hS60⟩ := hI52
        refine W.seq ?_
        refine W.region ?_
        refine WL.val (Value.bool (decide ((((s1).length : Nat) : Int) < ((s1).length : Int)))) _ (op_lss hf58 hf57) rfl ?_
        have hl61 : ¬ (((s1).length : Nat) : Int) < ((s1).length : Int) := by omega
        refine WL.nil ?_
        show W _ _ _ _ _ _
        refine W.seq ?_
        refine W.condF (decide ((((s1).length : Nat) : Int) < ((s1).length : Int))) rfl (decide_eq_false hl61) ?_
        refine W.exit ?_
        show _ = _ ∧ _
        exact ⟨rfl, _, hs51, hS60⟩
    · rintro f62 wd63 ⟨s65, rfl, hq64⟩
      replace h := onRes_fin h
      obtain ⟨⟩ := s65
      replace hq64 : St w wd63 [] := hq64
      have hS66 := hq64
      show W _ _ _ _ _ _
      refine W.seq ?_
      refine W.region ?_
      refine WL.val (Value.bool true) _ (op_assign rfl) rfl ?_
      refine WL.nil ?_
      show W _ _ _ _ _ _
      refine W.ret ?_
      obtain rfl := Option.some.inj h
      show FinP _ _ _ _ _ _ _
      exact FinP.ret _ (res1 rfl rfl) ⟨rfl, hS66.ext⟩

theorem c_slices_Equal_Lint64_int64 {w : World} {s1 : (List Int)} {v_s1 : Value} {s2 : (List Int)} {v_s2 : Value} (r_s1 : (Ty.sl (Ty.i .i64)).rep w v_s1 s1) (r_s2 : (Ty.sl (Ty.i .i64)).rep w v_s2 s2) {res : Bool} (h : p_slices_Equal_Lint64_int64 s1 s2  = some res) :
    Ret Try.prog 149 #[v_s1, v_s2] w (fun v w' => v = Value.bool res ∧ Ext w w') := by
  unfold p_slices_Equal_Lint64_int64 at h
  have hS0 : St w w [] := St.start w
  refine Ret.start (fn := Try.f149) Try.func149 rfl 26 rfl rfl ?_
  refine W.seq ?_
  refine W.region ?_
  refine WL.val (Value.bool false) _ (op_assign rfl) rfl ?_
  refine WL.nil ?_
  show W _ _ _ _ _ _
  refine W.seq ?_
  refine W.seq ?_
  refine W.region ?_
  refine WL.val v_s1 _ (op_move rfl) rfl ?_
  have hr1 := inR_len (Ty.lift _ hS0.ext r_s1)
  refine WL.val (Value.int .i64 ((s1).length : Int)) _ (op_lenL sl_23 (Ty.lift _ hS0.ext r_s1) rfl) rfl ?_
  refine WL.val v_s2 _ (op_move rfl) rfl ?_
  have hr2 := inR_len (Ty.lift _ hS0.ext r_s2)
  refine WL.val (Value.int .i64 ((s2).length : Int)) _ (op_lenL sl_23 (Ty.lift _ hS0.ext r_s2) rfl) rfl ?_
  refine WL.val (Value.bool (((s1).length : Int) != ((s2).length : Int))) _ (op_neq rfl rfl) rfl ?_
  refine WL.nil ?_
  show W _ _ _ _ _ _
  refine W.cond (((s1).length : Int) != ((s2).length : Int)) rfl (fun hc3 => ?_) (fun hc3 => ?_)
  · replace h := ip h hc3
    refine W.seq ?_
    refine W.region ?_
    refine WL.val (Value.bool false) _ (op_assign rfl) rfl ?_
    refine WL.nil ?_
    show W _ _ _ _ _ _
    refine W.ret ?_
    obtain rfl := Option.some.inj h
    show FinP _ _ _ _ _ _ _
    exact FinP.ret _ (res1 rfl rfl) ⟨rfl, hS0.ext⟩
  · replace h := inegb h hc3
    refine W.skip ?_
    show W _ _ _ _ _ _
    refine W.seq ?_
    refine W.seq ?_
    refine W.region ?_
    refine WL.val v_s1 _ (op_move rfl) rfl ?_
    have hr5 := inR_len (Ty.lift _ hS0.ext r_s1)
    refine WL.val (Value.int .i64 ((s1).length : Int)) _ (op_lenL sl_23 (Ty.lift _ hS0.ext r_s1) rfl) rfl ?_
    refine WL.val (Value.int .i64 (0 : Int)) _ (op_move rfl) rfl ?_
    refine WL.nil ?_
    show W _ _ _ _ _ _
    obtain ⟨res6, hres7, h⟩ := bs h
    refine W.blockLoop (fun fq wq => ∃ s, res6 = Res.fin s ∧ St w wq []) ?_ ?_
    · refine W.forN (fun k (s : Unit) fq wq => fq 0 = v_s1 ∧ fq 1 = v_s2 ∧ fq 12 = (Value.int .i64 ((s1).length : Int)) ∧ fq 13 = Value.int .i64 (k : Int) ∧ InR .i64 (k : Int) ∧ St w wq []) hres7 ⟨rfl, rfl, rfl, rfl, (inR_i64.2 (show (-9223372036854775808 : Int) ≤ 0 ∧ (0 : Int) ≤ 9223372036854775807 from by decide)), hS0⟩ ?_ ?_
      · intro k8 s115 ct9 f10 wd11 hk12 hb13 hI14 hbrk15 hret16
        obtain ⟨⟩ := s115
        replace hI14 : f10 0 = v_s1 ∧ f10 1 = v_s2 ∧ f10 12 = (Value.int .i64 ((s1).length : Int)) ∧ f10 13 = Value.int .i64 (k8 : Int) ∧ InR .i64 (k8 : Int) ∧ St w wd11 [] := hI14
        replace hb13 : p_slices_Equal_Lint64_int64_L1 s1 s2 k8  = some ct9 := hb13
        unfold p_slices_Equal_Lint64_int64_L1 at hb13
        obtain ⟨hf17, hf18, hf19, hf20, hr21, hS22⟩ := hI14
        refine W.seq ?_
        refine W.region ?_
        refine WL.val (Value.bool (decide ((k8 : Int) < ((s1).length : Int)))) _ (op_lss hf20 hf19) rfl ?_
        have hl23 : (k8 : Int) < ((s1).length : Int) := by omega
        refine WL.nil ?_
        show W _ _ _ _ _ _
        refine W.seq ?_
        refine W.condT (decide ((k8 : Int) < ((s1).length : Int))) rfl (decide_eq_true hl23) ?_
        refine W.skip ?_
        show W _ _ _ _ _ _
        refine W.seq ?_
        refine W.block ?_
        refine W.seq ?_
        refine W.region ?_
        refine WL.val (Value.int .i64 (k8 : Int)) _ (op_move hf20) rfl ?_
        refine WL.val (Value.int .i64 (k8 : Int)) _ (op_assign rfl) rfl ?_
        refine WL.nil ?_
        show W _ _ _ _ _ _
        refine W.seq ?_
        obtain ⟨x48, hx51, hb13⟩ := bs hb13
        obtain ⟨ha49, hb50, hx51⟩ := idx_some hx51
        obtain ⟨u59, hc60, hr61⟩ := repSl.el r_s1 hx51
        obtain ⟨rfl, hr61⟩ := hr61
        obtain ⟨x85, hx88, hb13⟩ := bs hb13
        obtain ⟨ha86, hb87, hx88⟩ := idx_some hx88
        obtain ⟨u96, hc97, hr98⟩ := repSl.el r_s2 hx88
        obtain ⟨rfl, hr98⟩ := hr98
        refine W.draw mixo 8 [fun v _ => v = v_s1, fun v _ => v = (Value.int .i64 (k8 : Int)) ∧ InR .i64 (k8 : Int), fun v _ => v = (Value.pointer (some (elA v_s1 ((k8 : Int)).toNat))), fun v _ => v = (Value.int .i64 x48) ∧ InR .i64 x48, fun v _ => v = v_s2, fun v _ => v = (Value.int .i64 (k8 : Int)) ∧ InR .i64 (k8 : Int), fun v _ => v = (Value.pointer (some (elA v_s2 ((k8 : Int)).toNat))), fun v _ => v = (Value.int .i64 x85) ∧ InR .i64 x85] (by kernel_rfl) (by kernel_rfl) (stabL ⟨(fun _ _ _ _ h => h), (fun _ _ _ _ h => h), (fun _ _ _ _ h => h), (fun _ _ _ _ h => h), (fun _ _ _ _ h => h), (fun _ _ _ _ h => h), (fun _ _ _ _ h => h), (fun _ _ _ _ h => h), trivial⟩) ⟨?_, ?_, ?_, ?_, ?_, ?_, ?_, ?_, trivial⟩ ?_
        · intro f25 wd26 he27 hout28 hphi29
          have hS30 : St w wd26 [] := St.extend hS22 he27
          have e31 : f25 0 = v_s1 := (hout28 0 rfl).trans hf17
          exact OpY.val v_s1 wd26 rfl (op_move e31) (Ext.refl _) rfl
        · intro f32 wd33 he34 hout35 hphi36
          have hS37 : St w wd33 [] := St.extend hS22 he34
          have e38 : f32 5 = (Value.int .i64 (k8 : Int)) := (hout35 5 rfl).trans rfl
          exact OpY.val (Value.int .i64 (k8 : Int)) wd33 rfl (op_move e38) (Ext.refl _) ⟨rfl, hr21⟩
        · intro f39 wd40 he41 hout42 hphi43
          have hS44 : St w wd40 [] := St.extend hS22 he41
          have e45 : f39 16 = v_s1 := hphi43 0 16 _ rfl rfl rfl
          obtain ⟨e46, hr47⟩ : f39 17 = (Value.int .i64 (k8 : Int)) ∧ InR .i64 (k8 : Int) := hphi43 1 17 _ rfl rfl rfl
          exact OpY.val (Value.pointer (some (elA v_s1 ((k8 : Int)).toNat))) wd40 rfl (op_idx sl_23 (Ty.lift _ hS44.ext r_s1) e45 e46 ha49 hb50) (Ext.refl _) rfl
        · intro f52 wd53 he54 hout55 hphi56
          have hS57 : St w wd53 [] := St.extend hS22 he54
          have e58 : f52 18 = (Value.pointer (some (elA v_s1 ((k8 : Int)).toNat))) := hphi56 2 18 _ rfl rfl rfl
          exact OpY.val (Value.int .i64 x48) wd53 rfl (op_load one_2 e58 (Ext.cell hS57.ext hc60)) (Ext.refl _) ⟨rfl, hr61⟩
        · intro f62 wd63 he64 hout65 hphi66
          have hS67 : St w wd63 [] := St.extend hS22 he64
          have e68 : f62 1 = v_s2 := (hout65 1 rfl).trans hf18
          exact OpY.val v_s2 wd63 rfl (op_move e68) (Ext.refl _) rfl
        · intro f69 wd70 he71 hout72 hphi73
          have hS74 : St w wd70 [] := St.extend hS22 he71
          have e75 : f69 5 = (Value.int .i64 (k8 : Int)) := (hout72 5 rfl).trans rfl
          exact OpY.val (Value.int .i64 (k8 : Int)) wd70 rfl (op_move e75) (Ext.refl _) ⟨rfl, hr21⟩
        · intro f76 wd77 he78 hout79 hphi80
          have hS81 : St w wd77 [] := St.extend hS22 he78
          have e82 : f76 20 = v_s2 := hphi80 4 20 _ rfl rfl rfl
          obtain ⟨e83, hr84⟩ : f76 21 = (Value.int .i64 (k8 : Int)) ∧ InR .i64 (k8 : Int) := hphi80 5 21 _ rfl rfl rfl
          exact OpY.val (Value.pointer (some (elA v_s2 ((k8 : Int)).toNat))) wd77 rfl (op_idx sl_23 (Ty.lift _ hS81.ext r_s2) e82 e83 ha86 hb87) (Ext.refl _) rfl
        · intro f89 wd90 he91 hout92 hphi93
          have hS94 : St w wd90 [] := St.extend hS22 he91
          have e95 : f89 22 = (Value.pointer (some (elA v_s2 ((k8 : Int)).toNat))) := hphi93 6 22 _ rfl rfl rfl
          exact OpY.val (Value.int .i64 x85) wd90 rfl (op_load one_2 e95 (Ext.cell hS94.ext hc97)) (Ext.refl _) ⟨rfl, hr98⟩
        · intro f99 wd100 he101 hout102 hphi103
          show WL _ _ _ _ _ _ _
          have hS104 : St w wd100 [] := St.extend hS22 he101
          obtain ⟨e105, hr106⟩ : f99 19 = (Value.int .i64 x48) ∧ InR .i64 x48 := hphi103 3 19 _ (by decide) rfl rfl
          obtain ⟨e107, hr108⟩ : f99 23 = (Value.int .i64 x85) ∧ InR .i64 x85 := hphi103 7 23 _ (by decide) rfl rfl
          have e109 : f99 0 = v_s1 := (hout102 0 rfl).trans hf17
          have e110 : f99 1 = v_s2 := (hout102 1 rfl).trans hf18
          have e111 : f99 12 = (Value.int .i64 ((s1).length : Int)) := (hout102 12 rfl).trans hf19
          have e112 : f99 13 = (Value.int .i64 (k8 : Int)) := (hout102 13 rfl).trans hf20
          refine WL.val (Value.bool (x48 != x85)) _ (op_neq e105 e107) rfl ?_
          refine WL.nil ?_
          show W _ _ _ _ _ _
          refine W.cond (x48 != x85) rfl (fun hc113 => ?_) (fun hc113 => ?_)
          · replace hb13 := ip hb13 hc113
            refine W.seq ?_
            refine W.region ?_
            refine WL.val (Value.bool false) _ (op_assign rfl) rfl ?_
            refine WL.nil ?_
            show W _ _ _ _ _ _
            refine W.ret ?_
            obtain rfl := Option.some.inj hb13
            obtain rfl := hret16 _ rfl
            replace h := onRes_ret h
            obtain rfl := Option.some.inj h
            show FinP _ _ _ _ _ _ _
            exact FinP.ret _ (res1 rfl rfl) ⟨rfl, hS104.ext⟩
          · replace hb13 := inegb hb13 hc113
            refine W.skip ?_
            show W _ _ _ _ _ _
            refine W.region ?_
            refine WL.val (Value.int .i64 (w64 ((k8 : Int) + (1 : Int)))) _ (op_add e112 rfl) rfl ?_
            refine WL.val (Value.int .i64 (w64 ((k8 : Int) + (1 : Int)))) _ (op_move rfl) rfl ?_
            refine WL.nil ?_
            obtain rfl := Option.some.inj hb13
            show ∃ s, _ = Ctl.next s ∧ _
            exact ⟨_, rfl, e109, e110, e111, (ctr_next hl23 hr5), (ctr_rng hl23 hr5), hS104⟩
      · intro s120 f116 wd117 hs118 hI119
        obtain ⟨⟩ := s120
        replace hI119 : f116 0 = v_s1 ∧ f116 1 = v_s2 ∧ f116 12 = (Value.int .i64 ((s1).length : Int)) ∧ f116 13 = Value.int .i64 (((s1).length : Nat) : Int) ∧ InR .i64 (((s1).length : Nat) : Int) ∧ St w wd117 [] := hI119
        obtain ⟨hf121, hf122, hf123, hf124, hr125, hS126⟩ := hI119
        refine W.seq ?_
        refine W.region ?_
        refine WL.val (Value.bool (decide ((((s1).length : Nat) : Int) < ((s1).length : Int)))) _ (op_lss hf124 hf123) rfl ?_
        have hl127 : ¬ (((s1).length : Nat) : Int) < ((s1).length : Int) := by omega
        refine WL.nil ?_
        show W _ _ _ _ _ _
        refine W.seq ?_
        refine W.condF (decide ((((s1).length : Nat) : Int) < ((s1).length : Int))) rfl (decide_eq_false hl127) ?_
        refine W.exit ?_
        show _ = _ ∧ _
        exact ⟨rfl, _, hs118, hS126⟩
    · rintro f128 wd129 ⟨s131, rfl, hq130⟩
      replace h := onRes_fin h
      obtain ⟨⟩ := s131
      replace hq130 : St w wd129 [] := hq130
      have hS132 := hq130
      show W _ _ _ _ _ _
      refine W.seq ?_
      refine W.region ?_
      refine WL.val (Value.bool true) _ (op_assign rfl) rfl ?_
      refine WL.nil ?_
      show W _ _ _ _ _ _
      refine W.ret ?_
      obtain rfl := Option.some.inj h
      show FinP _ _ _ _ _ _ _
      exact FinP.ret _ (res1 rfl rfl) ⟨rfl, hS132.ext⟩

theorem c_impl_equalTables_c1 {w : World} {x : (List (List Int))} {v_x : Value} {y : (List (List Int))} {v_y : Value} (r_x : (Ty.sl (Ty.sl (Ty.i .i64))).rep w v_x x) (r_y : (Ty.sl (Ty.sl (Ty.i .i64))).rep w v_y y) {res : Bool} (h : p_impl_equalTables_c1 x y  = some res) :
    Ret Try.prog 147 #[v_x, v_y] w (fun v w' => v = Value.bool res ∧ Ext w w') := by
  unfold p_impl_equalTables_c1 at h
  have hS0 : St w w [] := St.start w
  refine Ret.start (fn := Try.f147) Try.func147 rfl 8 rfl rfl ?_
  refine W.seq ?_
  refine W.region ?_
  refine WL.val (Value.bool false) _ (op_assign rfl) rfl ?_
  refine WL.nil ?_
  show W _ _ _ _ _ _
  refine W.seq ?_
  refine W.region ?_
  refine WL.val v_x _ (op_move rfl) rfl ?_
  refine WL.val v_y _ (op_move rfl) rfl ?_
  obtain ⟨x5, hx6, h⟩ := bs h
  refine WL.call _ (op_call fn_148 (args3 rfl rfl rfl)) (c_slices_EqualFunc_LLint64_LLint64_Lint64_Lint64 (Ty.lift _ hS0.ext r_x) (Ty.lift _ hS0.ext r_y) (⟨149, #[], #[], rfl, fn_149, fun wd1 u0_2 a0_2 u1_2 a1_2 r3 he2 ra0_2 ra1_2 hq4 => c_slices_Equal_Lint64_int64 ra0_2 ra1_2 hq4⟩) hx6) rfl ?_
  rintro _ wd7 ⟨rfl, he8⟩
  have hS10 := St.extend hS0 he8
  replace hS10 : St w wd7 [] := hS10
  refine WL.val (Value.bool x5) _ (op_assign rfl) rfl ?_
  refine WL.nil ?_
  show W _ _ _ _ _ _
  refine W.ret ?_
  obtain rfl := Option.some.inj h
  show FinP _ _ _ _ _ _ _
  exact FinP.ret _ (res1 rfl rfl) ⟨rfl, hS10.ext⟩

theorem c_impl_equalTables {w : World} {a : (List (List (List Int)))} {v_a : Value} {b : (List (List (List Int)))} {v_b : Value} (r_a : (Ty.sl (Ty.sl (Ty.sl (Ty.i .i64)))).rep w v_a a) (r_b : (Ty.sl (Ty.sl (Ty.sl (Ty.i .i64)))).rep w v_b b) {res : Bool} (h : p_impl_equalTables a b  = some res) :
    Ret Try.prog 122 #[v_a, v_b] w (fun v w' => v = Value.bool res ∧ Ext w w') := by
  unfold p_impl_equalTables at h
  have hS0 : St w w [] := St.start w
  refine Ret.start (fn := Try.f122) Try.func122 rfl 8 rfl rfl ?_
  refine W.seq ?_
  refine W.region ?_
  refine WL.val (Value.bool false) _ (op_assign rfl) rfl ?_
  refine WL.nil ?_
  show W _ _ _ _ _ _
  refine W.seq ?_
  refine W.region ?_
  refine WL.val v_a _ (op_move rfl) rfl ?_
  refine WL.val v_b _ (op_move rfl) rfl ?_
  obtain ⟨x5, hx6, h⟩ := bs h
  refine WL.call _ (op_call fn_146 (args3 rfl rfl rfl)) (c_slices_EqualFunc_LLLint64_LLLint64_LLint64_LLint64 (Ty.lift _ hS0.ext r_a) (Ty.lift _ hS0.ext r_b) (⟨147, #[], #[], rfl, fn_147, fun wd1 u0_2 a0_2 u1_2 a1_2 r3 he2 ra0_2 ra1_2 hq4 => c_impl_equalTables_c1 ra0_2 ra1_2 hq4⟩) hx6) rfl ?_
  rintro _ wd7 ⟨rfl, he8⟩
  have hS10 := St.extend hS0 he8
  replace hS10 : St w wd7 [] := hS10
  refine WL.val (Value.bool x5) _ (op_assign rfl) rfl ?_
  refine WL.nil ?_
  show W _ _ _ _ _ _
  refine W.ret ?_
  obtain rfl := Option.some.inj h
  show FinP _ _ _ _ _ _ _
  exact FinP.ret _ (res1 rfl rfl) ⟨rfl, hS10.ext⟩

theorem c_impl_Ring_isCommutative {w : World} {r_Table : (List (List (List Int)))} {v_r_Table : Value} (r_r_Table : (Ty.sl (Ty.sl (Ty.sl (Ty.i .i64)))).rep w v_r_Table r_Table) {res : Bool} (h : p_impl_Ring_isCommutative r_Table  = some res) :
    Ret Try.prog 70 #[(Value.agg #[v_r_Table])] w (fun v w' => v = Value.bool res ∧ Ext w w') := by
  unfold p_impl_Ring_isCommutative at h
  have hS0 : St w w [] := St.start w
  refine Ret.start (fn := Try.f70) Try.func70 rfl 9 rfl rfl ?_
  refine W.seq ?_
  refine W.region ?_
  refine WL.box hS0 rfl (cs := [v_r_Table]) rfl rfl ?_
  intro b1 wd2 hS3 he4 hx5
  replace hS3 : St w wd2 [bx b1 [v_r_Table]] := hS3
  have hx6 := St.boxAt hS3 0 rfl
  have hE7 : Ext w wd2 := hS3.ext
  have hS8 : St wd2 wd2 [] := St.start wd2
  refine WL.val (Value.bool false) _ (op_assign rfl) rfl ?_
  refine WL.nil ?_
  show W _ _ _ _ _ _
  refine W.seq ?_
  obtain ⟨x39, hx40, h⟩ := bs h
  refine W.draw mixo 5 [fun v _ => v = (Value.pointer (some ⟨b1, 0, none⟩)), fun v _ => v = v_r_Table, fun v w' => ∃ (uu0 : Value), v = (Value.agg #[uu0]) ∧ (Ty.sl (Ty.sl (Ty.sl (Ty.i .i64)))).rep w' uu0 r_Table, fun v w' => ∃ (uu0 : Value), v = (Value.agg #[uu0]) ∧ (Ty.sl (Ty.sl (Ty.sl (Ty.i .i64)))).rep w' uu0 x39, fun v w' => (Ty.sl (Ty.sl (Ty.sl (Ty.i .i64)))).rep w' v x39] (by kernel_rfl) (by kernel_rfl) (stabL ⟨(fun _ _ _ _ h => h), (fun _ _ _ _ h => h), (fun _ _ _ he ⟨uu0, h0, r0⟩ => ⟨uu0, h0, Ty.lift _ he r0⟩), (fun _ _ _ he ⟨uu0, h0, r0⟩ => ⟨uu0, h0, Ty.lift _ he r0⟩), (fun _ _ _ he h => Ty.lift _ he h), trivial⟩) ⟨?_, ?_, ?_, ?_, ?_, trivial⟩ ?_
  · intro f9 wd10 he11 hout12 hphi13
    have hS14 : St wd2 wd10 [] := St.extend hS8 he11
    have e15 : f9 1 = (Value.pointer (some ⟨b1, 0, none⟩)) := (hout12 1 rfl).trans rfl
    exact OpY.val (Value.pointer (some ⟨b1, 0, none⟩)) wd10 rfl (op_fieldAddr fd_27_0 e15) (Ext.refl _) rfl
  · intro f16 wd17 he18 hout19 hphi20
    have hS21 : St wd2 wd17 [] := St.extend hS8 he18
    have e22 : f16 3 = (Value.pointer (some ⟨b1, 0, none⟩)) := hphi20 0 3 _ rfl rfl rfl
    exact OpY.val v_r_Table wd17 rfl (op_load one_25 e22 (BoxAt.cell (BoxAt.lift hS21.ext hx6) rfl)) (Ext.refl _) rfl
  · intro f23 wd24 he25 hout26 hphi27
    have hS28 : St wd2 wd24 [] := St.extend hS8 he25
    have e29 : f23 1 = (Value.pointer (some ⟨b1, 0, none⟩)) := (hout26 1 rfl).trans rfl
    exact OpY.val (Value.agg #[v_r_Table]) wd24 rfl (op_loadBox st_27 e29 (BoxAt.lift hS28.ext hx6) rfl rfl) (Ext.refl _) ⟨v_r_Table, rfl, (Ty.lift _ (Ext.trans hE7 hS28.ext) r_r_Table)⟩
  · intro f30 wd31 he32 hout33 hphi34
    have hS35 : St wd2 wd31 [] := St.extend hS8 he32
    obtain ⟨u37, e36, hr38⟩ := hphi34 2 5 _ rfl rfl rfl
    refine OpY.call rfl (op_call fn_123 (args1 e36)) (Ret.mono (c_impl_Ring_opposite hr38 hx40) ?_)
    rintro _ wd42 ⟨u41, rfl, he43, hs44⟩
    exact ⟨he43, ⟨u41, rfl, (Sep.rep (t := (Ty.sl (Ty.sl (Ty.sl (Ty.i .i64))))) hs44 0 rfl)⟩⟩
  · intro f45 wd46 he47 hout48 hphi49
    have hS50 : St wd2 wd46 [] := St.extend hS8 he47
    obtain ⟨u52, e51, hr53⟩ := hphi49 3 6 _ rfl rfl rfl
    exact OpY.val u52 wd46 rfl (op_field fl_27_0 e51 rfl) (Ext.refl _) hr53
  · intro f54 wd55 he56 hout57 hphi58
    show WL _ _ _ _ _ _ _
    have hS59 : St wd2 wd55 [] := St.extend hS8 he56
    have e60 : f54 4 = v_r_Table := hphi58 1 4 _ (by decide) rfl rfl
    have e61 : (Ty.sl (Ty.sl (Ty.sl (Ty.i .i64)))).rep wd55 (f54 7) x39 := hphi58 4 7 _ (by decide) rfl rfl
    obtain ⟨x62, hx63, h⟩ := bs h
    refine WL.call _ (op_call fn_122 (args2 e60 rfl)) (c_impl_equalTables (Ty.lift _ (Ext.trans hE7 hS59.ext) r_r_Table) e61 hx63) rfl ?_
    rintro _ wd64 ⟨rfl, he65⟩
    have hS67 := St.extend hS59 he65
    replace hS67 : St wd2 wd64 [] := hS67
    refine WL.val (Value.bool x62) _ (op_assign rfl) rfl ?_
    refine WL.nil ?_
    show W _ _ _ _ _ _
    refine W.ret ?_
    obtain rfl := Option.some.inj h
    show FinP _ _ _ _ _ _ _
    exact FinP.ret _ (res1 rfl rfl) ⟨rfl, (Ext.trans hE7 hS67.ext)⟩

theorem c_laws_eqInt64S {w : World} {a : (List Int)} {v_a : Value} {b : (List Int)} {v_b : Value} (r_a : (Ty.sl (Ty.i .i64)).rep w v_a a) (r_b : (Ty.sl (Ty.i .i64)).rep w v_b b) {res : Bool} (h : p_laws_eqInt64S a b  = some res) :
    Ret Try.prog 24 #[v_a, v_b] w (fun v w' => v = Value.bool res ∧ Ext w w') := by
  unfold p_laws_eqInt64S at h
  have hS0 : St w w [] := St.start w
  refine Ret.start (fn := Try.f24) Try.func24 rfl 26 rfl rfl ?_
  refine W.seq ?_
  refine W.region ?_
  refine WL.val (Value.bool false) _ (op_assign rfl) rfl ?_
  refine WL.nil ?_
  show W _ _ _ _ _ _
  refine W.seq ?_
  refine W.seq ?_
  refine W.region ?_
  refine WL.val v_a _ (op_move rfl) rfl ?_
  have hr1 := inR_len (Ty.lift _ hS0.ext r_a)
  refine WL.val (Value.int .i64 ((a).length : Int)) _ (op_lenL sl_23 (Ty.lift _ hS0.ext r_a) rfl) rfl ?_
  refine WL.val v_b _ (op_move rfl) rfl ?_
  have hr2 := inR_len (Ty.lift _ hS0.ext r_b)
  refine WL.val (Value.int .i64 ((b).length : Int)) _ (op_lenL sl_23 (Ty.lift _ hS0.ext r_b) rfl) rfl ?_
  refine WL.val (Value.bool (((a).length : Int) != ((b).length : Int))) _ (op_neq rfl rfl) rfl ?_
  refine WL.nil ?_
  show W _ _ _ _ _ _
  refine W.cond (((a).length : Int) != ((b).length : Int)) rfl (fun hc3 => ?_) (fun hc3 => ?_)
  · replace h := ip h hc3
    refine W.seq ?_
    refine W.region ?_
    refine WL.val (Value.bool false) _ (op_assign rfl) rfl ?_
    refine WL.nil ?_
    show W _ _ _ _ _ _
    refine W.ret ?_
    obtain rfl := Option.some.inj h
    show FinP _ _ _ _ _ _ _
    exact FinP.ret _ (res1 rfl rfl) ⟨rfl, hS0.ext⟩
  · replace h := inegb h hc3
    refine W.skip ?_
    show W _ _ _ _ _ _
    refine W.seq ?_
    refine W.seq ?_
    refine W.region ?_
    refine WL.val (Value.int .i64 (0 : Int)) _ (op_assign rfl) rfl ?_
    refine WL.nil ?_
    show W _ _ _ _ _ _
    obtain ⟨res5, hres6, h⟩ := bs h
    refine W.blockLoop (fun fq wq => ∃ s, res5 = Res.fin s ∧ St w wq []) ?_ ?_
    · refine W.forN (fun k (s : Unit) fq wq => fq 0 = v_a ∧ fq 1 = v_b ∧ fq 5 = Value.int .i64 (k : Int) ∧ InR .i64 (k : Int) ∧ St w wq []) hres6 ⟨rfl, rfl, rfl, (inR_i64.2 (show (-9223372036854775808 : Int) ≤ 0 ∧ (0 : Int) ≤ 9223372036854775807 from by decide)), hS0⟩ ?_ ?_
      · intro k7 s113 ct8 f9 wd10 hk11 hb12 hI13 hbrk14 hret15
        obtain ⟨⟩ := s113
        replace hI13 : f9 0 = v_a ∧ f9 1 = v_b ∧ f9 5 = Value.int .i64 (k7 : Int) ∧ InR .i64 (k7 : Int) ∧ St w wd10 [] := hI13
        replace hb12 : p_laws_eqInt64S_L1 a b k7  = some ct8 := hb12
        unfold p_laws_eqInt64S_L1 at hb12
        obtain ⟨hf16, hf17, hf18, hr19, hS20⟩ := hI13
        refine W.seq ?_
        refine W.seq ?_
        refine W.region ?_
        refine WL.val (Value.int .i64 (k7 : Int)) _ (op_move hf18) rfl ?_
        refine WL.val v_a _ (op_move hf16) rfl ?_
        have hr21 := inR_len (Ty.lift _ hS20.ext r_a)
        refine WL.val (Value.int .i64 ((a).length : Int)) _ (op_lenL sl_23 (Ty.lift _ hS20.ext r_a) rfl) rfl ?_
        refine WL.val (Value.bool (decide ((k7 : Int) < ((a).length : Int)))) _ (op_lss rfl rfl) rfl ?_
        have hl22 : (k7 : Int) < ((a).length : Int) := by omega
        refine WL.nil ?_
        show W _ _ _ _ _ _
        refine W.condT (decide ((k7 : Int) < ((a).length : Int))) rfl (decide_eq_true hl22) ?_
        refine W.skip ?_
        show W _ _ _ _ _ _
        refine W.seq ?_
        refine W.block ?_
        refine W.seq ?_
        obtain ⟨x47, hx50, hb12⟩ := bs hb12
        obtain ⟨ha48, hb49, hx50⟩ := idx_some hx50
        obtain ⟨u58, hc59, hr60⟩ := repSl.el r_a hx50
        obtain ⟨rfl, hr60⟩ := hr60
        obtain ⟨x84, hx87, hb12⟩ := bs hb12
        obtain ⟨ha85, hb86, hx87⟩ := idx_some hx87
        obtain ⟨u95, hc96, hr97⟩ := repSl.el r_b hx87
        obtain ⟨rfl, hr97⟩ := hr97
        refine W.draw mixo 8 [fun v _ => v = v_a, fun v _ => v = (Value.int .i64 (k7 : Int)) ∧ InR .i64 (k7 : Int), fun v _ => v = (Value.pointer (some (elA v_a ((k7 : Int)).toNat))), fun v _ => v = (Value.int .i64 x47) ∧ InR .i64 x47, fun v _ => v = v_b, fun v _ => v = (Value.int .i64 (k7 : Int)) ∧ InR .i64 (k7 : Int), fun v _ => v = (Value.pointer (some (elA v_b ((k7 : Int)).toNat))), fun v _ => v = (Value.int .i64 x84) ∧ InR .i64 x84] (by kernel_rfl) (by kernel_rfl) (stabL ⟨(fun _ _ _ _ h => h), (fun _ _ _ _ h => h), (fun _ _ _ _ h => h), (fun _ _ _ _ h => h), (fun _ _ _ _ h => h), (fun _ _ _ _ h => h), (fun _ _ _ _ h => h), (fun _ _ _ _ h => h), trivial⟩) ⟨?_, ?_, ?_, ?_, ?_, ?_, ?_, ?_, trivial⟩ ?_
        · intro f24 wd25 he26 hout27 hphi28
          have hS29 : St w wd25 [] := St.extend hS20 he26
          have e30 : f24 0 = v_a := (hout27 0 rfl).trans hf16
          exact OpY.val v_a wd25 rfl (op_move e30) (Ext.refl _) rfl
        · intro f31 wd32 he33 hout34 hphi35
          have hS36 : St w wd32 [] := St.extend hS20 he33
          have e37 : f31 5 = (Value.int .i64 (k7 : Int)) := (hout34 5 rfl).trans hf18
          exact OpY.val (Value.int .i64 (k7 : Int)) wd32 rfl (op_move e37) (Ext.refl _) ⟨rfl, hr19⟩
        · intro f38 wd39 he40 hout41 hphi42
          have hS43 : St w wd39 [] := St.extend hS20 he40
          have e44 : f38 17 = v_a := hphi42 0 17 _ rfl rfl rfl
          obtain ⟨e45, hr46⟩ : f38 18 = (Value.int .i64 (k7 : Int)) ∧ InR .i64 (k7 : Int) := hphi42 1 18 _ rfl rfl rfl
          exact OpY.val (Value.pointer (some (elA v_a ((k7 : Int)).toNat))) wd39 rfl (op_idx sl_23 (Ty.lift _ hS43.ext r_a) e44 e45 ha48 hb49) (Ext.refl _) rfl
        · intro f51 wd52 he53 hout54 hphi55
          have hS56 : St w wd52 [] := St.extend hS20 he53
          have e57 : f51 19 = (Value.pointer (some (elA v_a ((k7 : Int)).toNat))) := hphi55 2 19 _ rfl rfl rfl
          exact OpY.val (Value.int .i64 x47) wd52 rfl (op_load one_2 e57 (Ext.cell hS56.ext hc59)) (Ext.refl _) ⟨rfl, hr60⟩
        · intro f61 wd62 he63 hout64 hphi65
          have hS66 : St w wd62 [] := St.extend hS20 he63
          have e67 : f61 1 = v_b := (hout64 1 rfl).trans hf17
          exact OpY.val v_b wd62 rfl (op_move e67) (Ext.refl _) rfl
        · intro f68 wd69 he70 hout71 hphi72
          have hS73 : St w wd69 [] := St.extend hS20 he70
          have e74 : f68 5 = (Value.int .i64 (k7 : Int)) := (hout71 5 rfl).trans hf18
          exact OpY.val (Value.int .i64 (k7 : Int)) wd69 rfl (op_move e74) (Ext.refl _) ⟨rfl, hr19⟩
        · intro f75 wd76 he77 hout78 hphi79
          have hS80 : St w wd76 [] := St.extend hS20 he77
          have e81 : f75 21 = v_b := hphi79 4 21 _ rfl rfl rfl
          obtain ⟨e82, hr83⟩ : f75 22 = (Value.int .i64 (k7 : Int)) ∧ InR .i64 (k7 : Int) := hphi79 5 22 _ rfl rfl rfl
          exact OpY.val (Value.pointer (some (elA v_b ((k7 : Int)).toNat))) wd76 rfl (op_idx sl_23 (Ty.lift _ hS80.ext r_b) e81 e82 ha85 hb86) (Ext.refl _) rfl
        · intro f88 wd89 he90 hout91 hphi92
          have hS93 : St w wd89 [] := St.extend hS20 he90
          have e94 : f88 23 = (Value.pointer (some (elA v_b ((k7 : Int)).toNat))) := hphi92 6 23 _ rfl rfl rfl
          exact OpY.val (Value.int .i64 x84) wd89 rfl (op_load one_2 e94 (Ext.cell hS93.ext hc96)) (Ext.refl _) ⟨rfl, hr97⟩
        · intro f98 wd99 he100 hout101 hphi102
          show WL _ _ _ _ _ _ _
          have hS103 : St w wd99 [] := St.extend hS20 he100
          obtain ⟨e104, hr105⟩ : f98 20 = (Value.int .i64 x47) ∧ InR .i64 x47 := hphi102 3 20 _ (by decide) rfl rfl
          obtain ⟨e106, hr107⟩ : f98 24 = (Value.int .i64 x84) ∧ InR .i64 x84 := hphi102 7 24 _ (by decide) rfl rfl
          have e108 : f98 0 = v_a := (hout101 0 rfl).trans hf16
          have e109 : f98 1 = v_b := (hout101 1 rfl).trans hf17
          have e110 : f98 5 = (Value.int .i64 (k7 : Int)) := (hout101 5 rfl).trans hf18
          refine WL.val (Value.bool (x47 != x84)) _ (op_neq e104 e106) rfl ?_
          refine WL.nil ?_
          show W _ _ _ _ _ _
          refine W.cond (x47 != x84) rfl (fun hc111 => ?_) (fun hc111 => ?_)
          · replace hb12 := ip hb12 hc111
            refine W.seq ?_
            refine W.region ?_
            refine WL.val (Value.bool false) _ (op_assign rfl) rfl ?_
            refine WL.nil ?_
            show W _ _ _ _ _ _
            refine W.ret ?_
            obtain rfl := Option.some.inj hb12
            obtain rfl := hret15 _ rfl
            replace h := onRes_ret h
            obtain rfl := Option.some.inj h
            show FinP _ _ _ _ _ _ _
            exact FinP.ret _ (res1 rfl rfl) ⟨rfl, hS103.ext⟩
          · replace hb12 := inegb hb12 hc111
            refine W.skip ?_
            show W _ _ _ _ _ _
            refine W.region ?_
            refine WL.val (Value.int .i64 (k7 : Int)) _ (op_move e110) rfl ?_
            refine WL.val (Value.int .i64 (w64 ((k7 : Int) + (1 : Int)))) _ (op_add rfl rfl) rfl ?_
            refine WL.val (Value.int .i64 (w64 ((k7 : Int) + (1 : Int)))) _ (op_assign rfl) rfl ?_
            refine WL.nil ?_
            obtain rfl := Option.some.inj hb12
            show ∃ s, _ = Ctl.next s ∧ _
            exact ⟨_, rfl, e108, e109, (ctr_next hl22 hr21), (ctr_rng hl22 hr21), hS103⟩
      · intro s118 f114 wd115 hs116 hI117
        obtain ⟨⟩ := s118
        replace hI117 : f114 0 = v_a ∧ f114 1 = v_b ∧ f114 5 = Value.int .i64 (((a).length : Nat) : Int) ∧ InR .i64 (((a).length : Nat) : Int) ∧ St w wd115 [] := hI117
        obtain ⟨hf119, hf120, hf121, hr122, hS123⟩ := hI117
        refine W.seq ?_
        refine W.seq ?_
        refine W.region ?_
        refine WL.val (Value.int .i64 (((a).length : Nat) : Int)) _ (op_move hf121) rfl ?_
        refine WL.val v_a _ (op_move hf119) rfl ?_
        have hr124 := inR_len (Ty.lift _ hS123.ext r_a)
        refine WL.val (Value.int .i64 ((a).length : Int)) _ (op_lenL sl_23 (Ty.lift _ hS123.ext r_a) rfl) rfl ?_
        refine WL.val (Value.bool (decide ((((a).length : Nat) : Int) < ((a).length : Int)))) _ (op_lss rfl rfl) rfl ?_
        have hl125 : ¬ (((a).length : Nat) : Int) < ((a).length : Int) := by omega
        refine WL.nil ?_
        show W _ _ _ _ _ _
        refine W.condF (decide ((((a).length : Nat) : Int) < ((a).length : Int))) rfl (decide_eq_false hl125) ?_
        refine W.exit ?_
        show _ = _ ∧ _
        exact ⟨rfl, _, hs116, hS123⟩
    · rintro f126 wd127 ⟨s129, rfl, hq128⟩
      replace h := onRes_fin h
      obtain ⟨⟩ := s129
      replace hq128 : St w wd127 [] := hq128
      have hS130 := hq128
      show W _ _ _ _ _ _
      refine W.seq ?_
      refine W.region ?_
      refine WL.val (Value.bool true) _ (op_assign rfl) rfl ?_
      refine WL.nil ?_
      show W _ _ _ _ _ _
      refine W.ret ?_
      obtain rfl := Option.some.inj h
      show FinP _ _ _ _ _ _ _
      exact FinP.ret _ (res1 rfl rfl) ⟨rfl, hS130.ext⟩

theorem c_laws_eqInt64SS {w : World} {a : (List (List Int))} {v_a : Value} {b : (List (List Int))} {v_b : Value} (r_a : (Ty.sl (Ty.sl (Ty.i .i64))).rep w v_a a) (r_b : (Ty.sl (Ty.sl (Ty.i .i64))).rep w v_b b) {res : Bool} (h : p_laws_eqInt64SS a b  = some res) :
    Ret Try.prog 23 #[v_a, v_b] w (fun v w' => v = Value.bool res ∧ Ext w w') := by
  unfold p_laws_eqInt64SS at h
  have hS0 : St w w [] := St.start w
  refine Ret.start (fn := Try.f23) Try.func23 rfl 27 rfl rfl ?_
  refine W.seq ?_
  refine W.region ?_
  refine WL.val (Value.bool false) _ (op_assign rfl) rfl ?_
  refine WL.nil ?_
  show W _ _ _ _ _ _
  refine W.seq ?_
  refine W.seq ?_
  refine W.region ?_
  refine WL.val v_a _ (op_move rfl) rfl ?_
  have hr1 := inR_len (Ty.lift _ hS0.ext r_a)
  refine WL.val (Value.int .i64 ((a).length : Int)) _ (op_lenL sl_22 (Ty.lift _ hS0.ext r_a) rfl) rfl ?_
  refine WL.val v_b _ (op_move rfl) rfl ?_
  have hr2 := inR_len (Ty.lift _ hS0.ext r_b)
  refine WL.val (Value.int .i64 ((b).length : Int)) _ (op_lenL sl_22 (Ty.lift _ hS0.ext r_b) rfl) rfl ?_
  refine WL.val (Value.bool (((a).length : Int) != ((b).length : Int))) _ (op_neq rfl rfl) rfl ?_
  refine WL.nil ?_
  show W _ _ _ _ _ _
  refine W.cond (((a).length : Int) != ((b).length : Int)) rfl (fun hc3 => ?_) (fun hc3 => ?_)
  · replace h := ip h hc3
    refine W.seq ?_
    refine W.region ?_
    refine WL.val (Value.bool false) _ (op_assign rfl) rfl ?_
    refine WL.nil ?_
    show W _ _ _ _ _ _
    refine W.ret ?_
    obtain rfl := Option.some.inj h
    show FinP _ _ _ _ _ _ _
    exact FinP.ret _ (res1 rfl rfl) ⟨rfl, hS0.ext⟩
  · replace h := inegb h hc3
    refine W.skip ?_
    show W _ _ _ _ _ _
    refine W.seq ?_
    refine W.seq ?_
    refine W.region ?_
    refine WL.val (Value.int .i64 (0 : Int)) _ (op_assign rfl) rfl ?_
    refine WL.nil ?_
    show W _ _ _ _ _ _
    obtain ⟨res5, hres6, h⟩ := bs h
    refine W.blockLoop (fun fq wq => ∃ s, res5 = Res.fin s ∧ St w wq []) ?_ ?_
    · refine W.forN (fun k (s : Unit) fq wq => fq 0 = v_a ∧ fq 1 = v_b ∧ fq 5 = Value.int .i64 (k : Int) ∧ InR .i64 (k : Int) ∧ St w wq []) hres6 ⟨rfl, rfl, rfl, (inR_i64.2 (show (-9223372036854775808 : Int) ≤ 0 ∧ (0 : Int) ≤ 9223372036854775807 from by decide)), hS0⟩ ?_ ?_
      · intro k7 s117 ct8 f9 wd10 hk11 hb12 hI13 hbrk14 hret15
        obtain ⟨⟩ := s117
        replace hI13 : f9 0 = v_a ∧ f9 1 = v_b ∧ f9 5 = Value.int .i64 (k7 : Int) ∧ InR .i64 (k7 : Int) ∧ St w wd10 [] := hI13
        replace hb12 : p_laws_eqInt64SS_L1 a b k7  = some ct8 := hb12
        unfold p_laws_eqInt64SS_L1 at hb12
        obtain ⟨hf16, hf17, hf18, hr19, hS20⟩ := hI13
        refine W.seq ?_
        refine W.seq ?_
        refine W.region ?_
        refine WL.val (Value.int .i64 (k7 : Int)) _ (op_move hf18) rfl ?_
        refine WL.val v_a _ (op_move hf16) rfl ?_
        have hr21 := inR_len (Ty.lift _ hS20.ext r_a)
        refine WL.val (Value.int .i64 ((a).length : Int)) _ (op_lenL sl_22 (Ty.lift _ hS20.ext r_a) rfl) rfl ?_
        refine WL.val (Value.bool (decide ((k7 : Int) < ((a).length : Int)))) _ (op_lss rfl rfl) rfl ?_
        have hl22 : (k7 : Int) < ((a).length : Int) := by omega
        refine WL.nil ?_
        show W _ _ _ _ _ _
        refine W.condT (decide ((k7 : Int) < ((a).length : Int))) rfl (decide_eq_true hl22) ?_
        refine W.skip ?_
        show W _ _ _ _ _ _
        refine W.seq ?_
        refine W.block ?_
        refine W.seq ?_
        obtain ⟨x47, hx50, hb12⟩ := bs hb12
        obtain ⟨ha48, hb49, hx50⟩ := idx_some hx50
        obtain ⟨u58, hc59, hr60⟩ := repSl.el r_a hx50
        obtain ⟨x84, hx87, hb12⟩ := bs hb12
        obtain ⟨ha85, hb86, hx87⟩ := idx_some hx87
        obtain ⟨u95, hc96, hr97⟩ := repSl.el r_b hx87
        refine W.draw mixo 8 [fun v _ => v = v_a, fun v _ => v = (Value.int .i64 (k7 : Int)) ∧ InR .i64 (k7 : Int), fun v _ => v = (Value.pointer (some (elA v_a ((k7 : Int)).toNat))), fun v _ => v = u58, fun v _ => v = v_b, fun v _ => v = (Value.int .i64 (k7 : Int)) ∧ InR .i64 (k7 : Int), fun v _ => v = (Value.pointer (some (elA v_b ((k7 : Int)).toNat))), fun v _ => v = u95] (by kernel_rfl) (by kernel_rfl) (stabL ⟨(fun _ _ _ _ h => h), (fun _ _ _ _ h => h), (fun _ _ _ _ h => h), (fun _ _ _ _ h => h), (fun _ _ _ _ h => h), (fun _ _ _ _ h => h), (fun _ _ _ _ h => h), (fun _ _ _ _ h => h), trivial⟩) ⟨?_, ?_, ?_, ?_, ?_, ?_, ?_, ?_, trivial⟩ ?_
        · intro f24 wd25 he26 hout27 hphi28
          have hS29 : St w wd25 [] := St.extend hS20 he26
          have e30 : f24 0 = v_a := (hout27 0 rfl).trans hf16
          exact OpY.val v_a wd25 rfl (op_move e30) (Ext.refl _) rfl
        · intro f31 wd32 he33 hout34 hphi35
          have hS36 : St w wd32 [] := St.extend hS20 he33
          have e37 : f31 5 = (Value.int .i64 (k7 : Int)) := (hout34 5 rfl).trans hf18
          exact OpY.val (Value.int .i64 (k7 : Int)) wd32 rfl (op_move e37) (Ext.refl _) ⟨rfl, hr19⟩
        · intro f38 wd39 he40 hout41 hphi42
          have hS43 : St w wd39 [] := St.extend hS20 he40
          have e44 : f38 17 = v_a := hphi42 0 17 _ rfl rfl rfl
          obtain ⟨e45, hr46⟩ : f38 18 = (Value.int .i64 (k7 : Int)) ∧ InR .i64 (k7 : Int) := hphi42 1 18 _ rfl rfl rfl
          exact OpY.val (Value.pointer (some (elA v_a ((k7 : Int)).toNat))) wd39 rfl (op_idx sl_22 (Ty.lift _ hS43.ext r_a) e44 e45 ha48 hb49) (Ext.refl _) rfl
        · intro f51 wd52 he53 hout54 hphi55
          have hS56 : St w wd52 [] := St.extend hS20 he53
          have e57 : f51 19 = (Value.pointer (some (elA v_a ((k7 : Int)).toNat))) := hphi55 2 19 _ rfl rfl rfl
          exact OpY.val u58 wd52 rfl (op_load one_23 e57 (Ext.cell hS56.ext hc59)) (Ext.refl _) rfl
        · intro f61 wd62 he63 hout64 hphi65
          have hS66 : St w wd62 [] := St.extend hS20 he63
          have e67 : f61 1 = v_b := (hout64 1 rfl).trans hf17
          exact OpY.val v_b wd62 rfl (op_move e67) (Ext.refl _) rfl
        · intro f68 wd69 he70 hout71 hphi72
          have hS73 : St w wd69 [] := St.extend hS20 he70
          have e74 : f68 5 = (Value.int .i64 (k7 : Int)) := (hout71 5 rfl).trans hf18
          exact OpY.val (Value.int .i64 (k7 : Int)) wd69 rfl (op_move e74) (Ext.refl _) ⟨rfl, hr19⟩
        · intro f75 wd76 he77 hout78 hphi79
          have hS80 : St w wd76 [] := St.extend hS20 he77
          have e81 : f75 21 = v_b := hphi79 4 21 _ rfl rfl rfl
          obtain ⟨e82, hr83⟩ : f75 22 = (Value.int .i64 (k7 : Int)) ∧ InR .i64 (k7 : Int) := hphi79 5 22 _ rfl rfl rfl
          exact OpY.val (Value.pointer (some (elA v_b ((k7 : Int)).toNat))) wd76 rfl (op_idx sl_22 (Ty.lift _ hS80.ext r_b) e81 e82 ha85 hb86) (Ext.refl _) rfl
        · intro f88 wd89 he90 hout91 hphi92
          have hS93 : St w wd89 [] := St.extend hS20 he90
          have e94 : f88 23 = (Value.pointer (some (elA v_b ((k7 : Int)).toNat))) := hphi92 6 23 _ rfl rfl rfl
          exact OpY.val u95 wd89 rfl (op_load one_23 e94 (Ext.cell hS93.ext hc96)) (Ext.refl _) rfl
        · intro f98 wd99 he100 hout101 hphi102
          show WL _ _ _ _ _ _ _
          have hS103 : St w wd99 [] := St.extend hS20 he100
          have e104 : f98 20 = u58 := hphi102 3 20 _ (by decide) rfl rfl
          have e105 : f98 24 = u95 := hphi102 7 24 _ (by decide) rfl rfl
          have e106 : f98 0 = v_a := (hout101 0 rfl).trans hf16
          have e107 : f98 1 = v_b := (hout101 1 rfl).trans hf17
          have e108 : f98 5 = (Value.int .i64 (k7 : Int)) := (hout101 5 rfl).trans hf18
          obtain ⟨x109, hx110, hb12⟩ := bs hb12
          refine WL.call _ (op_call fn_24 (args2 e104 e105)) (c_laws_eqInt64S (Ty.lift _ hS103.ext hr60) (Ty.lift _ hS103.ext hr97) hx110) rfl ?_
          rintro _ wd111 ⟨rfl, he112⟩
          have hS114 := St.extend hS103 he112
          replace hS114 : St w wd111 [] := hS114
          refine WL.val (Value.bool (!x109)) _ (op_not rfl) rfl ?_
          refine WL.nil ?_
          show W _ _ _ _ _ _
          refine W.cond (!x109) rfl (fun hc115 => ?_) (fun hc115 => ?_)
          · replace hb12 := ip hb12 hc115
            refine W.seq ?_
            refine W.region ?_
            refine WL.val (Value.bool false) _ (op_assign rfl) rfl ?_
            refine WL.nil ?_
            show W _ _ _ _ _ _
            refine W.ret ?_
            obtain rfl := Option.some.inj hb12
            obtain rfl := hret15 _ rfl
            replace h := onRes_ret h
            obtain rfl := Option.some.inj h
            show FinP _ _ _ _ _ _ _
            exact FinP.ret _ (res1 rfl rfl) ⟨rfl, hS114.ext⟩
          · replace hb12 := inegb hb12 hc115
            refine W.skip ?_
            show W _ _ _ _ _ _
            refine W.region ?_
            refine WL.val (Value.int .i64 (k7 : Int)) _ (op_move e108) rfl ?_
            refine WL.val (Value.int .i64 (w64 ((k7 : Int) + (1 : Int)))) _ (op_add rfl rfl) rfl ?_
            refine WL.val (Value.int .i64 (w64 ((k7 : Int) + (1 : Int)))) _ (op_assign rfl) rfl ?_
            refine WL.nil ?_
            obtain rfl := Option.some.inj hb12
            show ∃ s, _ = Ctl.next s ∧ _
            exact ⟨_, rfl, e106, e107, (ctr_next hl22 hr21), (ctr_rng hl22 hr21), hS114⟩
      · intro s122 f118 wd119 hs120 hI121
        obtain ⟨⟩ := s122
        replace hI121 : f118 0 = v_a ∧ f118 1 = v_b ∧ f118 5 = Value.int .i64 (((a).length : Nat) : Int) ∧ InR .i64 (((a).length : Nat) : Int) ∧ St w wd119 [] := hI121
        obtain ⟨hf123, hf124, hf125, hr126, hS127⟩ := hI121
        refine W.seq ?_
        refine W.seq ?_
        refine W.region ?_
        refine WL.val (Value.int .i64 (((a).length : Nat) : Int)) _ (op_move hf125) rfl ?_
        refine WL.val v_a _ (op_move hf123) rfl ?_
        have hr128 := inR_len (Ty.lift _ hS127.ext r_a)
        refine WL.val (Value.int .i64 ((a).length : Int)) _ (op_lenL sl_22 (Ty.lift _ hS127.ext r_a) rfl) rfl ?_
        refine WL.val (Value.bool (decide ((((a).length : Nat) : Int) < ((a).length : Int)))) _ (op_lss rfl rfl) rfl ?_
        have hl129 : ¬ (((a).length : Nat) : Int) < ((a).length : Int) := by omega
        refine WL.nil ?_
        show W _ _ _ _ _ _
        refine W.condF (decide ((((a).length : Nat) : Int) < ((a).length : Int))) rfl (decide_eq_false hl129) ?_
        refine W.exit ?_
        show _ = _ ∧ _
        exact ⟨rfl, _, hs120, hS127⟩
    · rintro f130 wd131 ⟨s133, rfl, hq132⟩
      replace h := onRes_fin h
      obtain ⟨⟩ := s133
      replace hq132 : St w wd131 [] := hq132
      have hS134 := hq132
      show W _ _ _ _ _ _
      refine W.seq ?_
      refine W.region ?_
      refine WL.val (Value.bool true) _ (op_assign rfl) rfl ?_
      refine WL.nil ?_
      show W _ _ _ _ _ _
      refine W.ret ?_
      obtain rfl := Option.some.inj h
      show FinP _ _ _ _ _ _ _
      exact FinP.ret _ (res1 rfl rfl) ⟨rfl, hS134.ext⟩

theorem c_laws_eqInt64SSS {w : World} {a : (List (List (List Int)))} {v_a : Value} {b : (List (List (List Int)))} {v_b : Value} (r_a : (Ty.sl (Ty.sl (Ty.sl (Ty.i .i64)))).rep w v_a a) (r_b : (Ty.sl (Ty.sl (Ty.sl (Ty.i .i64)))).rep w v_b b) {res : Bool} (h : p_laws_eqInt64SSS a b  = some res) :
    Ret Try.prog 73 #[v_a, v_b] w (fun v w' => v = Value.bool res ∧ Ext w w') := by
  unfold p_laws_eqInt64SSS at h
  have hS0 : St w w [] := St.start w
  refine Ret.start (fn := Try.f73) Try.func73 rfl 27 rfl rfl ?_
  refine W.seq ?_
  refine W.region ?_
  refine WL.val (Value.bool false) _ (op_assign rfl) rfl ?_
  refine WL.nil ?_
  show W _ _ _ _ _ _
  refine W.seq ?_
  refine W.seq ?_
  refine W.region ?_
  refine WL.val v_a _ (op_move rfl) rfl ?_
  have hr1 := inR_len (Ty.lift _ hS0.ext r_a)
  refine WL.val (Value.int .i64 ((a).length : Int)) _ (op_lenL sl_25 (Ty.lift _ hS0.ext r_a) rfl) rfl ?_
  refine WL.val v_b _ (op_move rfl) rfl ?_
  have hr2 := inR_len (Ty.lift _ hS0.ext r_b)
  refine WL.val (Value.int .i64 ((b).length : Int)) _ (op_lenL sl_25 (Ty.lift _ hS0.ext r_b) rfl) rfl ?_
  refine WL.val (Value.bool (((a).length : Int) != ((b).length : Int))) _ (op_neq rfl rfl) rfl ?_
  refine WL.nil ?_
  show W _ _ _ _ _ _
  refine W.cond (((a).length : Int) != ((b).length : Int)) rfl (fun hc3 => ?_) (fun hc3 => ?_)
  · replace h := ip h hc3
    refine W.seq ?_
    refine W.region ?_
    refine WL.val (Value.bool false) _ (op_assign rfl) rfl ?_
    refine WL.nil ?_
    show W _ _ _ _ _ _
    refine W.ret ?_
    obtain rfl := Option.some.inj h
    show FinP _ _ _ _ _ _ _
    exact FinP.ret _ (res1 rfl rfl) ⟨rfl, hS0.ext⟩
  · replace h := inegb h hc3
    refine W.skip ?_
    show W _ _ _ _ _ _
    refine W.seq ?_
    refine W.seq ?_
    refine W.region ?_
    refine WL.val (Value.int .i64 (0 : Int)) _ (op_assign rfl) rfl ?_
    refine WL.nil ?_
    show W _ _ _ _ _ _
    obtain ⟨res5, hres6, h⟩ := bs h
    refine W.blockLoop (fun fq wq => ∃ s, res5 = Res.fin s ∧ St w wq []) ?_ ?_
    · refine W.forN (fun k (s : Unit) fq wq => fq 0 = v_a ∧ fq 1 = v_b ∧ fq 5 = Value.int .i64 (k : Int) ∧ InR .i64 (k : Int) ∧ St w wq []) hres6 ⟨rfl, rfl, rfl, (inR_i64.2 (show (-9223372036854775808 : Int) ≤ 0 ∧ (0 : Int) ≤ 9223372036854775807 from by decide)), hS0⟩ ?_ ?_
      · intro k7 s117 ct8 f9 wd10 hk11 hb12 hI13 hbrk14 hret15
        obtain ⟨⟩ := s117
        replace hI13 : f9 0 = v_a ∧ f9 1 = v_b ∧ f9 5 = Value.int .i64 (k7 : Int) ∧ InR .i64 (k7 : Int) ∧ St w wd10 [] := hI13
        replace hb12 : p_laws_eqInt64SSS_L1 a b k7  = some ct8 := hb12
        unfold p_laws_eqInt64SSS_L1 at hb12
        obtain ⟨hf16, hf17, hf18, hr19, hS20⟩ := hI13
        refine W.seq ?_
        refine W.seq ?_
        refine W.region ?_
        refine WL.val (Value.int .i64 (k7 : Int)) _ (op_move hf18) rfl ?_
        refine WL.val v_a _ (op_move hf16) rfl ?_
        have hr21 := inR_len (Ty.lift _ hS20.ext r_a)
        refine WL.val (Value.int .i64 ((a).length : Int)) _ (op_lenL sl_25 (Ty.lift _ hS20.ext r_a) rfl) rfl ?_
        refine WL.val (Value.bool (decide ((k7 : Int) < ((a).length : Int)))) _ (op_lss rfl rfl) rfl ?_
        have hl22 : (k7 : Int) < ((a).length : Int) := by omega
        refine WL.nil ?_
        show W _ _ _ _ _ _
        refine W.condT (decide ((k7 : Int) < ((a).length : Int))) rfl (decide_eq_true hl22) ?_
        refine W.skip ?_
        show W _ _ _ _ _ _
        refine W.seq ?_
        refine W.block ?_
        refine W.seq ?_
        obtain ⟨x47, hx50, hb12⟩ := bs hb12
        obtain ⟨ha48, hb49, hx50⟩ := idx_some hx50
        obtain ⟨u58, hc59, hr60⟩ := repSl.el r_a hx50
        obtain ⟨x84, hx87, hb12⟩ := bs hb12
        obtain ⟨ha85, hb86, hx87⟩ := idx_some hx87
        obtain ⟨u95, hc96, hr97⟩ := repSl.el r_b hx87
        refine W.draw mixo 8 [fun v _ => v = v_a, fun v _ => v = (Value.int .i64 (k7 : Int)) ∧ InR .i64 (k7 : Int), fun v _ => v = (Value.pointer (some (elA v_a ((k7 : Int)).toNat))), fun v _ => v = u58, fun v _ => v = v_b, fun v _ => v = (Value.int .i64 (k7 : Int)) ∧ InR .i64 (k7 : Int), fun v _ => v = (Value.pointer (some (elA v_b ((k7 : Int)).toNat))), fun v _ => v = u95] (by kernel_rfl) (by kernel_rfl) (stabL ⟨(fun _ _ _ _ h => h), (fun _ _ _ _ h => h), (fun _ _ _ _ h => h), (fun _ _ _ _ h => h), (fun _ _ _ _ h => h), (fun _ _ _ _ h => h), (fun _ _ _ _ h => h), (fun _ _ _ _ h => h), trivial⟩) ⟨?_, ?_, ?_, ?_, ?_, ?_, ?_, ?_, trivial⟩ ?_
        · intro f24 wd25 he26 hout27 hphi28
          have hS29 : St w wd25 [] := St.extend hS20 he26
          have e30 : f24 0 = v_a := (hout27 0 rfl).trans hf16
          exact OpY.val v_a wd25 rfl (op_move e30) (Ext.refl _) rfl
        · intro f31 wd32 he33 hout34 hphi35
          have hS36 : St w wd32 [] := St.extend hS20 he33
          have e37 : f31 5 = (Value.int .i64 (k7 : Int)) := (hout34 5 rfl).trans hf18
          exact OpY.val (Value.int .i64 (k7 : Int)) wd32 rfl (op_move e37) (Ext.refl _) ⟨rfl, hr19⟩
        · intro f38 wd39 he40 hout41 hphi42
          have hS43 : St w wd39 [] := St.extend hS20 he40
          have e44 : f38 17 = v_a := hphi42 0 17 _ rfl rfl rfl
          obtain ⟨e45, hr46⟩ : f38 18 = (Value.int .i64 (k7 : Int)) ∧ InR .i64 (k7 : Int) := hphi42 1 18 _ rfl rfl rfl
          exact OpY.val (Value.pointer (some (elA v_a ((k7 : Int)).toNat))) wd39 rfl (op_idx sl_25 (Ty.lift _ hS43.ext r_a) e44 e45 ha48 hb49) (Ext.refl _) rfl
        · intro f51 wd52 he53 hout54 hphi55
          have hS56 : St w wd52 [] := St.extend hS20 he53
          have e57 : f51 19 = (Value.pointer (some (elA v_a ((k7 : Int)).toNat))) := hphi55 2 19 _ rfl rfl rfl
          exact OpY.val u58 wd52 rfl (op_load one_22 e57 (Ext.cell hS56.ext hc59)) (Ext.refl _) rfl
        · intro f61 wd62 he63 hout64 hphi65
          have hS66 : St w wd62 [] := St.extend hS20 he63
          have e67 : f61 1 = v_b := (hout64 1 rfl).trans hf17
          exact OpY.val v_b wd62 rfl (op_move e67) (Ext.refl _) rfl
        · intro f68 wd69 he70 hout71 hphi72
          have hS73 : St w wd69 [] := St.extend hS20 he70
          have e74 : f68 5 = (Value.int .i64 (k7 : Int)) := (hout71 5 rfl).trans hf18
          exact OpY.val (Value.int .i64 (k7 : Int)) wd69 rfl (op_move e74) (Ext.refl _) ⟨rfl, hr19⟩
        · intro f75 wd76 he77 hout78 hphi79
          have hS80 : St w wd76 [] := St.extend hS20 he77
          have e81 : f75 21 = v_b := hphi79 4 21 _ rfl rfl rfl
          obtain ⟨e82, hr83⟩ : f75 22 = (Value.int .i64 (k7 : Int)) ∧ InR .i64 (k7 : Int) := hphi79 5 22 _ rfl rfl rfl
          exact OpY.val (Value.pointer (some (elA v_b ((k7 : Int)).toNat))) wd76 rfl (op_idx sl_25 (Ty.lift _ hS80.ext r_b) e81 e82 ha85 hb86) (Ext.refl _) rfl
        · intro f88 wd89 he90 hout91 hphi92
          have hS93 : St w wd89 [] := St.extend hS20 he90
          have e94 : f88 23 = (Value.pointer (some (elA v_b ((k7 : Int)).toNat))) := hphi92 6 23 _ rfl rfl rfl
          exact OpY.val u95 wd89 rfl (op_load one_22 e94 (Ext.cell hS93.ext hc96)) (Ext.refl _) rfl
        · intro f98 wd99 he100 hout101 hphi102
          show WL _ _ _ _ _ _ _
          have hS103 : St w wd99 [] := St.extend hS20 he100
          have e104 : f98 20 = u58 := hphi102 3 20 _ (by decide) rfl rfl
          have e105 : f98 24 = u95 := hphi102 7 24 _ (by decide) rfl rfl
          have e106 : f98 0 = v_a := (hout101 0 rfl).trans hf16
          have e107 : f98 1 = v_b := (hout101 1 rfl).trans hf17
          have e108 : f98 5 = (Value.int .i64 (k7 : Int)) := (hout101 5 rfl).trans hf18
          obtain ⟨x109, hx110, hb12⟩ := bs hb12
          refine WL.call _ (op_call fn_23 (args2 e104 e105)) (c_laws_eqInt64SS (Ty.lift _ hS103.ext hr60) (Ty.lift _ hS103.ext hr97) hx110) rfl ?_
          rintro _ wd111 ⟨rfl, he112⟩
          have hS114 := St.extend hS103 he112
          replace hS114 : St w wd111 [] := hS114
          refine WL.val (Value.bool (!x109)) _ (op_not rfl) rfl ?_
          refine WL.nil ?_
          show W _ _ _ _ _ _
          refine W.cond (!x109) rfl (fun hc115 => ?_) (fun hc115 => ?_)
          · replace hb12 := ip hb12 hc115
            refine W.seq ?_
            refine W.region ?_
            refine WL.val (Value.bool false) _ (op_assign rfl) rfl ?_
            refine WL.nil ?_
            show W _ _ _ _ _ _
            refine W.ret ?_
            obtain rfl := Option.some.inj hb12
            obtain rfl := hret15 _ rfl
            replace h := onRes_ret h
            obtain rfl := Option.some.inj h
            show FinP _ _ _ _ _ _ _
            exact FinP.ret _ (res1 rfl rfl) ⟨rfl, hS114.ext⟩
          · replace hb12 := inegb hb12 hc115
            refine W.skip ?_
            show W _ _ _ _ _ _
            refine W.region ?_
            refine WL.val (Value.int .i64 (k7 : Int)) _ (op_move e108) rfl ?_
            refine WL.val (Value.int .i64 (w64 ((k7 : Int) + (1 : Int)))) _ (op_add rfl rfl) rfl ?_
            refine WL.val (Value.int .i64 (w64 ((k7 : Int) + (1 : Int)))) _ (op_assign rfl) rfl ?_
            refine WL.nil ?_
            obtain rfl := Option.some.inj hb12
            show ∃ s, _ = Ctl.next s ∧ _
            exact ⟨_, rfl, e106, e107, (ctr_next hl22 hr21), (ctr_rng hl22 hr21), hS114⟩
      · intro s122 f118 wd119 hs120 hI121
        obtain ⟨⟩ := s122
        replace hI121 : f118 0 = v_a ∧ f118 1 = v_b ∧ f118 5 = Value.int .i64 (((a).length : Nat) : Int) ∧ InR .i64 (((a).length : Nat) : Int) ∧ St w wd119 [] := hI121
        obtain ⟨hf123, hf124, hf125, hr126, hS127⟩ := hI121
        refine W.seq ?_
        refine W.seq ?_
        refine W.region ?_
        refine WL.val (Value.int .i64 (((a).length : Nat) : Int)) _ (op_move hf125) rfl ?_
        refine WL.val v_a _ (op_move hf123) rfl ?_
        have hr128 := inR_len (Ty.lift _ hS127.ext r_a)
        refine WL.val (Value.int .i64 ((a).length : Int)) _ (op_lenL sl_25 (Ty.lift _ hS127.ext r_a) rfl) rfl ?_
        refine WL.val (Value.bool (decide ((((a).length : Nat) : Int) < ((a).length : Int)))) _ (op_lss rfl rfl) rfl ?_
        have hl129 : ¬ (((a).length : Nat) : Int) < ((a).length : Int) := by omega
        refine WL.nil ?_
        show W _ _ _ _ _ _
        refine W.condF (decide ((((a).length : Nat) : Int) < ((a).length : Int))) rfl (decide_eq_false hl129) ?_
        refine W.exit ?_
        show _ = _ ∧ _
        exact ⟨rfl, _, hs120, hS127⟩
    · rintro f130 wd131 ⟨s133, rfl, hq132⟩
      replace h := onRes_fin h
      obtain ⟨⟩ := s133
      replace hq132 : St w wd131 [] := hq132
      have hS134 := hq132
      show W _ _ _ _ _ _
      refine W.seq ?_
      refine W.region ?_
      refine WL.val (Value.bool true) _ (op_assign rfl) rfl ?_
      refine WL.nil ?_
      show W _ _ _ _ _ _
      refine W.ret ?_
      obtain rfl := Option.some.inj h
      show FinP _ _ _ _ _ _ _
      exact FinP.ret _ (res1 rfl rfl) ⟨rfl, hS134.ext⟩

theorem c_laws_eqRing {w : World} {a_Table : (List (List (List Int)))} {v_a_Table : Value} {b_Table : (List (List (List Int)))} {v_b_Table : Value} (r_a_Table : (Ty.sl (Ty.sl (Ty.sl (Ty.i .i64)))).rep w v_a_Table a_Table) (r_b_Table : (Ty.sl (Ty.sl (Ty.sl (Ty.i .i64)))).rep w v_b_Table b_Table) {res : Bool} (h : p_laws_eqRing a_Table b_Table  = some res) :
    Ret Try.prog 22 #[(Value.agg #[v_a_Table]), (Value.agg #[v_b_Table])] w (fun v w' => v = Value.bool res ∧ Ext w w') := by
  unfold p_laws_eqRing at h
  have hS0 : St w w [] := St.start w
  refine Ret.start (fn := Try.f22) Try.func22 rfl 11 rfl rfl ?_
  refine W.seq ?_
  refine W.region ?_
  refine WL.box hS0 rfl (cs := [v_a_Table]) rfl rfl ?_
  intro b1 wd2 hS3 he4 hx5
  replace hS3 : St w wd2 [bx b1 [v_a_Table]] := hS3
  have hx6 := St.boxAt hS3 0 rfl
  have hE7 : Ext w wd2 := hS3.ext
  have hS8 : St wd2 wd2 [] := St.start wd2
  refine WL.box hS8 rfl (cs := [v_b_Table]) rfl rfl ?_
  intro b9 wd10 hS11 he12 hx13
  replace hS11 : St wd2 wd10 [bx b9 [v_b_Table]] := hS11
  have hx14 := St.boxAt hS11 0 rfl
  have hE15 : Ext w wd10 := (Ext.trans hE7 hS11.ext)
  have hE16 : Ext wd2 wd10 := hS11.ext
  have hS17 : St wd10 wd10 [] := St.start wd10
  refine WL.val (Value.bool false) _ (op_assign rfl) rfl ?_
  refine WL.nil ?_
  show W _ _ _ _ _ _
  refine W.seq ?_
  refine W.seq ?_
  refine W.region ?_
  refine WL.val (Value.pointer (some ⟨b1, 0, none⟩)) _ (op_fieldAddr fd_27_0 rfl) rfl ?_
  refine WL.val v_a_Table _ (op_load one_25 rfl (BoxAt.cell (BoxAt.lift (Ext.trans hE16 hS17.ext) hx6) rfl)) rfl ?_
  refine WL.val (Value.pointer (some ⟨b9, 0, none⟩)) _ (op_fieldAddr fd_27_0 rfl) rfl ?_
  refine WL.val v_b_Table _ (op_load one_25 rfl (BoxAt.cell (BoxAt.lift hS17.ext hx14) rfl)) rfl ?_
  obtain ⟨x18, hx19, h⟩ := bs h
  refine WL.call _ (op_call fn_73 (args2 rfl rfl)) (c_laws_eqInt64SSS (Ty.lift _ (Ext.trans hE15 hS17.ext) r_a_Table) (Ty.lift _ (Ext.trans hE15 hS17.ext) r_b_Table) hx19) rfl ?_
  rintro _ wd20 ⟨rfl, he21⟩
  have hS23 := St.extend hS17 he21
  replace hS23 : St wd10 wd20 [] := hS23
  refine WL.val (Value.bool (!x18)) _ (op_not rfl) rfl ?_
  refine WL.nil ?_
  show W _ _ _ _ _ _
  refine W.cond (!x18) rfl (fun hc24 => ?_) (fun hc24 => ?_)
  · replace h := ip h hc24
    refine W.seq ?_
    refine W.region ?_
    refine WL.val (Value.bool false) _ (op_assign rfl) rfl ?_
    refine WL.nil ?_
    show W _ _ _ _ _ _
    refine W.ret ?_
    obtain rfl := Option.some.inj h
    show FinP _ _ _ _ _ _ _
    exact FinP.ret _ (res1 rfl rfl) ⟨rfl, (Ext.trans hE15 hS23.ext)⟩
  · replace h := inegb h hc24
    refine W.skip ?_
    show W _ _ _ _ _ _
    refine W.seq ?_
    refine W.region ?_
    refine WL.val (Value.bool true) _ (op_assign rfl) rfl ?_
    refine WL.nil ?_
    show W _ _ _ _ _ _
    refine W.ret ?_
    obtain rfl := Option.some.inj h
    show FinP _ _ _ _ _ _ _
    exact FinP.ret _ (res1 rfl rfl) ⟨rfl, (Ext.trans hE15 hS23.ext)⟩

theorem c_laws_szInt64SSS {w : World} {a : (List (List (List Int)))} {v_a : Value} {left : Int} (r_a : (Ty.sl (Ty.sl (Ty.sl (Ty.i .i64)))).rep w v_a a) (r_left : InR .i64 left) {res : Int} (h : p_laws_szInt64SSS a left  = some res) :
    Ret Try.prog 76 #[v_a, (Value.int .i64 left)] w (fun v w' => v = Value.int .i64 res ∧ InR .i64 res ∧ Ext w w') := by
  unfold p_laws_szInt64SSS at h
  have hS0 : St w w [] := St.start w
  refine Ret.start (fn := Try.f76) Try.func76 rfl 27 rfl rfl ?_
  refine W.seq ?_
  refine W.region ?_
  refine WL.val (Value.int .i64 (0 : Int)) _ (op_assign rfl) rfl ?_
  refine WL.nil ?_
  show W _ _ _ _ _ _
  refine W.seq ?_
  refine W.region ?_
  refine WL.val (Value.int .i64 left) _ (op_move rfl) rfl ?_
  refine WL.val v_a _ (op_move rfl) rfl ?_
  have hr1 := inR_len (Ty.lift _ hS0.ext r_a)
  refine WL.val (Value.int .i64 ((a).length : Int)) _ (op_lenL sl_25 (Ty.lift _ hS0.ext r_a) rfl) rfl ?_
  refine WL.val (Value.int .i64 (w64 (left - ((a).length : Int)))) _ (op_sub rfl rfl) rfl ?_
  refine WL.val (Value.int .i64 (w64 (left - ((a).length : Int)))) _ (op_assign rfl) rfl ?_
  refine WL.nil ?_
  show W _ _ _ _ _ _
  refine W.seq ?_
  refine W.seq ?_
  refine W.region ?_
  refine WL.val (Value.int .i64 (w64 (left - ((a).length : Int)))) _ (op_move rfl) rfl ?_
  refine WL.val (Value.bool (decide ((w64 (left - ((a).length : Int))) < (0 : Int)))) _ (op_lss rfl rfl) rfl ?_
  refine WL.nil ?_
  show W _ _ _ _ _ _
  refine W.cond (decide ((w64 (left - ((a).length : Int))) < (0 : Int))) rfl (fun hc2 => ?_) (fun hc2 => ?_)
  · replace h := ip h hc2
    refine W.seq ?_
    refine W.region ?_
    refine WL.val (Value.int .i64 (-1 : Int)) _ (op_assign rfl) rfl ?_
    refine WL.nil ?_
    show W _ _ _ _ _ _
    refine W.ret ?_
    obtain rfl := Option.some.inj h
    show FinP _ _ _ _ _ _ _
    exact FinP.ret _ (res1 rfl rfl) ⟨rfl, (inR_i64.2 (show (-9223372036854775808 : Int) ≤ -1 ∧ (-1 : Int) ≤ 9223372036854775807 from by decide)), hS0.ext⟩
  · replace h := inegb h hc2
    refine W.skip ?_
    show W _ _ _ _ _ _
    refine W.seq ?_
    refine W.seq ?_
    refine W.region ?_
    refine WL.val (Value.int .i64 (0 : Int)) _ (op_assign rfl) rfl ?_
    refine WL.nil ?_
    show W _ _ _ _ _ _
    obtain ⟨res4, hres5, h⟩ := bs h
    refine W.blockLoop (fun fq wq => ∃ s, res4 = Res.fin s ∧ fq 1 = Value.int .i64 s ∧ InR .i64 s ∧ St w wq []) ?_ ?_
    · refine W.forN (fun k (s : Int) fq wq => fq 0 = v_a ∧ fq 1 = Value.int .i64 s ∧ InR .i64 s ∧ fq 5 = Value.int .i64 (k : Int) ∧ InR .i64 (k : Int) ∧ St w wq []) hres5 ⟨rfl, rfl, (inR_wrap _ _), rfl, (inR_i64.2 (show (-9223372036854775808 : Int) ≤ 0 ∧ (0 : Int) ≤ 9223372036854775807 from by decide)), hS0⟩ ?_ ?_
      · intro k6 x7 ct8 f9 wd10 hk11 hb12 hI13 hbrk14 hret15
        replace hI13 : f9 0 = v_a ∧ f9 1 = Value.int .i64 x7 ∧ InR .i64 x7 ∧ f9 5 = Value.int .i64 (k6 : Int) ∧ InR .i64 (k6 : Int) ∧ St w wd10 [] := hI13
        replace hb12 : p_laws_szInt64SSS_L1 a k6 x7 = some ct8 := hb12
        unfold p_laws_szInt64SSS_L1 at hb12
        obtain ⟨hf16, hf17, hr18, hf19, hr20, hS21⟩ := hI13
        refine W.seq ?_
        refine W.seq ?_
        refine W.region ?_
        refine WL.val (Value.int .i64 (k6 : Int)) _ (op_move hf19) rfl ?_
        refine WL.val v_a _ (op_move hf16) rfl ?_
        have hr22 := inR_len (Ty.lift _ hS21.ext r_a)
        refine WL.val (Value.int .i64 ((a).length : Int)) _ (op_lenL sl_25 (Ty.lift _ hS21.ext r_a) rfl) rfl ?_
        refine WL.val (Value.bool (decide ((k6 : Int) < ((a).length : Int)))) _ (op_lss rfl rfl) rfl ?_
        have hl23 : (k6 : Int) < ((a).length : Int) := by omega
        refine WL.nil ?_
        show W _ _ _ _ _ _
        refine W.condT (decide ((k6 : Int) < ((a).length : Int))) rfl (decide_eq_true hl23) ?_
        refine W.skip ?_
        show W _ _ _ _ _ _
        refine W.seq ?_
        refine W.block ?_
        refine W.seq ?_
        refine W.region ?_
        refine WL.val v_a _ (op_move hf16) rfl ?_
        refine WL.val (Value.int .i64 (k6 : Int)) _ (op_move hf19) rfl ?_
        obtain ⟨x25, hx28, hb12⟩ := bs hb12
        obtain ⟨ha26, hb27, hx28⟩ := idx_some hx28
        refine WL.val (Value.pointer (some (elA v_a ((k6 : Int)).toNat))) _ (op_idx sl_25 (Ty.lift _ hS21.ext r_a) rfl rfl ha26 hb27) rfl ?_
        obtain ⟨u29, hc30, hr31⟩ := repSl.el r_a hx28
        refine WL.val u29 _ (op_load one_22 rfl (Ext.cell hS21.ext hc30)) rfl ?_
        refine WL.val (Value.int .i64 x7) _ (op_move hf17) rfl ?_
        obtain ⟨x32, hx33, hb12⟩ := bs hb12
        refine WL.call _ (op_call fn_17 (args2 rfl rfl)) (c_laws_szInt64SS (Ty.lift _ hS21.ext hr31) hr18 hx33) rfl ?_
        rintro _ wd35 ⟨rfl, hr34, he36⟩
        have hS38 := St.extend hS21 he36
        replace hS38 : St w wd35 [] := hS38
        refine WL.val (Value.int .i64 x32) _ (op_assign rfl) rfl ?_
        refine WL.nil ?_
        show W _ _ _ _ _ _
        refine W.seq ?_
        refine W.region ?_
        refine WL.val (Value.int .i64 x32) _ (op_move rfl) rfl ?_
        refine WL.val (Value.bool (decide (x32 < (0 : Int)))) _ (op_lss rfl rfl) rfl ?_
        refine WL.nil ?_
        show W _ _ _ _ _ _
        refine W.cond (decide (x32 < (0 : Int))) rfl (fun hc39 => ?_) (fun hc39 => ?_)
        · replace hb12 := ip hb12 hc39
          refine W.seq ?_
          refine W.region ?_
          refine WL.val (Value.int .i64 (-1 : Int)) _ (op_assign rfl) rfl ?_
          refine WL.nil ?_
          show W _ _ _ _ _ _
          refine W.ret ?_
          obtain rfl := Option.some.inj hb12
          obtain rfl := hret15 _ rfl
          replace h := onRes_ret h
          obtain rfl := Option.some.inj h
          show FinP _ _ _ _ _ _ _
          exact FinP.ret _ (res1 rfl rfl) ⟨rfl, (inR_i64.2 (show (-9223372036854775808 : Int) ≤ -1 ∧ (-1 : Int) ≤ 9223372036854775807 from by decide)), hS38.ext⟩
        · replace hb12 := inegb hb12 hc39
          refine W.skip ?_
          show W _ _ _ _ _ _
          refine W.region ?_
          refine WL.val (Value.int .i64 (k6 : Int)) _ (op_move hf19) rfl ?_
          refine WL.val (Value.int .i64 (w64 ((k6 : Int) + (1 : Int)))) _ (op_add rfl rfl) rfl ?_
          refine WL.val (Value.int .i64 (w64 ((k6 : Int) + (1 : Int)))) _ (op_assign rfl) rfl ?_
          refine WL.nil ?_
          obtain rfl := Option.some.inj hb12
          show ∃ s, _ = Ctl.next s ∧ _
          exact ⟨_, rfl, hf16, rfl, hr34, (ctr_next hl23 hr22), (ctr_rng hl23 hr22), hS38⟩
      · intro x47 f42 wd43 hs44 hI45
        replace hI45 : f42 0 = v_a ∧ f42 1 = Value.int .i64 x47 ∧ InR .i64 x47 ∧ f42 5 = Value.int .i64 (((a).length : Nat) : Int) ∧ InR .i64 (((a).length : Nat) : Int) ∧ St w wd43 [] := hI45
        obtain ⟨hf48, hf49, hr50, hf51, hr52, hS53⟩ := hI45
        refine W.seq ?_
        refine W.seq ?_
        refine W.region ?_
        refine WL.val (Value.int .i64 (((a).length : Nat) : Int)) _ (op_move hf51) rfl ?_
        refine WL.val v_a _ (op_move hf48) rfl ?_
        have hr54 := inR_len (Ty.lift _ hS53.ext r_a)
        refine WL.val (Value.int .i64 ((a).length : Int)) _ (op_lenL sl_25 (Ty.lift _ hS53.ext r_a) rfl) rfl ?_
        refine WL.val (Value.bool (decide ((((a).length : Nat) : Int) < ((a).length : Int)))) _ (op_lss rfl rfl) rfl ?_
        have hl55 : ¬ (((a).length : Nat) : Int) < ((a).length : Int) := by omega
        refine WL.nil ?_
        show W _ _ _ _ _ _
        refine W.condF (decide ((((a).length : Nat) : Int) < ((a).length : Int))) rfl (decide_eq_false hl55) ?_
        refine W.exit ?_
        show _ = _ ∧ _
        exact ⟨rfl, _, hs44, hf49, hr50, hS53⟩
    · rintro f56 wd57 ⟨x60, rfl, hq58⟩
      replace h := onRes_fin h
      replace hq58 : f56 1 = Value.int .i64 x60 ∧ InR .i64 x60 ∧ St w wd57 [] := hq58
      obtain ⟨hf61, hr62, hS63⟩ := hq58
      show W _ _ _ _ _ _
      refine W.seq ?_
      refine W.region ?_
      refine WL.val (Value.int .i64 x60) _ (op_move hf61) rfl ?_
      refine WL.val (Value.int .i64 x60) _ (op_assign rfl) rfl ?_
      refine WL.nil ?_
      show W _ _ _ _ _ _
      refine W.ret ?_
      obtain rfl := Option.some.inj h
      show FinP _ _ _ _ _ _ _
      exact FinP.ret _ (res1 rfl rfl) ⟨rfl, hr62, hS63.ext⟩

theorem c_laws_szRing {w : World} {a_Table : (List (List (List Int)))} {v_a_Table : Value} {left : Int} (r_a_Table : (Ty.sl (Ty.sl (Ty.sl (Ty.i .i64)))).rep w v_a_Table a_Table) (r_left : InR .i64 left) {res : Int} (h : p_laws_szRing a_Table left  = some res) :
    Ret Try.prog 29 #[(Value.agg #[v_a_Table]), (Value.int .i64 left)] w (fun v w' => v = Value.int .i64 res ∧ InR .i64 res ∧ Ext w w') := by
  unfold p_laws_szRing at h
  have hS0 : St w w [] := St.start w
  refine Ret.start (fn := Try.f29) Try.func29 rfl 12 rfl rfl ?_
  refine W.seq ?_
  refine W.region ?_
  refine WL.box hS0 rfl (cs := [v_a_Table]) rfl rfl ?_
  intro b1 wd2 hS3 he4 hx5
  replace hS3 : St w wd2 [bx b1 [v_a_Table]] := hS3
  have hx6 := St.boxAt hS3 0 rfl
  have hE7 : Ext w wd2 := hS3.ext
  have hS8 : St wd2 wd2 [] := St.start wd2
  refine WL.val (Value.int .i64 (0 : Int)) _ (op_assign rfl) rfl ?_
  refine WL.nil ?_
  show W _ _ _ _ _ _
  refine W.seq ?_
  refine W.region ?_
  refine WL.val (Value.pointer (some ⟨b1, 0, none⟩)) _ (op_fieldAddr fd_38_0 rfl) rfl ?_
  refine WL.val v_a_Table _ (op_load one_25 rfl (BoxAt.cell (BoxAt.lift hS8.ext hx6) rfl)) rfl ?_
  refine WL.val (Value.int .i64 left) _ (op_move rfl) rfl ?_
  obtain ⟨x9, hx10, h⟩ := bs h
  refine WL.call _ (op_call fn_76 (args2 rfl rfl)) (c_laws_szInt64SSS (Ty.lift _ (Ext.trans hE7 hS8.ext) r_a_Table) r_left hx10) rfl ?_
  rintro _ wd12 ⟨rfl, hr11, he13⟩
  have hS15 := St.extend hS8 he13
  replace hS15 : St wd2 wd12 [] := hS15
  refine WL.val (Value.int .i64 x9) _ (op_assign rfl) rfl ?_
  refine WL.nil ?_
  show W _ _ _ _ _ _
  refine W.seq ?_
  refine W.seq ?_
  refine W.region ?_
  refine WL.val (Value.int .i64 x9) _ (op_move rfl) rfl ?_
  refine WL.val (Value.bool (decide (x9 < (0 : Int)))) _ (op_lss rfl rfl) rfl ?_
  refine WL.nil ?_
  show W _ _ _ _ _ _
  refine W.cond (decide (x9 < (0 : Int))) rfl (fun hc16 => ?_) (fun hc16 => ?_)
  · replace h := ip h hc16
    refine W.seq ?_
    refine W.region ?_
    refine WL.val (Value.int .i64 (-1 : Int)) _ (op_assign rfl) rfl ?_
    refine WL.nil ?_
    show W _ _ _ _ _ _
    refine W.ret ?_
    obtain rfl := Option.some.inj h
    show FinP _ _ _ _ _ _ _
    exact FinP.ret _ (res1 rfl rfl) ⟨rfl, (inR_i64.2 (show (-9223372036854775808 : Int) ≤ -1 ∧ (-1 : Int) ≤ 9223372036854775807 from by decide)), (Ext.trans hE7 hS15.ext)⟩
  · replace h := inegb h hc16
    refine W.skip ?_
    show W _ _ _ _ _ _
    refine W.seq ?_
    refine W.region ?_
    refine WL.val (Value.int .i64 x9) _ (op_move rfl) rfl ?_
    refine WL.val (Value.int .i64 x9) _ (op_assign rfl) rfl ?_
    refine WL.nil ?_
    show W _ _ _ _ _ _
    refine W.ret ?_
    obtain rfl := Option.some.inj h
    show FinP _ _ _ _ _ _ _
    exact FinP.ret _ (res1 rfl rfl) ⟨rfl, hr11, (Ext.trans hE7 hS15.ext)⟩

theorem c_laws_toInt64SSS {w : World} {a : (List (List (List Int)))} {v_a : Value} (r_a : (Ty.sl (Ty.sl (Ty.sl (Ty.i .i64)))).rep w v_a a) {res : (List (List (List Int)))} (h : p_laws_toInt64SSS a  = some res) :
    Ret Try.prog 79 #[v_a] w (fun v w' => ∃ (u0 : Value), v = u0 ∧ Ext w w' ∧ Sep w.heap.size w' [(Ty.sl (Ty.sl (Ty.sl (Ty.i .i64)))).at u0 res]) := by
  unfold p_laws_toInt64SSS at h
  have hS0 : St w w [] := St.start w
  refine Ret.start (fn := Try.f79) Try.func79 rfl 23 rfl rfl ?_
  refine W.seq ?_
  refine W.region ?_
  refine WL.val (Value.slice none 0 0) _ (op_assign rfl) rfl ?_
  refine WL.nil ?_
  show W _ _ _ _ _ _
  refine W.seq ?_
  refine W.region ?_
  refine WL.val v_a _ (op_move rfl) rfl ?_
  have hr1 := inR_len (Ty.lift _ hS0.ext r_a)
  refine WL.val (Value.int .i64 ((a).length : Int)) _ (op_lenL sl_25 (Ty.lift _ hS0.ext r_a) rfl) rfl ?_
  obtain ⟨x2, hx3, h⟩ := bs h
  refine WL.make (t := (Ty.sl (Ty.sl (Ty.i .i64)))) hS0 sl_25 (fun S w => nilOwn _ S w) rfl rfl hx3 rfl rfl ?_
  intro u4 wd5 hS6 he7
  replace hS6 : St w wd5 [(Ty.sl (Ty.sl (Ty.sl (Ty.i .i64)))).at u4 x2] := hS6
  refine WL.val u4 _ (op_assign rfl) rfl ?_
  refine WL.nil ?_
  show W _ _ _ _ _ _
  refine W.seq ?_
  refine W.seq ?_
  refine W.region ?_
  refine WL.val (Value.int .i64 (0 : Int)) _ (op_assign rfl) rfl ?_
  refine WL.nil ?_
  show W _ _ _ _ _ _
  obtain ⟨res8, hres9, h⟩ := bs h
  refine W.blockLoop (fun fq wq => ∃ s, res8 = Res.fin s ∧ fq 3 = u4 ∧ St w wq [(Ty.sl (Ty.sl (Ty.sl (Ty.i .i64)))).at u4 s]) ?_ ?_
  · refine W.forN (fun k (s : (List (List (List Int)))) fq wq => fq 0 = v_a ∧ fq 3 = u4 ∧ fq 4 = Value.int .i64 (k : Int) ∧ InR .i64 (k : Int) ∧ St w wq [(Ty.sl (Ty.sl (Ty.sl (Ty.i .i64)))).at u4 s]) hres9 ⟨rfl, rfl, rfl, (inR_i64.2 (show (-9223372036854775808 : Int) ≤ 0 ∧ (0 : Int) ≤ 9223372036854775807 from by decide)), hS6⟩ ?_ ?_
    · intro k10 x11 ct12 f13 wd14 hk15 hb16 hI17 hbrk18 hret19
      replace hI17 : f13 0 = v_a ∧ f13 3 = u4 ∧ f13 4 = Value.int .i64 (k10 : Int) ∧ InR .i64 (k10 : Int) ∧ St w wd14 [(Ty.sl (Ty.sl (Ty.sl (Ty.i .i64)))).at u4 x11] := hI17
      replace hb16 : p_laws_toInt64SSS_L1 a k10 x11 = some ct12 := hb16
      unfold p_laws_toInt64SSS_L1 at hb16
      obtain ⟨hf20, hf21, hf22, hr23, hS24⟩ := hI17
      refine W.seq ?_
      refine W.seq ?_
      refine W.region ?_
      refine WL.val (Value.int .i64 (k10 : Int)) _ (op_move hf22) rfl ?_
      refine WL.val v_a _ (op_move hf20) rfl ?_
      have hr25 := inR_len (Ty.lift _ hS24.ext r_a)
      refine WL.val (Value.int .i64 ((a).length : Int)) _ (op_lenL sl_25 (Ty.lift _ hS24.ext r_a) rfl) rfl ?_
      refine WL.val (Value.bool (decide ((k10 : Int) < ((a).length : Int)))) _ (op_lss rfl rfl) rfl ?_
      have hl26 : (k10 : Int) < ((a).length : Int) := by omega
      refine WL.nil ?_
      show W _ _ _ _ _ _
      refine W.condT (decide ((k10 : Int) < ((a).length : Int))) rfl (decide_eq_true hl26) ?_
      refine W.skip ?_
      show W _ _ _ _ _ _
      refine W.seq ?_
      refine W.block ?_
      refine W.region ?_
      refine WL.val u4 _ (op_move hf21) rfl ?_
      refine WL.val (Value.int .i64 (k10 : Int)) _ (op_move hf22) rfl ?_
      refine WL.val v_a _ (op_move hf20) rfl ?_
      refine WL.val (Value.int .i64 (k10 : Int)) _ (op_move hf22) rfl ?_
      obtain ⟨x28, hx31, hb16⟩ := bs hb16
      obtain ⟨ha29, hb30, hx31⟩ := idx_some hx31
      refine WL.val (Value.pointer (some (elA v_a ((k10 : Int)).toNat))) _ (op_idx sl_25 (Ty.lift _ hS24.ext r_a) rfl rfl ha29 hb30) rfl ?_
      obtain ⟨u32, hc33, hr34⟩ := repSl.el r_a hx31
      refine WL.val u32 _ (op_load one_22 rfl (Ext.cell hS24.ext hc33)) rfl ?_
      obtain ⟨x35, hx36, hb16⟩ := bs hb16
      refine WL.call _ (op_call fn_19 (args1 rfl)) (c_laws_toInt64SS (Ty.lift _ hS24.ext hr34) hx36) rfl ?_
      rintro u37 wd38 ⟨_, rfl, he39, hs40⟩
      have hS41 := St.join hS24 he39 hs40
      replace hS41 : St w wd38 [(Ty.sl (Ty.sl (Ty.sl (Ty.i .i64)))).at u4 x11, (Ty.sl (Ty.sl (Ty.i .i64))).at u37 x35] := hS41
      obtain ⟨x42, hx45, hb16⟩ := bs hb16
      obtain ⟨ha43, hb44, hx45⟩ := idx_some hx45
      refine WL.val (Value.pointer (some (elA u4 ((k10 : Int)).toNat))) _ (op_idx sl_25 (St.rep (t := (Ty.sl (Ty.sl (Ty.sl (Ty.i .i64))))) hS41 0 rfl) rfl rfl ha43 hb44) rfl ?_
      refine WL.storeRow hS41 (k := 0) (k2 := 1) rfl rfl rfl sz_22 rfl rfl (by omega) ?_
      intro wd46 hS47
      replace hS47 : St w wd46 [(Ty.sl (Ty.sl (Ty.sl (Ty.i .i64)))).at u4 ((x11).set ((k10 : Int)).toNat x35), emp] := hS47
      refine WL.nil ?_
      show W _ _ _ _ _ _
      refine W.region ?_
      refine WL.val (Value.int .i64 (k10 : Int)) _ (op_move hf22) rfl ?_
      refine WL.val (Value.int .i64 (w64 ((k10 : Int) + (1 : Int)))) _ (op_add rfl rfl) rfl ?_
      refine WL.val (Value.int .i64 (w64 ((k10 : Int) + (1 : Int)))) _ (op_assign rfl) rfl ?_
      refine WL.nil ?_
      obtain rfl := Option.some.inj hb16
      show ∃ s, _ = Ctl.next s ∧ _
      exact ⟨_, rfl, hf20, hf21, (ctr_next hl26 hr25), (ctr_rng hl26 hr25), (St.pick hS47 [0] rfl)⟩
    · intro x54 f49 wd50 hs51 hI52
      replace hI52 : f49 0 = v_a ∧ f49 3 = u4 ∧ f49 4 = Value.int .i64 (((a).length : Nat) : Int) ∧ InR .i64 (((a).length : Nat) : Int) ∧ St w wd50 [(Ty.sl (Ty.sl (Ty.sl (Ty.i .i64)))).at u4 x54] := hI52
      obtain ⟨hf55, hf56, hf57, hr58, hS59⟩ := hI52
      refine W.seq ?_
      refine W.seq ?_
      refine W.region ?_
      refine WL.val (Value.int .i64 (((a).length : Nat) : Int)) _ (op_move hf57) rfl ?_
      refine WL.val v_a _ (op_move hf55) rfl ?_
      have hr60 := inR_len (Ty.lift _ hS59.ext r_a)
      refine WL.val (Value.int .i64 ((a).length : Int)) _ (op_lenL sl_25 (Ty.lift _ hS59.ext r_a) rfl) rfl ?_
      refine WL.val (Value.bool (decide ((((a).length : Nat) : Int) < ((a).length : Int)))) _ (op_lss rfl rfl) rfl ?_
      have hl61 : ¬ (((a).length : Nat) : Int) < ((a).length : Int) := by omega
      refine WL.nil ?_
      show W _ _ _ _ _ _
      refine W.condF (decide ((((a).length : Nat) : Int) < ((a).length : Int))) rfl (decide_eq_false hl61) ?_
      refine W.exit ?_
      show _ = _ ∧ _
      exact ⟨rfl, _, hs51, hf56, hS59⟩
  · rintro f62 wd63 ⟨x66, rfl, hq64⟩
    replace h := onRes_fin h
    replace hq64 : f62 3 = u4 ∧ St w wd63 [(Ty.sl (Ty.sl (Ty.sl (Ty.i .i64)))).at u4 x66] := hq64
    obtain ⟨hf67, hS68⟩ := hq64
    show W _ _ _ _ _ _
    refine W.seq ?_
    refine W.region ?_
    refine WL.val u4 _ (op_move hf67) rfl ?_
    refine WL.val u4 _ (op_assign rfl) rfl ?_
    refine WL.nil ?_
    show W _ _ _ _ _ _
    refine W.ret ?_
    obtain rfl := Option.some.inj h
    show FinP _ _ _ _ _ _ _
    exact FinP.ret _ (res1 rfl rfl) ⟨u4, rfl, hS68.ext, (St.out (St.pick hS68 [0] rfl) (Ext.refl _))⟩

theorem c_laws_toRing {w : World} {a_Table : (List (List (List Int)))} {v_a_Table : Value} (r_a_Table : (Ty.sl (Ty.sl (Ty.sl (Ty.i .i64)))).rep w v_a_Table a_Table) {res : (List (List (List Int)))} (h : p_laws_toRing a_Table  = some res) :
    Ret Try.prog 31 #[(Value.agg #[v_a_Table])] w (fun v w' => ∃ (u0 : Value), v = (Value.agg #[u0]) ∧ Ext w w' ∧ Sep w.heap.size w' [(Ty.sl (Ty.sl (Ty.sl (Ty.i .i64)))).at u0 res]) := by
  unfold p_laws_toRing at h
  have hS0 : St w w [] := St.start w
  refine Ret.start (fn := Try.f31) Try.func31 rfl 9 rfl rfl ?_
  refine W.seq ?_
  refine W.region ?_
  refine WL.box hS0 rfl (cs := [v_a_Table]) rfl rfl ?_
  intro b1 wd2 hS3 he4 hx5
  replace hS3 : St w wd2 [bx b1 [v_a_Table]] := hS3
  have hx6 := St.boxAt hS3 0 rfl
  have hE7 : Ext w wd2 := hS3.ext
  have hS8 : St wd2 wd2 [] := St.start wd2
  refine WL.alloc hS8 ze_27 (cs := [(Value.slice none 0 0)]) rfl rfl ?_
  intro b9 wd10 hS11 he12
  replace hS11 : St wd2 wd10 [bx b9 [(Value.slice none 0 0)]] := hS11
  refine WL.nil ?_
  show W _ _ _ _ _ _
  refine W.seq ?_
  refine W.region ?_
  refine WL.alloc hS11 ze_27 (cs := [(Value.slice none 0 0)]) rfl rfl ?_
  intro b13 wd14 hS15 he16
  replace hS15 : St wd2 wd14 [bx b9 [(Value.slice none 0 0)], bx b13 [(Value.slice none 0 0)]] := hS15
  refine WL.nil ?_
  show W _ _ _ _ _ _
  refine W.seq ?_
  refine W.region ?_
  refine WL.val (Value.pointer (some ⟨b1, 0, none⟩)) _ (op_fieldAddr fd_38_0 rfl) rfl ?_
  refine WL.val v_a_Table _ (op_load one_25 rfl (BoxAt.cell (BoxAt.lift hS15.ext hx6) rfl)) rfl ?_
  obtain ⟨x17, hx18, h⟩ := bs h
  refine WL.call _ (op_call fn_79 (args1 rfl)) (c_laws_toInt64SSS (Ty.lift _ (Ext.trans hE7 hS15.ext) r_a_Table) hx18) rfl ?_
  rintro u19 wd20 ⟨_, rfl, he21, hs22⟩
  have hS23 := St.join hS15 he21 hs22
  replace hS23 : St wd2 wd20 [bx b9 [(Value.slice none 0 0)], bx b13 [(Value.slice none 0 0)], (Ty.sl (Ty.sl (Ty.sl (Ty.i .i64)))).at u19 x17] := hS23
  refine WL.val (Value.pointer (some ⟨b13, 0, none⟩)) _ (op_fieldAddr fd_27_0 rfl) rfl ?_
  refine WL.storeBox [u19] hS23 (k := 1) rfl rfl rfl (us := [u19]) (cells_rep (St.rep (t := (Ty.sl (Ty.sl (Ty.sl (Ty.i .i64))))) hS23 2 rfl)) sz_25 rfl rfl (all_rep (St.rep (t := (Ty.sl (Ty.sl (Ty.sl (Ty.i .i64))))) hS23 2 rfl) all_nil) rfl ?_
  intro wd24 hS25
  replace hS25 : St wd2 wd24 [bx b9 [(Value.slice none 0 0)], bx b13 [u19], (Ty.sl (Ty.sl (Ty.sl (Ty.i .i64)))).at u19 x17] := hS25
  refine WL.nil ?_
  show W _ _ _ _ _ _
  refine W.seq ?_
  refine W.region ?_
  refine WL.val (Value.agg #[u19]) _ (op_loadBox st_27 rfl (St.boxAt hS25 1 rfl) rfl rfl) rfl ?_
  refine WL.storeBox [u19] hS25 (k := 0) rfl rfl rfl (us := [u19]) rfl sz_27 rfl rfl (all_rep (St.rep (t := (Ty.sl (Ty.sl (Ty.sl (Ty.i .i64))))) hS25 2 rfl) all_nil) rfl ?_
  intro wd26 hS27
  replace hS27 : St wd2 wd26 [bx b9 [u19], bx b13 [u19], (Ty.sl (Ty.sl (Ty.sl (Ty.i .i64)))).at u19 x17] := hS27
  refine WL.nil ?_
  show W _ _ _ _ _ _
  refine W.ret ?_
  obtain rfl := Option.some.inj h
  show FinP _ _ _ _ _ _ _
  exact FinP.ret _ (resC rfl rfl st_27 (St.boxAt hS27 0 rfl) rfl) ⟨u19, rfl, (Ext.trans hE7 hS27.ext), (St.out (St.pick hS27 [2] rfl) (hE7))⟩

theorem c_spec_l08Code {w : World} {r_Table : (List (List (List Int)))} {v_r_Table : Value} (r_r_Table : (Ty.sl (Ty.sl (Ty.sl (Ty.i .i64)))).rep w v_r_Table r_Table) {res : Int} (h : p_spec_l08Code r_Table  = some res) :
    Ret Try.prog 93 #[(Value.agg #[v_r_Table])] w (fun v w' => v = Value.int .i64 res ∧ InR .i64 res ∧ Ext w w') := by
  unfold p_spec_l08Code at h
  have hS0 : St w w [] := St.start w
  refine Ret.start (fn := Try.f93) Try.func93 rfl 9 rfl rfl ?_
  refine W.seq ?_
  refine W.region ?_
  refine WL.box hS0 rfl (cs := [v_r_Table]) rfl rfl ?_
  intro b1 wd2 hS3 he4 hx5
  replace hS3 : St w wd2 [bx b1 [v_r_Table]] := hS3
  have hx6 := St.boxAt hS3 0 rfl
  have hE7 : Ext w wd2 := hS3.ext
  have hS8 : St wd2 wd2 [] := St.start wd2
  refine WL.val (Value.int .i64 (0 : Int)) _ (op_assign rfl) rfl ?_
  refine WL.nil ?_
  show W _ _ _ _ _ _
  refine W.seq ?_
  refine W.seq ?_
  refine W.region ?_
  refine WL.val (Value.agg #[v_r_Table]) _ (op_loadBox st_27 rfl (BoxAt.lift hS8.ext hx6) rfl rfl) rfl ?_
  obtain ⟨x9, hx10, h⟩ := bs h
  refine WL.call _ (op_call fn_83 (args1 rfl)) (c_spec_l03Is (Ty.lift _ (Ext.trans hE7 hS8.ext) r_r_Table) hx10) rfl ?_
  rintro _ wd11 ⟨rfl, he12⟩
  have hS14 := St.extend hS8 he12
  replace hS14 : St wd2 wd11 [] := hS14
  refine WL.val (Value.bool (!x9)) _ (op_not rfl) rfl ?_
  refine WL.nil ?_
  show W _ _ _ _ _ _
  refine W.cond (!x9) rfl (fun hc15 => ?_) (fun hc15 => ?_)
  · replace h := ip h hc15
    refine W.seq ?_
    refine W.region ?_
    refine WL.val (Value.int .i64 (1 : Int)) _ (op_assign rfl) rfl ?_
    refine WL.nil ?_
    show W _ _ _ _ _ _
    refine W.ret ?_
    obtain rfl := Option.some.inj h
    show FinP _ _ _ _ _ _ _
    exact FinP.ret _ (res1 rfl rfl) ⟨rfl, (inR_i64.2 (show (-9223372036854775808 : Int) ≤ 1 ∧ (1 : Int) ≤ 9223372036854775807 from by decide)), (Ext.trans hE7 hS14.ext)⟩
  · replace h := inegb h hc15
    refine W.skip ?_
    show W _ _ _ _ _ _
    refine W.seq ?_
    refine W.seq ?_
    refine W.region ?_
    refine WL.val (Value.agg #[v_r_Table]) _ (op_loadBox st_27 rfl (BoxAt.lift hS14.ext hx6) rfl rfl) rfl ?_
    obtain ⟨x17, hx18, h⟩ := bs h
    refine WL.call _ (op_call fn_84 (args1 rfl)) (c_spec_l03Commutative (Ty.lift _ (Ext.trans hE7 hS14.ext) r_r_Table) hx18) rfl ?_
    rintro _ wd19 ⟨rfl, he20⟩
    have hS22 := St.extend hS14 he20
    replace hS22 : St wd2 wd19 [] := hS22
    refine WL.val (Value.bool (!x17)) _ (op_not rfl) rfl ?_
    refine WL.nil ?_
    show W _ _ _ _ _ _
    refine W.cond (!x17) rfl (fun hc23 => ?_) (fun hc23 => ?_)
    · replace h := ip h hc23
      refine W.seq ?_
      refine W.region ?_
      refine WL.val (Value.int .i64 (5 : Int)) _ (op_assign rfl) rfl ?_
      refine WL.nil ?_
      show W _ _ _ _ _ _
      refine W.ret ?_
      obtain rfl := Option.some.inj h
      show FinP _ _ _ _ _ _ _
      exact FinP.ret _ (res1 rfl rfl) ⟨rfl, (inR_i64.2 (show (-9223372036854775808 : Int) ≤ 5 ∧ (5 : Int) ≤ 9223372036854775807 from by decide)), (Ext.trans hE7 hS22.ext)⟩
    · replace h := inegb h hc23
      refine W.skip ?_
      show W _ _ _ _ _ _
      refine W.seq ?_
      refine W.region ?_
      refine WL.val (Value.int .i64 (0 : Int)) _ (op_assign rfl) rfl ?_
      refine WL.nil ?_
      show W _ _ _ _ _ _
      refine W.ret ?_
      obtain rfl := Option.some.inj h
      show FinP _ _ _ _ _ _ _
      exact FinP.ret _ (res1 rfl rfl) ⟨rfl, (inR_i64.2 (show (-9223372036854775808 : Int) ≤ 0 ∧ (0 : Int) ≤ 9223372036854775807 from by decide)), (Ext.trans hE7 hS22.ext)⟩

theorem c_impl_commuteCode {w : World} {r_Table : (List (List (List Int)))} {v_r_Table : Value} (r_r_Table : (Ty.sl (Ty.sl (Ty.sl (Ty.i .i64)))).rep w v_r_Table r_Table) {res : Int} (h : p_impl_commuteCode r_Table  = some res) :
    Ret Try.prog 80 #[(Value.agg #[v_r_Table])] w (fun v w' => v = Value.int .i64 res ∧ InR .i64 res ∧ Ext w w') := by
  unfold p_impl_commuteCode at h
  have hS0 : St w w [] := St.start w
  refine Ret.start (fn := Try.f80) Try.func80 rfl 9 rfl rfl ?_
  refine W.seq ?_
  refine W.region ?_
  refine WL.box hS0 rfl (cs := [v_r_Table]) rfl rfl ?_
  intro b1 wd2 hS3 he4 hx5
  replace hS3 : St w wd2 [bx b1 [v_r_Table]] := hS3
  have hx6 := St.boxAt hS3 0 rfl
  have hE7 : Ext w wd2 := hS3.ext
  have hS8 : St wd2 wd2 [] := St.start wd2
  refine WL.val (Value.int .i64 (0 : Int)) _ (op_assign rfl) rfl ?_
  refine WL.nil ?_
  show W _ _ _ _ _ _
  refine W.seq ?_
  refine W.seq ?_
  refine W.region ?_
  refine WL.val (Value.agg #[v_r_Table]) _ (op_loadBox st_27 rfl (BoxAt.lift hS8.ext hx6) rfl rfl) rfl ?_
  obtain ⟨x9, hx10, h⟩ := bs h
  refine WL.call _ (op_call fn_69 (args1 rfl)) (c_impl_IsRing (Ty.lift _ (Ext.trans hE7 hS8.ext) r_r_Table) hx10) rfl ?_
  rintro _ wd11 ⟨rfl, he12⟩
  have hS14 := St.extend hS8 he12
  replace hS14 : St wd2 wd11 [] := hS14
  refine WL.val (Value.bool (!x9)) _ (op_not rfl) rfl ?_
  refine WL.nil ?_
  show W _ _ _ _ _ _
  refine W.cond (!x9) rfl (fun hc15 => ?_) (fun hc15 => ?_)
  · replace h := ip h hc15
    refine W.seq ?_
    refine W.region ?_
    refine WL.val (Value.int .i64 (1 : Int)) _ (op_assign rfl) rfl ?_
    refine WL.nil ?_
    show W _ _ _ _ _ _
    refine W.ret ?_
    obtain rfl := Option.some.inj h
    show FinP _ _ _ _ _ _ _
    exact FinP.ret _ (res1 rfl rfl) ⟨rfl, (inR_i64.2 (show (-9223372036854775808 : Int) ≤ 1 ∧ (1 : Int) ≤ 9223372036854775807 from by decide)), (Ext.trans hE7 hS14.ext)⟩
  · replace h := inegb h hc15
    refine W.skip ?_
    show W _ _ _ _ _ _
    refine W.seq ?_
    refine W.seq ?_
    refine W.region ?_
    refine WL.val (Value.agg #[v_r_Table]) _ (op_loadBox st_27 rfl (BoxAt.lift hS14.ext hx6) rfl rfl) rfl ?_
    obtain ⟨x17, hx18, h⟩ := bs h
    refine WL.call _ (op_call fn_70 (args1 rfl)) (c_impl_Ring_isCommutative (Ty.lift _ (Ext.trans hE7 hS14.ext) r_r_Table) hx18) rfl ?_
    rintro _ wd19 ⟨rfl, he20⟩
    have hS22 := St.extend hS14 he20
    replace hS22 : St wd2 wd19 [] := hS22
    refine WL.val (Value.bool (!x17)) _ (op_not rfl) rfl ?_
    refine WL.nil ?_
    show W _ _ _ _ _ _
    refine W.cond (!x17) rfl (fun hc23 => ?_) (fun hc23 => ?_)
    · replace h := ip h hc23
      refine W.seq ?_
      refine W.region ?_
      refine WL.val (Value.int .i64 (5 : Int)) _ (op_assign rfl) rfl ?_
      refine WL.nil ?_
      show W _ _ _ _ _ _
      refine W.ret ?_
      obtain rfl := Option.some.inj h
      show FinP _ _ _ _ _ _ _
      exact FinP.ret _ (res1 rfl rfl) ⟨rfl, (inR_i64.2 (show (-9223372036854775808 : Int) ≤ 5 ∧ (5 : Int) ≤ 9223372036854775807 from by decide)), (Ext.trans hE7 hS22.ext)⟩
    · replace h := inegb h hc23
      refine W.skip ?_
      show W _ _ _ _ _ _
      refine W.seq ?_
      refine W.region ?_
      refine WL.val (Value.int .i64 (0 : Int)) _ (op_assign rfl) rfl ?_
      refine WL.nil ?_
      show W _ _ _ _ _ _
      refine W.ret ?_
      obtain rfl := Option.some.inj h
      show FinP _ _ _ _ _ _ _
      exact FinP.ret _ (res1 rfl rfl) ⟨rfl, (inR_i64.2 (show (-9223372036854775808 : Int) ≤ 0 ∧ (0 : Int) ≤ 9223372036854775807 from by decide)), (Ext.trans hE7 hS22.ext)⟩

theorem c_spec_l15Labels {w : World} {n : Int} {labels : (List Int)} {v_labels : Value} (r_n : InR .i64 n) (r_labels : (Ty.sl (Ty.i .i64)).rep w v_labels labels) {res : Bool} (h : p_spec_l15Labels n labels  = some res) :
    Ret Try.prog 94 #[(Value.int .i64 n), v_labels] w (fun v w' => v = Value.bool res ∧ Ext w w') := by
  unfold p_spec_l15Labels at h
  have hS0 : St w w [] := St.start w
  refine Ret.start (fn := Try.f94) Try.func94 rfl 23 rfl rfl ?_
  refine W.seq ?_
  refine W.region ?_
  refine WL.val (Value.bool false) _ (op_assign rfl) rfl ?_
  refine WL.nil ?_
  show W _ _ _ _ _ _
  refine W.seq ?_
  refine W.seq ?_
  refine W.region ?_
  refine WL.val (Value.int .i64 (0 : Int)) _ (op_assign rfl) rfl ?_
  refine WL.nil ?_
  show W _ _ _ _ _ _
  obtain ⟨res1, hres2, h⟩ := bs h
  refine W.blockLoop (fun fq wq => ∃ s, res1 = Res.fin s ∧ fq 1 = v_labels ∧ St w wq []) ?_ ?_
  · refine W.forN (fun k (s : Unit) fq wq => fq 0 = (Value.int .i64 n) ∧ fq 1 = v_labels ∧ fq 5 = Value.int .i64 (k : Int) ∧ InR .i64 (k : Int) ∧ St w wq []) hres2 ⟨rfl, rfl, rfl, (inR_i64.2 (show (-9223372036854775808 : Int) ≤ 0 ∧ (0 : Int) ≤ 9223372036854775807 from by decide)), hS0⟩ ?_ ?_
    · intro k3 s35 ct4 f5 wd6 hk7 hb8 hI9 hbrk10 hret11
      obtain ⟨⟩ := s35
      replace hI9 : f5 0 = (Value.int .i64 n) ∧ f5 1 = v_labels ∧ f5 5 = Value.int .i64 (k3 : Int) ∧ InR .i64 (k3 : Int) ∧ St w wd6 [] := hI9
      replace hb8 : p_spec_l15Labels_L1 labels n k3  = some ct4 := hb8
      unfold p_spec_l15Labels_L1 at hb8
      obtain ⟨hf12, hf13, hf14, hr15, hS16⟩ := hI9
      refine W.seq ?_
      refine W.seq ?_
      refine W.region ?_
      refine WL.val (Value.int .i64 (k3 : Int)) _ (op_move hf14) rfl ?_
      refine WL.val v_labels _ (op_move hf13) rfl ?_
      have hr17 := inR_len (Ty.lift _ hS16.ext r_labels)
      refine WL.val (Value.int .i64 ((labels).length : Int)) _ (op_lenL sl_23 (Ty.lift _ hS16.ext r_labels) rfl) rfl ?_
      refine WL.val (Value.bool (decide ((k3 : Int) < ((labels).length : Int)))) _ (op_lss rfl rfl) rfl ?_
      have hl18 : (k3 : Int) < ((labels).length : Int) := by omega
      refine WL.nil ?_
      show W _ _ _ _ _ _
      refine W.condT (decide ((k3 : Int) < ((labels).length : Int))) rfl (decide_eq_true hl18) ?_
      refine W.skip ?_
      show W _ _ _ _ _ _
      refine W.seq ?_
      refine W.block ?_
      refine W.seq ?_
      refine W.region ?_
      refine WL.val v_labels _ (op_move hf13) rfl ?_
      refine WL.val (Value.int .i64 (k3 : Int)) _ (op_move hf14) rfl ?_
      obtain ⟨x20, hx23, hb8⟩ := bs hb8
      obtain ⟨ha21, hb22, hx23⟩ := idx_some hx23
      refine WL.val (Value.pointer (some (elA v_labels ((k3 : Int)).toNat))) _ (op_idx sl_23 (Ty.lift _ hS16.ext r_labels) rfl rfl ha21 hb22) rfl ?_
      obtain ⟨u24, hc25, hr26⟩ := repSl.el r_labels hx23
      obtain ⟨rfl, hr26⟩ := hr26
      refine WL.val (Value.int .i64 x20) _ (op_load one_2 rfl (Ext.cell hS16.ext hc25)) rfl ?_
      refine WL.val (Value.int .i64 n) _ (op_move hf12) rfl ?_
      refine WL.val (Value.int .i64 (w64 (n - (1 : Int)))) _ (op_sub rfl rfl) rfl ?_
      obtain ⟨x27, hx28, hb8⟩ := bs hb8
      refine WL.call _ (op_call fn_99 (args3 rfl rfl rfl)) (c_spec_l01In hr26 (inR_i64.2 (show (-9223372036854775808 : Int) ≤ 0 ∧ (0 : Int) ≤ 9223372036854775807 from by decide)) (inR_wrap _ _) hx28) rfl ?_
      rintro _ wd29 ⟨rfl, he30⟩
      have hS32 := St.extend hS16 he30
      replace hS32 : St w wd29 [] := hS32
      refine WL.val (Value.bool (!x27)) _ (op_not rfl) rfl ?_
      refine WL.nil ?_
      show W _ _ _ _ _ _
      refine W.cond (!x27) rfl (fun hc33 => ?_) (fun hc33 => ?_)
      · replace hb8 := ip hb8 hc33
        refine W.seq ?_
        refine W.region ?_
        refine WL.val (Value.bool false) _ (op_assign rfl) rfl ?_
        refine WL.nil ?_
        show W _ _ _ _ _ _
        refine W.ret ?_
        obtain rfl := Option.some.inj hb8
        obtain rfl := hret11 _ rfl
        replace h := onRes_ret h
        obtain rfl := Option.some.inj h
        show FinP _ _ _ _ _ _ _
        exact FinP.ret _ (res1 rfl rfl) ⟨rfl, hS32.ext⟩
      · replace hb8 := inegb hb8 hc33
        refine W.skip ?_
        show W _ _ _ _ _ _
        refine W.region ?_
        refine WL.val (Value.int .i64 (k3 : Int)) _ (op_move hf14) rfl ?_
        refine WL.val (Value.int .i64 (w64 ((k3 : Int) + (1 : Int)))) _ (op_add rfl rfl) rfl ?_
        refine WL.val (Value.int .i64 (w64 ((k3 : Int) + (1 : Int)))) _ (op_assign rfl) rfl ?_
        refine WL.nil ?_
        obtain rfl := Option.some.inj hb8
        show ∃ s, _ = Ctl.next s ∧ _
        exact ⟨_, rfl, hf12, hf13, (ctr_next hl18 hr17), (ctr_rng hl18 hr17), hS32⟩
    · intro s40 f36 wd37 hs38 hI39
      obtain ⟨⟩ := s40
      replace hI39 : f36 0 = (Value.int .i64 n) ∧ f36 1 = v_labels ∧ f36 5 = Value.int .i64 (((labels).length : Nat) : Int) ∧ InR .i64 (((labels).length : Nat) : Int) ∧ St w wd37 [] := hI39
      obtain ⟨hf41, hf42, hf43, hr44, hS45⟩ := hI39
      refine W.seq ?_
      refine W.seq ?_
      refine W.region ?_
      refine WL.val (Value.int .i64 (((labels).length : Nat) : Int)) _ (op_move hf43) rfl ?_
      refine WL.val v_labels _ (op_move hf42) rfl ?_
      have hr46 := inR_len (Ty.lift _ hS45.ext r_labels)
      refine WL.val (Value.int .i64 ((labels).length : Int)) _ (op_lenL sl_23 (Ty.lift _ hS45.ext r_labels) rfl) rfl ?_
      refine WL.val (Value.bool (decide ((((labels).length : Nat) : Int) < ((labels).length : Int)))) _ (op_lss rfl rfl) rfl ?_
      have hl47 : ¬ (((labels).length : Nat) : Int) < ((labels).length : Int) := by omega
      refine WL.nil ?_
      show W _ _ _ _ _ _
      refine W.condF (decide ((((labels).length : Nat) : Int) < ((labels).length : Int))) rfl (decide_eq_false hl47) ?_
      refine W.exit ?_
      show _ = _ ∧ _
      exact ⟨rfl, _, hs38, hf42, hS45⟩
  · rintro f48 wd49 ⟨s51, rfl, hq50⟩
    replace h := onRes_fin h
    obtain ⟨⟩ := s51
    replace hq50 : f48 1 = v_labels ∧ St w wd49 [] := hq50
    obtain ⟨hf52, hS53⟩ := hq50
    show W _ _ _ _ _ _
    refine W.seq ?_
    refine W.region ?_
    refine WL.val v_labels _ (op_move hf52) rfl ?_
    have hr54 := inR_len (Ty.lift _ hS53.ext r_labels)
    refine WL.val (Value.int .i64 ((labels).length : Int)) _ (op_lenL sl_23 (Ty.lift _ hS53.ext r_labels) rfl) rfl ?_
    refine WL.val (Value.bool (decide (((labels).length : Int) ≤ (8 : Int)))) _ (op_leq rfl rfl) rfl ?_
    refine WL.val (Value.bool (decide (((labels).length : Int) ≤ (8 : Int)))) _ (op_assign rfl) rfl ?_
    refine WL.nil ?_
    show W _ _ _ _ _ _
    refine W.ret ?_
    obtain rfl := Option.some.inj h
    show FinP _ _ _ _ _ _ _
    exact FinP.ret _ (res1 rfl rfl) ⟨rfl, hS53.ext⟩

theorem c_spec_l15Trousers {w : World} {r_Table : (List (List (List Int)))} {v_r_Table : Value} {i : Int} {j : Int} {k1 : Int} (r_r_Table : (Ty.sl (Ty.sl (Ty.sl (Ty.i .i64)))).rep w v_r_Table r_Table) (r_i : InR .i64 i) (r_j : InR .i64 j) (r_k1 : InR .i64 k1) {res : Int} (h : p_spec_l15Trousers r_Table i j k1  = some res) :
    Ret Try.prog 95 #[(Value.agg #[v_r_Table]), (Value.int .i64 i), (Value.int .i64 j), (Value.int .i64 k1)] w (fun v w' => v = Value.int .i64 res ∧ InR .i64 res ∧ Ext w w') := by
  unfold p_spec_l15Trousers at h
  have hS0 : St w w [] := St.start w
  refine Ret.start (fn := Try.f95) Try.func95 rfl 26 rfl rfl ?_
  refine W.seq ?_
  refine W.region ?_
  refine WL.box hS0 rfl (cs := [v_r_Table]) rfl rfl ?_
  intro b1 wd2 hS3 he4 hx5
  replace hS3 : St w wd2 [bx b1 [v_r_Table]] := hS3
  have hx6 := St.boxAt hS3 0 rfl
  have hE7 : Ext w wd2 := hS3.ext
  have hS8 : St wd2 wd2 [] := St.start wd2
  refine WL.val (Value.int .i64 (0 : Int)) _ (op_assign rfl) rfl ?_
  refine WL.nil ?_
  show W _ _ _ _ _ _
  refine W.seq ?_
  refine W.region ?_
  refine WL.val (Value.agg #[v_r_Table]) _ (op_loadBox st_27 rfl (BoxAt.lift hS8.ext hx6) rfl rfl) rfl ?_
  obtain ⟨x9, hx10, h⟩ := bs h
  refine WL.call _ (op_call fn_89 (args1 rfl)) (c_spec_l03Duals (Ty.lift _ (Ext.trans hE7 hS8.ext) r_r_Table) hx10) rfl ?_
  rintro u11 wd12 ⟨_, rfl, he13, hs14⟩
  have hS15 := St.join hS8 he13 hs14
  replace hS15 : St wd2 wd12 [(Ty.sl (Ty.i .i64)).at u11 x9] := hS15
  have hb16 := St.rep (t := (Ty.sl (Ty.i .i64))) hS15 0 rfl
  have hE17 : Ext w wd12 := (Ext.trans hE7 hS15.ext)
  have hE18 : Ext wd2 wd12 := hS15.ext
  have hS19 : St wd12 wd12 [] := St.start wd12
  refine WL.val u11 _ (op_assign rfl) rfl ?_
  refine WL.nil ?_
  show W _ _ _ _ _ _
  refine W.seq ?_
  obtain ⟨x50, hx53, h⟩ := bs h
  obtain ⟨ha51, hb52, hx53⟩ := idx_some hx53
  obtain ⟨u61, hc62, hr63⟩ := repSl.el r_r_Table hx53
  obtain ⟨x80, hx83, h⟩ := bs h
  obtain ⟨ha81, hb82, hx83⟩ := idx_some hx83
  obtain ⟨u91, hc92, hr93⟩ := repSl.el hr63 hx83
  obtain ⟨x117, hx120, h⟩ := bs h
  obtain ⟨ha118, hb119, hx120⟩ := idx_some hx120
  obtain ⟨u128, hc129, hr130⟩ := repSl.el hb16 hx120
  obtain ⟨rfl, hr130⟩ := hr130
  refine W.draw mixo 12 [fun v _ => v = (Value.pointer (some ⟨b1, 0, none⟩)), fun v _ => v = v_r_Table, fun v _ => v = (Value.int .i64 i) ∧ InR .i64 i, fun v _ => v = (Value.pointer (some (elA v_r_Table (i).toNat))), fun v _ => v = u61, fun v _ => v = (Value.int .i64 j) ∧ InR .i64 j, fun v _ => v = (Value.pointer (some (elA u61 (j).toNat))), fun v _ => v = u91, fun v _ => v = u11, fun v _ => v = (Value.int .i64 k1) ∧ InR .i64 k1, fun v _ => v = (Value.pointer (some (elA u11 (k1).toNat))), fun v _ => v = (Value.int .i64 x117) ∧ InR .i64 x117] (by kernel_rfl) (by kernel_rfl) (stabL ⟨(fun _ _ _ _ h => h), (fun _ _ _ _ h => h), (fun _ _ _ _ h => h), (fun _ _ _ _ h => h), (fun _ _ _ _ h => h), (fun _ _ _ _ h => h), (fun _ _ _ _ h => h), (fun _ _ _ _ h => h), (fun _ _ _ _ h => h), (fun _ _ _ _ h => h), (fun _ _ _ _ h => h), (fun _ _ _ _ h => h), trivial⟩) ⟨?_, ?_, ?_, ?_, ?_, ?_, ?_, ?_, ?_, ?_, ?_, ?_, trivial⟩ ?_
  · intro f20 wd21 he22 hout23 hphi24
    have hS25 : St wd12 wd21 [] := St.extend hS19 he22
    have e26 : f20 4 = (Value.pointer (some ⟨b1, 0, none⟩)) := (hout23 4 rfl).trans rfl
    exact OpY.val (Value.pointer (some ⟨b1, 0, none⟩)) wd21 rfl (op_fieldAddr fd_27_0 e26) (Ext.refl _) rfl
  · intro f27 wd28 he29 hout30 hphi31
    have hS32 : St wd12 wd28 [] := St.extend hS19 he29
    have e33 : f27 12 = (Value.pointer (some ⟨b1, 0, none⟩)) := hphi31 0 12 _ rfl rfl rfl
    exact OpY.val v_r_Table wd28 rfl (op_load one_25 e33 (BoxAt.cell (BoxAt.lift (Ext.trans hE18 hS32.ext) hx6) rfl)) (Ext.refl _) rfl
  · intro f34 wd35 he36 hout37 hphi38
    have hS39 : St wd12 wd35 [] := St.extend hS19 he36
    have e40 : f34 1 = (Value.int .i64 i) := (hout37 1 rfl).trans rfl
    exact OpY.val (Value.int .i64 i) wd35 rfl (op_move e40) (Ext.refl _) ⟨rfl, r_i⟩
  · intro f41 wd42 he43 hout44 hphi45
    have hS46 : St wd12 wd42 [] := St.extend hS19 he43
    have e47 : f41 13 = v_r_Table := hphi45 1 13 _ rfl rfl rfl
    obtain ⟨e48, hr49⟩ : f41 14 = (Value.int .i64 i) ∧ InR .i64 i := hphi45 2 14 _ rfl rfl rfl
    exact OpY.val (Value.pointer (some (elA v_r_Table (i).toNat))) wd42 rfl (op_idx sl_25 (Ty.lift _ (Ext.trans hE17 hS46.ext) r_r_Table) e47 e48 ha51 hb52) (Ext.refl _) rfl
  · intro f54 wd55 he56 hout57 hphi58
    have hS59 : St wd12 wd55 [] := St.extend hS19 he56
    have e60 : f54 15 = (Value.pointer (some (elA v_r_Table (i).toNat))) := hphi58 3 15 _ rfl rfl rfl
    exact OpY.val u61 wd55 rfl (op_load one_22 e60 (Ext.cell (Ext.trans hE17 hS59.ext) hc62)) (Ext.refl _) rfl
  · intro f64 wd65 he66 hout67 hphi68
    have hS69 : St wd12 wd65 [] := St.extend hS19 he66
    have e70 : f64 2 = (Value.int .i64 j) := (hout67 2 rfl).trans rfl
    exact OpY.val (Value.int .i64 j) wd65 rfl (op_move e70) (Ext.refl _) ⟨rfl, r_j⟩
  · intro f71 wd72 he73 hout74 hphi75
    have hS76 : St wd12 wd72 [] := St.extend hS19 he73
    have e77 : f71 16 = u61 := hphi75 4 16 _ rfl rfl rfl
    obtain ⟨e78, hr79⟩ : f71 17 = (Value.int .i64 j) ∧ InR .i64 j := hphi75 5 17 _ rfl rfl rfl
    exact OpY.val (Value.pointer (some (elA u61 (j).toNat))) wd72 rfl (op_idx sl_22 (Ty.lift _ (Ext.trans hE17 hS76.ext) hr63) e77 e78 ha81 hb82) (Ext.refl _) rfl
  · intro f84 wd85 he86 hout87 hphi88
    have hS89 : St wd12 wd85 [] := St.extend hS19 he86
    have e90 : f84 18 = (Value.pointer (some (elA u61 (j).toNat))) := hphi88 6 18 _ rfl rfl rfl
    exact OpY.val u91 wd85 rfl (op_load one_23 e90 (Ext.cell (Ext.trans hE17 hS89.ext) hc92)) (Ext.refl _) rfl
  · intro f94 wd95 he96 hout97 hphi98
    have hS99 : St wd12 wd95 [] := St.extend hS19 he96
    have e100 : f94 9 = u11 := (hout97 9 rfl).trans rfl
    exact OpY.val u11 wd95 rfl (op_move e100) (Ext.refl _) rfl
  · intro f101 wd102 he103 hout104 hphi105
    have hS106 : St wd12 wd102 [] := St.extend hS19 he103
    have e107 : f101 3 = (Value.int .i64 k1) := (hout104 3 rfl).trans rfl
    exact OpY.val (Value.int .i64 k1) wd102 rfl (op_move e107) (Ext.refl _) ⟨rfl, r_k1⟩
  · intro f108 wd109 he110 hout111 hphi112
    have hS113 : St wd12 wd109 [] := St.extend hS19 he110
    have e114 : f108 20 = u11 := hphi112 8 20 _ rfl rfl rfl
    obtain ⟨e115, hr116⟩ : f108 21 = (Value.int .i64 k1) ∧ InR .i64 k1 := hphi112 9 21 _ rfl rfl rfl
    exact OpY.val (Value.pointer (some (elA u11 (k1).toNat))) wd109 rfl (op_idx sl_23 (Ty.lift _ hS113.ext hb16) e114 e115 ha118 hb119) (Ext.refl _) rfl
  · intro f121 wd122 he123 hout124 hphi125
    have hS126 : St wd12 wd122 [] := St.extend hS19 he123
    have e127 : f121 22 = (Value.pointer (some (elA u11 (k1).toNat))) := hphi125 10 22 _ rfl rfl rfl
    exact OpY.val (Value.int .i64 x117) wd122 rfl (op_load one_2 e127 (Ext.cell hS126.ext hc129)) (Ext.refl _) ⟨rfl, hr130⟩
  · intro f131 wd132 he133 hout134 hphi135
    show WL _ _ _ _ _ _ _
    have hS136 : St wd12 wd132 [] := St.extend hS19 he133
    have e137 : f131 19 = u91 := hphi135 7 19 _ (by decide) rfl rfl
    obtain ⟨e138, hr139⟩ : f131 23 = (Value.int .i64 x117) ∧ InR .i64 x117 := hphi135 11 23 _ (by decide) rfl rfl
    obtain ⟨x140, hx143, h⟩ := bs h
    obtain ⟨ha141, hb142, hx143⟩ := idx_some hx143
    refine WL.val (Value.pointer (some (elA u91 (x117).toNat))) _ (op_idx sl_23 (Ty.lift _ (Ext.trans hE17 hS136.ext) hr93) e137 e138 ha141 hb142) rfl ?_
    obtain ⟨u144, hc145, hr146⟩ := repSl.el hr93 hx143
    obtain ⟨rfl, hr146⟩ := hr146
    refine WL.val (Value.int .i64 x140) _ (op_load one_2 rfl (Ext.cell (Ext.trans hE17 hS136.ext) hc145)) rfl ?_
    refine WL.val (Value.int .i64 x140) _ (op_assign rfl) rfl ?_
    refine WL.nil ?_
    show W _ _ _ _ _ _
    refine W.ret ?_
    obtain rfl := Option.some.inj h
    show FinP _ _ _ _ _ _ _
    exact FinP.ret _ (res1 rfl rfl) ⟨rfl, hr146, (Ext.trans hE17 hS136.ext)⟩

theorem c_spec_TrouserNumber {w : World} {r_Table : (List (List (List Int)))} {v_r_Table : Value} {i : Int} {j : Int} {k1 : Int} (r_r_Table : (Ty.sl (Ty.sl (Ty.sl (Ty.i .i64)))).rep w v_r_Table r_Table) (r_i : InR .i64 i) (r_j : InR .i64 j) (r_k1 : InR .i64 k1) {res : Int × Int} (h : p_spec_TrouserNumber r_Table i j k1  = some res) :
    Ret Try.prog 44 #[(Value.agg #[v_r_Table]), (Value.int .i64 i), (Value.int .i64 j), (Value.int .i64 k1)] w (fun v w' => v = (Value.tuple #[Value.int .i64 res.1, Value.int .i64 res.2]) ∧ InR .i64 res.1 ∧ InR .i64 res.2 ∧ Ext w w') := by
  unfold p_spec_TrouserNumber at h
  have hS0 : St w w [] := St.start w
  refine Ret.start (fn := Try.f44) Try.func44 rfl 34 rfl rfl ?_
  refine W.seq ?_
  refine W.region ?_
  refine WL.box hS0 rfl (cs := [v_r_Table]) rfl rfl ?_
  intro b1 wd2 hS3 he4 hx5
  replace hS3 : St w wd2 [bx b1 [v_r_Table]] := hS3
  have hx6 := St.boxAt hS3 0 rfl
  have hE7 : Ext w wd2 := hS3.ext
  have hS8 : St wd2 wd2 [] := St.start wd2
  refine WL.val (Value.int .i64 (0 : Int)) _ (op_assign rfl) rfl ?_
  refine WL.val (Value.int .i64 (0 : Int)) _ (op_assign rfl) rfl ?_
  refine WL.nil ?_
  show W _ _ _ _ _ _
  refine W.seq ?_
  refine W.region ?_
  refine WL.val (Value.agg #[v_r_Table]) _ (op_loadBox st_27 rfl (BoxAt.lift hS8.ext hx6) rfl rfl) rfl ?_
  obtain ⟨x9, hx10, h⟩ := bs h
  refine WL.call _ (op_call fn_93 (args1 rfl)) (c_spec_l08Code (Ty.lift _ (Ext.trans hE7 hS8.ext) r_r_Table) hx10) rfl ?_
  rintro _ wd12 ⟨rfl, hr11, he13⟩
  have hS15 := St.extend hS8 he13
  replace hS15 : St wd2 wd12 [] := hS15
  refine WL.val (Value.int .i64 x9) _ (op_assign rfl) rfl ?_
  refine WL.nil ?_
  show W _ _ _ _ _ _
  refine W.seq ?_
  refine W.seq ?_
  refine W.region ?_
  refine WL.val (Value.int .i64 x9) _ (op_move rfl) rfl ?_
  refine WL.val (Value.bool (x9 == (0 : Int))) _ (op_eql rfl rfl) rfl ?_
  refine WL.val (Value.bool (x9 == (0 : Int))) _ (op_move rfl) rfl ?_
  obtain ⟨x17, hj18, h⟩ := bs h
  refine WL.cut 10 (fun fq wq => fq 1 = (Value.int .i64 i) ∧ fq 2 = (Value.int .i64 j) ∧ fq 3 = (Value.int .i64 k1) ∧ fq 4 = (Value.pointer (some ⟨b1, 0, none⟩)) ∧ fq 10 = (Value.int .i64 x9) ∧ fq 25 = Value.bool x17 ∧ St wd2 wq []) ?_ ?_
  · rcases Bool.eq_false_or_eq_true (x9 == (0 : Int)) with hc16 | hc16
    · replace hj18 := ip hj18 hc16
      refine WL.grun rfl (bool_of rfl hc16) ?_
      refine WL.val (Value.pointer (some ⟨b1, 0, none⟩)) _ (op_fieldAddr fd_27_0 rfl) rfl ?_
      refine WL.grun rfl (bool_of rfl hc16) ?_
      refine WL.val v_r_Table _ (op_load one_25 rfl (BoxAt.cell (BoxAt.lift hS15.ext hx6) rfl)) rfl ?_
      refine WL.grun rfl (bool_of rfl hc16) ?_
      have hr22 := inR_len (Ty.lift _ (Ext.trans hE7 hS15.ext) r_r_Table)
      refine WL.val (Value.int .i64 ((r_Table).length : Int)) _ (op_lenL sl_25 (Ty.lift _ (Ext.trans hE7 hS15.ext) r_r_Table) rfl) rfl ?_
      refine WL.grun rfl (bool_of rfl hc16) ?_
      refine WL.val (Value.int .i64 i) _ (op_move rfl) rfl ?_
      refine WL.grun rfl (bool_of rfl hc16) ?_
      refine WL.val (Value.int .i64 j) _ (op_move rfl) rfl ?_
      refine WL.grun rfl (bool_of rfl hc16) ?_
      refine WL.val (Value.int .i64 k1) _ (op_move rfl) rfl ?_
      refine WL.grun rfl (bool_of rfl hc16) ?_
      refine WL.litFlat (t := (Ty.i .i64)) (flat_i .i64) [(Value.int .i64 i), (Value.int .i64 j), (Value.int .i64 k1)] [i, j, k1] hS15 sl_23 rfl rfl (fillL rfl ⟨rfl, rfl, rfl, rfl, rfl, rfl, rfl, rfl, rfl, trivial⟩) rfl rfl (litL ⟨⟨rfl, r_i⟩, ⟨rfl, r_j⟩, ⟨rfl, r_k1⟩, trivial⟩) rfl ?_
      intro u23 wd24 hS25 he26
      replace hS25 : St wd2 wd24 [(Ty.sl (Ty.i .i64)).at u23 ([i, j, k1] : (List Int))] := hS25
      refine WL.grun rfl (bool_of rfl hc16) ?_
      obtain ⟨x27, hx28, hj18⟩ := bs hj18
      refine WL.call _ (op_call fn_94 (args2 rfl rfl)) (c_spec_l15Labels hr22 (St.rep (t := (Ty.sl (Ty.i .i64))) hS25 0 rfl) hx28) rfl ?_
      rintro _ wd29 ⟨rfl, he30⟩
      have hS32 := St.extend hS25 he30
      replace hS32 : St wd2 wd29 [(Ty.sl (Ty.i .i64)).at u23 ([i, j, k1] : (List Int))] := hS32
      refine WL.grun rfl (bool_of rfl hc16) ?_
      refine WL.val (Value.bool (!x27)) _ (op_not rfl) rfl ?_
      refine WL.val (Value.bool (!x27)) _ (op_pick_t (evb_of rfl hc16) rfl) rfl ?_
      refine WL.nil ?_
      obtain rfl := Option.some.inj hj18
      exact ⟨rfl, rfl, rfl, rfl, rfl, rfl, rfl, (St.pick hS32 [] rfl)⟩
    · replace hj18 := inegb hj18 hc16
      refine WL.gskip rfl (bool_of rfl hc16) rfl ?_
      refine WL.gskip rfl (bool_of rfl hc16) rfl ?_
      refine WL.gskip rfl (bool_of rfl hc16) rfl ?_
      refine WL.gskip rfl (bool_of rfl hc16) rfl ?_
      refine WL.gskip rfl (bool_of rfl hc16) rfl ?_
      refine WL.gskip rfl (bool_of rfl hc16) rfl ?_
      refine WL.gskip rfl (bool_of rfl hc16) rfl ?_
      refine WL.gskip rfl (bool_of rfl hc16) rfl ?_
      refine WL.gskip rfl (bool_of rfl hc16) rfl ?_
      refine WL.val (Value.bool false) _ (op_pick_f (evb_of rfl hc16) rfl) rfl ?_
      refine WL.nil ?_
      obtain rfl := Option.some.inj hj18
      exact ⟨rfl, rfl, rfl, rfl, rfl, rfl, rfl, hS15⟩
  · intro f19 wd20 hq21
    obtain ⟨hf33, hf34, hf35, hf36, hf37, hf38, hS39⟩ := hq21
    refine WL.nil ?_
    show W _ _ _ _ _ _
    obtain ⟨x40, hj41, h⟩ := bs h
    refine W.cutCode (fun fq wq => fq 1 = (Value.int .i64 i) ∧ fq 2 = (Value.int .i64 j) ∧ fq 3 = (Value.int .i64 k1) ∧ fq 4 = (Value.pointer (some ⟨b1, 0, none⟩)) ∧ fq 10 = Value.int .i64 x40 ∧ InR .i64 x40 ∧ St wd2 wq []) ?_ ?_
    · refine W.cond x17 hf38 (fun hc42 => ?_) (fun hc42 => ?_)
      · replace hj41 := ip hj41 hc42
        refine W.region ?_
        refine WL.val (Value.int .i64 (2 : Int)) _ (op_assign rfl) rfl ?_
        refine WL.nil ?_
        obtain rfl := Option.some.inj hj41
        exact ⟨hf33, hf34, hf35, hf36, rfl, (inR_i64.2 (show (-9223372036854775808 : Int) ≤ 2 ∧ (2 : Int) ≤ 9223372036854775807 from by decide)), hS39⟩
      · replace hj41 := inegb hj41 hc42
        refine W.skip ?_
        obtain rfl := Option.some.inj hj41
        exact ⟨hf33, hf34, hf35, hf36, hf37, hr11, hS39⟩
    · intro f43 wd44 hq45
      obtain ⟨hf46, hf47, hf48, hf49, hf50, hr51, hS52⟩ := hq45
      show W _ _ _ _ _ _
      refine W.seq ?_
      refine W.seq ?_
      refine W.region ?_
      refine WL.val (Value.int .i64 x40) _ (op_move hf50) rfl ?_
      refine WL.val (Value.bool (x40 != (0 : Int))) _ (op_neq rfl rfl) rfl ?_
      refine WL.nil ?_
      show W _ _ _ _ _ _
      refine W.cond (x40 != (0 : Int)) rfl (fun hc53 => ?_) (fun hc53 => ?_)
      · replace h := ip h hc53
        refine W.seq ?_
        refine W.region ?_
        refine WL.val (Value.int .i64 x40) _ (op_move hf50) rfl ?_
        refine WL.val (Value.int .i64 (0 : Int)) _ (op_assign rfl) rfl ?_
        refine WL.val (Value.int .i64 x40) _ (op_assign rfl) rfl ?_
        refine WL.nil ?_
        show W _ _ _ _ _ _
        refine W.ret ?_
        obtain rfl := Option.some.inj h
        show FinP _ _ _ _ _ _ _
        exact FinP.ret _ (res2 rfl rfl rfl) ⟨rfl, (inR_i64.2 (show (-9223372036854775808 : Int) ≤ 0 ∧ (0 : Int) ≤ 9223372036854775807 from by decide)), hr51, (Ext.trans hE7 hS52.ext)⟩
      · replace h := inegb h hc53
        refine W.skip ?_
        show W _ _ _ _ _ _
        refine W.seq ?_
        refine W.region ?_
        refine WL.val (Value.agg #[v_r_Table]) _ (op_loadBox st_27 hf49 (BoxAt.lift hS52.ext hx6) rfl rfl) rfl ?_
        refine WL.val (Value.int .i64 i) _ (op_move hf46) rfl ?_
        refine WL.val (Value.int .i64 j) _ (op_move hf47) rfl ?_
        refine WL.val (Value.int .i64 k1) _ (op_move hf48) rfl ?_
        obtain ⟨x55, hx56, h⟩ := bs h
        refine WL.call _ (op_call fn_95 (args4 rfl rfl rfl rfl)) (c_spec_l15Trousers (Ty.lift _ (Ext.trans hE7 hS52.ext) r_r_Table) r_i r_j r_k1 hx56) rfl ?_
        rintro _ wd58 ⟨rfl, hr57, he59⟩
        have hS61 := St.extend hS52 he59
        replace hS61 : St wd2 wd58 [] := hS61
        refine WL.val (Value.int .i64 x55) _ (op_assign rfl) rfl ?_
        refine WL.val (Value.int .i64 (0 : Int)) _ (op_assign rfl) rfl ?_
        refine WL.nil ?_
        show W _ _ _ _ _ _
        refine W.ret ?_
        obtain rfl := Option.some.inj h
        show FinP _ _ _ _ _ _ _
        exact FinP.ret _ (res2 rfl rfl rfl) ⟨rfl, hr57, (inR_i64.2 (show (-9223372036854775808 : Int) ≤ 0 ∧ (0 : Int) ≤ 9223372036854775807 from by decide)), (Ext.trans hE7 hS61.ext)⟩

theorem c_impl_Ring_areLabels {w : World} {r_Table : (List (List (List Int)))} {v_r_Table : Value} {list : (List Int)} {v_list : Value} (r_r_Table : (Ty.sl (Ty.sl (Ty.sl (Ty.i .i64)))).rep w v_r_Table r_Table) (r_list : (Ty.sl (Ty.i .i64)).rep w v_list list) {res : Bool} (h : p_impl_Ring_areLabels r_Table list  = some res) :
    Ret Try.prog 96 #[(Value.agg #[v_r_Table]), v_list] w (fun v w' => v = Value.bool res ∧ Ext w w') := by
  unfold p_impl_Ring_areLabels at h
  have hS0 : St w w [] := St.start w
  refine Ret.start (fn := Try.f96) Try.func96 rfl 11 rfl rfl ?_
  refine W.seq ?_
  refine W.region ?_
  refine WL.box hS0 rfl (cs := [v_r_Table]) rfl rfl ?_
  intro b1 wd2 hS3 he4 hx5
  replace hS3 : St w wd2 [bx b1 [v_r_Table]] := hS3
  have hx6 := St.boxAt hS3 0 rfl
  have hE7 : Ext w wd2 := hS3.ext
  have hS8 : St wd2 wd2 [] := St.start wd2
  refine WL.val (Value.bool false) _ (op_assign rfl) rfl ?_
  refine WL.nil ?_
  show W _ _ _ _ _ _
  refine W.seq ?_
  refine W.region ?_
  refine WL.val v_list _ (op_move rfl) rfl ?_
  refine WL.val (Value.pointer (some ⟨b1, 0, none⟩)) _ (op_fieldAddr fd_27_0 rfl) rfl ?_
  refine WL.val v_r_Table _ (op_load one_25 rfl (BoxAt.cell (BoxAt.lift hS8.ext hx6) rfl)) rfl ?_
  have hr9 := inR_len (Ty.lift _ (Ext.trans hE7 hS8.ext) r_r_Table)
  refine WL.val (Value.int .i64 ((r_Table).length : Int)) _ (op_lenL sl_25 (Ty.lift _ (Ext.trans hE7 hS8.ext) r_r_Table) rfl) rfl ?_
  refine WL.val (Value.int .i64 (w64 (((r_Table).length : Int) - (1 : Int)))) _ (op_sub rfl rfl) rfl ?_
  obtain ⟨x10, hx11, h⟩ := bs h
  refine WL.call _ (op_call fn_116 (args3 rfl rfl rfl)) (c_impl_allWithin (Ty.lift _ (Ext.trans hE7 hS8.ext) r_list) (inR_i64.2 (show (-9223372036854775808 : Int) ≤ 0 ∧ (0 : Int) ≤ 9223372036854775807 from by decide)) (inR_wrap _ _) hx11) rfl ?_
  rintro _ wd12 ⟨rfl, he13⟩
  have hS15 := St.extend hS8 he13
  replace hS15 : St wd2 wd12 [] := hS15
  refine WL.val (Value.bool x10) _ (op_assign rfl) rfl ?_
  refine WL.nil ?_
  show W _ _ _ _ _ _
  refine W.ret ?_
  obtain rfl := Option.some.inj h
  show FinP _ _ _ _ _ _ _
  exact FinP.ret _ (res1 rfl rfl) ⟨rfl, (Ext.trans hE7 hS15.ext)⟩

theorem c_impl_TrouserNumber {w : World} {r_Table : (List (List (List Int)))} {v_r_Table : Value} {i : Int} {j : Int} {k1 : Int} (r_r_Table : (Ty.sl (Ty.sl (Ty.sl (Ty.i .i64)))).rep w v_r_Table r_Table) (r_i : InR .i64 i) (r_j : InR .i64 j) (r_k1 : InR .i64 k1) {res : Int × Int} (h : p_impl_TrouserNumber r_Table i j k1  = some res) :
    Ret Try.prog 45 #[(Value.agg #[v_r_Table]), (Value.int .i64 i), (Value.int .i64 j), (Value.int .i64 k1)] w (fun v w' => v = (Value.tuple #[Value.int .i64 res.1, Value.int .i64 res.2]) ∧ InR .i64 res.1 ∧ InR .i64 res.2 ∧ Ext w w') := by
  unfold p_impl_TrouserNumber at h
  have hS0 : St w w [] := St.start w
  refine Ret.start (fn := Try.f45) Try.func45 rfl 38 rfl rfl ?_
  refine W.seq ?_
  refine W.region ?_
  refine WL.box hS0 rfl (cs := [v_r_Table]) rfl rfl ?_
  intro b1 wd2 hS3 he4 hx5
  replace hS3 : St w wd2 [bx b1 [v_r_Table]] := hS3
  have hx6 := St.boxAt hS3 0 rfl
  have hE7 : Ext w wd2 := hS3.ext
  have hS8 : St wd2 wd2 [] := St.start wd2
  refine WL.val (Value.int .i64 (0 : Int)) _ (op_assign rfl) rfl ?_
  refine WL.val (Value.int .i64 (0 : Int)) _ (op_assign rfl) rfl ?_
  refine WL.nil ?_
  show W _ _ _ _ _ _
  refine W.seq ?_
  refine W.seq ?_
  refine W.region ?_
  refine WL.val (Value.agg #[v_r_Table]) _ (op_loadBox st_27 rfl (BoxAt.lift hS8.ext hx6) rfl rfl) rfl ?_
  obtain ⟨x9, hx10, h⟩ := bs h
  refine WL.call _ (op_call fn_80 (args1 rfl)) (c_impl_commuteCode (Ty.lift _ (Ext.trans hE7 hS8.ext) r_r_Table) hx10) rfl ?_
  rintro _ wd12 ⟨rfl, hr11, he13⟩
  have hS15 := St.extend hS8 he13
  replace hS15 : St wd2 wd12 [] := hS15
  refine WL.val (Value.int .i64 x9) _ (op_assign rfl) rfl ?_
  refine WL.nil ?_
  show W _ _ _ _ _ _
  refine W.seq ?_
  refine W.region ?_
  refine WL.val (Value.int .i64 x9) _ (op_move rfl) rfl ?_
  refine WL.val (Value.bool (x9 != (0 : Int))) _ (op_neq rfl rfl) rfl ?_
  refine WL.nil ?_
  show W _ _ _ _ _ _
  refine W.cond (x9 != (0 : Int)) rfl (fun hc16 => ?_) (fun hc16 => ?_)
  · replace h := ip h hc16
    refine W.seq ?_
    refine W.region ?_
    refine WL.val (Value.int .i64 x9) _ (op_move rfl) rfl ?_
    refine WL.val (Value.int .i64 (0 : Int)) _ (op_assign rfl) rfl ?_
    refine WL.val (Value.int .i64 x9) _ (op_assign rfl) rfl ?_
    refine WL.nil ?_
    show W _ _ _ _ _ _
    refine W.ret ?_
    obtain rfl := Option.some.inj h
    show FinP _ _ _ _ _ _ _
    exact FinP.ret _ (res2 rfl rfl rfl) ⟨rfl, (inR_i64.2 (show (-9223372036854775808 : Int) ≤ 0 ∧ (0 : Int) ≤ 9223372036854775807 from by decide)), hr11, (Ext.trans hE7 hS15.ext)⟩
  · replace h := inegb h hc16
    refine W.skip ?_
    show W _ _ _ _ _ _
    refine W.seq ?_
    refine W.seq ?_
    refine W.region ?_
    refine WL.val (Value.agg #[v_r_Table]) _ (op_loadBox st_27 rfl (BoxAt.lift hS15.ext hx6) rfl rfl) rfl ?_
    refine WL.val (Value.int .i64 i) _ (op_move rfl) rfl ?_
    refine WL.val (Value.int .i64 j) _ (op_move rfl) rfl ?_
    refine WL.val (Value.int .i64 k1) _ (op_move rfl) rfl ?_
    refine WL.litFlat (t := (Ty.i .i64)) (flat_i .i64) [(Value.int .i64 i), (Value.int .i64 j), (Value.int .i64 k1)] [i, j, k1] hS15 sl_23 rfl rfl (fillL rfl ⟨rfl, rfl, rfl, rfl, rfl, rfl, rfl, rfl, rfl, trivial⟩) rfl rfl (litL ⟨⟨rfl, r_i⟩, ⟨rfl, r_j⟩, ⟨rfl, r_k1⟩, trivial⟩) rfl ?_
    intro u18 wd19 hS20 he21
    replace hS20 : St wd2 wd19 [(Ty.sl (Ty.i .i64)).at u18 ([i, j, k1] : (List Int))] := hS20
    have hb22 := St.rep (t := (Ty.sl (Ty.i .i64))) hS20 0 rfl
    have hE23 : Ext w wd19 := (Ext.trans hE7 hS20.ext)
    have hE24 : Ext wd2 wd19 := hS20.ext
    have hS25 : St wd19 wd19 [] := St.start wd19
    obtain ⟨x26, hx27, h⟩ := bs h
    refine WL.call _ (op_call fn_96 (args2 rfl rfl)) (c_impl_Ring_areLabels (Ty.lift _ (Ext.trans hE23 hS25.ext) r_r_Table) (Ty.lift _ hS25.ext hb22) hx27) rfl ?_
    rintro _ wd28 ⟨rfl, he29⟩
    have hS31 := St.extend hS25 he29
    replace hS31 : St wd19 wd28 [] := hS31
    refine WL.val (Value.bool (!x26)) _ (op_not rfl) rfl ?_
    refine WL.nil ?_
    show W _ _ _ _ _ _
    refine W.cond (!x26) rfl (fun hc32 => ?_) (fun hc32 => ?_)
    · replace h := ip h hc32
      refine W.seq ?_
      refine W.region ?_
      refine WL.val (Value.int .i64 (0 : Int)) _ (op_assign rfl) rfl ?_
      refine WL.val (Value.int .i64 (2 : Int)) _ (op_assign rfl) rfl ?_
      refine WL.nil ?_
      show W _ _ _ _ _ _
      refine W.ret ?_
      obtain rfl := Option.some.inj h
      show FinP _ _ _ _ _ _ _
      exact FinP.ret _ (res2 rfl rfl rfl) ⟨rfl, (inR_i64.2 (show (-9223372036854775808 : Int) ≤ 0 ∧ (0 : Int) ≤ 9223372036854775807 from by decide)), (inR_i64.2 (show (-9223372036854775808 : Int) ≤ 2 ∧ (2 : Int) ≤ 9223372036854775807 from by decide)), (Ext.trans hE23 hS31.ext)⟩
    · replace h := inegb h hc32
      refine W.skip ?_
      show W _ _ _ _ _ _
      refine W.seq ?_
      obtain ⟨x64, hx67, h⟩ := bs h
      obtain ⟨ha65, hb66, hx67⟩ := idx_some hx67
      obtain ⟨u75, hc76, hr77⟩ := repSl.el r_r_Table hx67
      obtain ⟨x94, hx97, h⟩ := bs h
      obtain ⟨ha95, hb96, hx97⟩ := idx_some hx97
      obtain ⟨u105, hc106, hr107⟩ := repSl.el hr77 hx97
      obtain ⟨x124, hx125, h⟩ := bs h
      obtain ⟨x146, hx149, h⟩ := bs h
      obtain ⟨ha147, hb148, hx149⟩ := idx_some hx149
      refine W.draw mixo 13 [fun v _ => v = (Value.pointer (some ⟨b1, 0, none⟩)), fun v _ => v = v_r_Table, fun v _ => v = (Value.int .i64 i) ∧ InR .i64 i, fun v _ => v = (Value.pointer (some (elA v_r_Table (i).toNat))), fun v _ => v = u75, fun v _ => v = (Value.int .i64 j) ∧ InR .i64 j, fun v _ => v = (Value.pointer (some (elA u75 (j).toNat))), fun v _ => v = u105, fun v w' => ∃ (uu0 : Value), v = (Value.agg #[uu0]) ∧ (Ty.sl (Ty.sl (Ty.sl (Ty.i .i64)))).rep w' uu0 r_Table, fun v w' => (Ty.sl (Ty.i .i64)).rep w' v x124, fun v _ => v = (Value.int .i64 k1) ∧ InR .i64 k1, fun v w' => ∃ u, v = Value.pointer (some (elA u (k1).toNat)) ∧ (Ty.sl (Ty.i .i64)).rep w' u x124, fun v _ => v = (Value.int .i64 x146) ∧ InR .i64 x146] (by kernel_rfl) (by kernel_rfl) (stabL ⟨(fun _ _ _ _ h => h), (fun _ _ _ _ h => h), (fun _ _ _ _ h => h), (fun _ _ _ _ h => h), (fun _ _ _ _ h => h), (fun _ _ _ _ h => h), (fun _ _ _ _ h => h), (fun _ _ _ _ h => h), (fun _ _ _ he ⟨uu0, h0, r0⟩ => ⟨uu0, h0, Ty.lift _ he r0⟩), (fun _ _ _ he h => Ty.lift _ he h), (fun _ _ _ _ h => h), (fun _ _ _ he ⟨u, h1, h2⟩ => ⟨u, h1, Ty.lift _ he h2⟩), (fun _ _ _ _ h => h), trivial⟩) ⟨?_, ?_, ?_, ?_, ?_, ?_, ?_, ?_, ?_, ?_, ?_, ?_, ?_, trivial⟩ ?_
      · intro f34 wd35 he36 hout37 hphi38
        have hS39 : St wd19 wd35 [] := St.extend hS31 he36
        have e40 : f34 4 = (Value.pointer (some ⟨b1, 0, none⟩)) := (hout37 4 rfl).trans rfl
        exact OpY.val (Value.pointer (some ⟨b1, 0, none⟩)) wd35 rfl (op_fieldAddr fd_27_0 e40) (Ext.refl _) rfl
      · intro f41 wd42 he43 hout44 hphi45
        have hS46 : St wd19 wd42 [] := St.extend hS31 he43
        have e47 : f41 23 = (Value.pointer (some ⟨b1, 0, none⟩)) := hphi45 0 23 _ rfl rfl rfl
        exact OpY.val v_r_Table wd42 rfl (op_load one_25 e47 (BoxAt.cell (BoxAt.lift (Ext.trans hE24 hS46.ext) hx6) rfl)) (Ext.refl _) rfl
      · intro f48 wd49 he50 hout51 hphi52
        have hS53 : St wd19 wd49 [] := St.extend hS31 he50
        have e54 : f48 1 = (Value.int .i64 i) := (hout51 1 rfl).trans rfl
        exact OpY.val (Value.int .i64 i) wd49 rfl (op_move e54) (Ext.refl _) ⟨rfl, r_i⟩
      · intro f55 wd56 he57 hout58 hphi59
        have hS60 : St wd19 wd56 [] := St.extend hS31 he57
        have e61 : f55 24 = v_r_Table := hphi59 1 24 _ rfl rfl rfl
        obtain ⟨e62, hr63⟩ : f55 25 = (Value.int .i64 i) ∧ InR .i64 i := hphi59 2 25 _ rfl rfl rfl
        exact OpY.val (Value.pointer (some (elA v_r_Table (i).toNat))) wd56 rfl (op_idx sl_25 (Ty.lift _ (Ext.trans hE23 hS60.ext) r_r_Table) e61 e62 ha65 hb66) (Ext.refl _) rfl
      · intro f68 wd69 he70 hout71 hphi72
        have hS73 : St wd19 wd69 [] := St.extend hS31 he70
        have e74 : f68 26 = (Value.pointer (some (elA v_r_Table (i).toNat))) := hphi72 3 26 _ rfl rfl rfl
        exact OpY.val u75 wd69 rfl (op_load one_22 e74 (Ext.cell (Ext.trans hE23 hS73.ext) hc76)) (Ext.refl _) rfl
      · intro f78 wd79 he80 hout81 hphi82
        have hS83 : St wd19 wd79 [] := St.extend hS31 he80
        have e84 : f78 2 = (Value.int .i64 j) := (hout81 2 rfl).trans rfl
        exact OpY.val (Value.int .i64 j) wd79 rfl (op_move e84) (Ext.refl _) ⟨rfl, r_j⟩
      · intro f85 wd86 he87 hout88 hphi89
        have hS90 : St wd19 wd86 [] := St.extend hS31 he87
        have e91 : f85 27 = u75 := hphi89 4 27 _ rfl rfl rfl
        obtain ⟨e92, hr93⟩ : f85 28 = (Value.int .i64 j) ∧ InR .i64 j := hphi89 5 28 _ rfl rfl rfl
        exact OpY.val (Value.pointer (some (elA u75 (j).toNat))) wd86 rfl (op_idx sl_22 (Ty.lift _ (Ext.trans hE23 hS90.ext) hr77) e91 e92 ha95 hb96) (Ext.refl _) rfl
      · intro f98 wd99 he100 hout101 hphi102
        have hS103 : St wd19 wd99 [] := St.extend hS31 he100
        have e104 : f98 29 = (Value.pointer (some (elA u75 (j).toNat))) := hphi102 6 29 _ rfl rfl rfl
        exact OpY.val u105 wd99 rfl (op_load one_23 e104 (Ext.cell (Ext.trans hE23 hS103.ext) hc106)) (Ext.refl _) rfl
      · intro f108 wd109 he110 hout111 hphi112
        have hS113 : St wd19 wd109 [] := St.extend hS31 he110
        have e114 : f108 4 = (Value.pointer (some ⟨b1, 0, none⟩)) := (hout111 4 rfl).trans rfl
        exact OpY.val (Value.agg #[v_r_Table]) wd109 rfl (op_loadBox st_27 e114 (BoxAt.lift (Ext.trans hE24 hS113.ext) hx6) rfl rfl) (Ext.refl _) ⟨v_r_Table, rfl, (Ty.lift _ (Ext.trans hE23 hS113.ext) r_r_Table)⟩
      · intro f115 wd116 he117 hout118 hphi119
        have hS120 : St wd19 wd116 [] := St.extend hS31 he117
        obtain ⟨u122, e121, hr123⟩ := hphi119 8 31 _ rfl rfl rfl
        refine OpY.call rfl (op_call fn_72 (args1 e121)) (Ret.mono (c_impl_Ring_duals hr123 hx125) ?_)
        rintro u126 wd127 ⟨_, rfl, he128, hs129⟩
        exact ⟨he128, (Sep.rep (t := (Ty.sl (Ty.i .i64))) hs129 0 rfl)⟩
      · intro f130 wd131 he132 hout133 hphi134
        have hS135 : St wd19 wd131 [] := St.extend hS31 he132
        have e136 : f130 3 = (Value.int .i64 k1) := (hout133 3 rfl).trans rfl
        exact OpY.val (Value.int .i64 k1) wd131 rfl (op_move e136) (Ext.refl _) ⟨rfl, r_k1⟩
      · intro f137 wd138 he139 hout140 hphi141
        have hS142 : St wd19 wd138 [] := St.extend hS31 he139
        have e143 : (Ty.sl (Ty.i .i64)).rep wd138 (f137 32) x124 := hphi141 9 32 _ rfl rfl rfl
        obtain ⟨e144, hr145⟩ : f137 33 = (Value.int .i64 k1) ∧ InR .i64 k1 := hphi141 10 33 _ rfl rfl rfl
        exact OpY.val (Value.pointer (some (elA (f137 32) (k1).toNat))) wd138 rfl (op_idx sl_72 e143 rfl e144 ha147 hb148) (Ext.refl _) ⟨_, rfl, e143⟩
      · intro f150 wd151 he152 hout153 hphi154
        have hS155 : St wd19 wd151 [] := St.extend hS31 he152
        obtain ⟨u157, e156, hr158⟩ : ∃ u, f150 34 = Value.pointer (some (elA u (k1).toNat)) ∧ (Ty.sl (Ty.i .i64)).rep wd151 u x124 := hphi154 11 34 _ rfl rfl rfl
        obtain ⟨u159, hc160, hr161⟩ := repSl.el hr158 hx149
        obtain ⟨rfl, hr161⟩ := hr161
        exact OpY.val (Value.int .i64 x146) wd151 rfl (op_load one_3 e156 hc160) (Ext.refl _) ⟨rfl, hr161⟩
      · intro f162 wd163 he164 hout165 hphi166
        show WL _ _ _ _ _ _ _
        have hS167 : St wd19 wd163 [] := St.extend hS31 he164
        have e168 : f162 30 = u105 := hphi166 7 30 _ (by decide) rfl rfl
        obtain ⟨e169, hr170⟩ : f162 35 = (Value.int .i64 x146) ∧ InR .i64 x146 := hphi166 12 35 _ (by decide) rfl rfl
        obtain ⟨x171, hx174, h⟩ := bs h
        obtain ⟨ha172, hb173, hx174⟩ := idx_some hx174
        refine WL.val (Value.pointer (some (elA u105 (x146).toNat))) _ (op_idx sl_23 (Ty.lift _ (Ext.trans hE23 hS167.ext) hr107) e168 e169 ha172 hb173) rfl ?_
        obtain ⟨u175, hc176, hr177⟩ := repSl.el hr107 hx174
        obtain ⟨rfl, hr177⟩ := hr177
        refine WL.val (Value.int .i64 x171) _ (op_load one_2 rfl (Ext.cell (Ext.trans hE23 hS167.ext) hc176)) rfl ?_
        refine WL.val (Value.int .i64 x171) _ (op_assign rfl) rfl ?_
        refine WL.val (Value.int .i64 (0 : Int)) _ (op_assign rfl) rfl ?_
        refine WL.nil ?_
        show W _ _ _ _ _ _
        refine W.ret ?_
        obtain rfl := Option.some.inj h
        show FinP _ _ _ _ _ _ _
        exact FinP.ret _ (res2 rfl rfl rfl) ⟨rfl, hr177, (inR_i64.2 (show (-9223372036854775808 : Int) ≤ 0 ∧ (0 : Int) ≤ 9223372036854775807 from by decide)), (Ext.trans hE23 hS167.ext)⟩

theorem c_laws_FnExactTrouserNumber {w : World} {aR_Table : (List (List (List Int)))} {v_aR_Table : Value} {aI : Int} {aJ : Int} {aK : Int} (r_aR_Table : (Ty.sl (Ty.sl (Ty.sl (Ty.i .i64)))).rep w v_aR_Table aR_Table) (r_aI : InR .i64 aI) (r_aJ : InR .i64 aJ) (r_aK : InR .i64 aK) {res : Bool} (h : p_laws_FnExactTrouserNumber aR_Table aI aJ aK  = some res) :
    Ret Try.prog 10 #[(Value.agg #[v_aR_Table]), (Value.int .i64 aI), (Value.int .i64 aJ), (Value.int .i64 aK)] w (fun v w' => v = Value.bool res ∧ Ext w w') := by
  unfold p_laws_FnExactTrouserNumber at h
  have hS0 : St w w [] := St.start w
  refine Ret.start (fn := Try.f10) Try.func10 rfl 52 rfl rfl ?_
  refine W.seq ?_
  refine W.region ?_
  refine WL.box hS0 rfl (cs := [v_aR_Table]) rfl rfl ?_
  intro b1 wd2 hS3 he4 hx5
  replace hS3 : St w wd2 [bx b1 [v_aR_Table]] := hS3
  have hx6 := St.boxAt hS3 0 rfl
  have hE7 : Ext w wd2 := hS3.ext
  have hS8 : St wd2 wd2 [] := St.start wd2
  refine WL.val (Value.bool false) _ (op_assign rfl) rfl ?_
  refine WL.nil ?_
  show W _ _ _ _ _ _
  refine W.seq ?_
  refine W.region ?_
  refine WL.val (Value.int .i64 (1048576 : Int)) _ (op_assign rfl) rfl ?_
  refine WL.nil ?_
  show W _ _ _ _ _ _
  refine W.seq ?_
  refine W.region ?_
  refine WL.val (Value.agg #[v_aR_Table]) _ (op_loadBox st_38 rfl (BoxAt.lift hS8.ext hx6) rfl rfl) rfl ?_
  refine WL.val (Value.int .i64 (1048576 : Int)) _ (op_move rfl) rfl ?_
  obtain ⟨x9, hx10, h⟩ := bs h
  refine WL.call _ (op_call fn_29 (args2 rfl rfl)) (c_laws_szRing (Ty.lift _ (Ext.trans hE7 hS8.ext) r_aR_Table) (inR_i64.2 (show (-9223372036854775808 : Int) ≤ 1048576 ∧ (1048576 : Int) ≤ 9223372036854775807 from by decide)) hx10) rfl ?_
  rintro _ wd12 ⟨rfl, hr11, he13⟩
  have hS15 := St.extend hS8 he13
  replace hS15 : St wd2 wd12 [] := hS15
  refine WL.val (Value.int .i64 x9) _ (op_assign rfl) rfl ?_
  refine WL.nil ?_
  show W _ _ _ _ _ _
  refine W.seq ?_
  refine W.seq ?_
  refine W.region ?_
  refine WL.val (Value.int .i64 x9) _ (op_move rfl) rfl ?_
  refine WL.val (Value.bool (decide (x9 < (0 : Int)))) _ (op_lss rfl rfl) rfl ?_
  refine WL.nil ?_
  show W _ _ _ _ _ _
  refine W.cond (decide (x9 < (0 : Int))) rfl (fun hc16 => ?_) (fun hc16 => ?_)
  · replace h := ip h hc16
    refine W.seq ?_
    refine W.region ?_
    refine WL.val (Value.bool true) _ (op_assign rfl) rfl ?_
    refine WL.nil ?_
    show W _ _ _ _ _ _
    refine W.ret ?_
    obtain rfl := Option.some.inj h
    show FinP _ _ _ _ _ _ _
    exact FinP.ret _ (res1 rfl rfl) ⟨rfl, (Ext.trans hE7 hS15.ext)⟩
  · replace h := inegb h hc16
    refine W.skip ?_
    show W _ _ _ _ _ _
    refine W.seq ?_
    refine W.region ?_
    refine WL.val (Value.agg #[v_aR_Table]) _ (op_loadBox st_38 rfl (BoxAt.lift hS15.ext hx6) rfl rfl) rfl ?_
    obtain ⟨x18, hx19, h⟩ := bs h
    refine WL.call _ (op_call fn_31 (args1 rfl)) (c_laws_toRing (Ty.lift _ (Ext.trans hE7 hS15.ext) r_aR_Table) hx19) rfl ?_
    rintro _ wd21 ⟨u20, rfl, he22, hs23⟩
    have hS24 := St.join hS15 he22 hs23
    replace hS24 : St wd2 wd21 [(Ty.sl (Ty.sl (Ty.sl (Ty.i .i64)))).at u20 x18] := hS24
    have hb25 := St.rep (t := (Ty.sl (Ty.sl (Ty.sl (Ty.i .i64))))) hS24 0 rfl
    have hE26 : Ext w wd21 := (Ext.trans hE7 hS24.ext)
    have hE27 : Ext wd2 wd21 := hS24.ext
    have hS28 : St wd21 wd21 [] := St.start wd21
    refine WL.val (Value.int .i64 aI) _ (op_move rfl) rfl ?_
    refine WL.val (Value.int .i64 aJ) _ (op_move rfl) rfl ?_
    refine WL.val (Value.int .i64 aK) _ (op_move rfl) rfl ?_
    obtain ⟨x29, hx30, h⟩ := bs h
    refine WL.call _ (op_call fn_44 (args4 rfl rfl rfl rfl)) (c_spec_TrouserNumber (Ty.lift _ hS28.ext hb25) r_aI r_aJ r_aK hx30) rfl ?_
    rintro _ wd33 ⟨rfl, hr31, hr32, he34⟩
    have hS36 := St.extend hS28 he34
    replace hS36 : St wd21 wd33 [] := hS36
    refine WL.val (Value.tuple #[(Value.int .i64 x29.1), (Value.int .i64 x29.2)]) _ (op_move rfl) rfl ?_
    refine WL.val (Value.int .i64 x29.1) _ (op_extract rfl rfl) rfl ?_
    refine WL.val (Value.int .i64 x29.2) _ (op_extract rfl rfl) rfl ?_
    refine WL.val (Value.int .i64 x29.1) _ (op_assign rfl) rfl ?_
    refine WL.val (Value.int .i64 x29.2) _ (op_assign rfl) rfl ?_
    refine WL.nil ?_
    show W _ _ _ _ _ _
    refine W.seq ?_
    refine W.region ?_
    refine WL.val (Value.agg #[v_aR_Table]) _ (op_loadBox st_38 rfl (BoxAt.lift (Ext.trans hE27 hS36.ext) hx6) rfl rfl) rfl ?_
    obtain ⟨x37, hx38, h⟩ := bs h
    refine WL.call _ (op_call fn_31 (args1 rfl)) (c_laws_toRing (Ty.lift _ (Ext.trans hE26 hS36.ext) r_aR_Table) hx38) rfl ?_
    rintro _ wd40 ⟨u39, rfl, he41, hs42⟩
    have hS43 := St.join hS36 he41 hs42
    replace hS43 : St wd21 wd40 [(Ty.sl (Ty.sl (Ty.sl (Ty.i .i64)))).at u39 x37] := hS43
    refine WL.alloc hS43 ze_27 (cs := [(Value.slice none 0 0)]) rfl rfl ?_
    intro b44 wd45 hS46 he47
    replace hS46 : St wd21 wd45 [(Ty.sl (Ty.sl (Ty.sl (Ty.i .i64)))).at u39 x37, bx b44 [(Value.slice none 0 0)]] := hS46
    refine WL.storeBox [u39] hS46 (k := 1) rfl rfl rfl (us := [u39]) rfl sz_27 rfl rfl (all_rep (St.rep (t := (Ty.sl (Ty.sl (Ty.sl (Ty.i .i64))))) hS46 0 rfl) all_nil) rfl ?_
    intro wd48 hS49
    replace hS49 : St wd21 wd48 [(Ty.sl (Ty.sl (Ty.sl (Ty.i .i64)))).at u39 x37, bx b44 [u39]] := hS49
    refine WL.nil ?_
    show W _ _ _ _ _ _
    refine W.seq ?_
    refine W.region ?_
    refine WL.val (Value.agg #[u39]) _ (op_loadBox st_27 rfl (St.boxAt hS49 1 rfl) rfl rfl) rfl ?_
    refine WL.val (Value.int .i64 aI) _ (op_move rfl) rfl ?_
    refine WL.val (Value.int .i64 aJ) _ (op_move rfl) rfl ?_
    refine WL.val (Value.int .i64 aK) _ (op_move rfl) rfl ?_
    obtain ⟨x50, hx51, h⟩ := bs h
    refine WL.call _ (op_call fn_45 (args4 rfl rfl rfl rfl)) (c_impl_TrouserNumber (St.rep (t := (Ty.sl (Ty.sl (Ty.sl (Ty.i .i64))))) hS49 0 rfl) r_aI r_aJ r_aK hx51) rfl ?_
    rintro _ wd54 ⟨rfl, hr52, hr53, he55⟩
    have hS57 := St.extend hS49 he55
    replace hS57 : St wd21 wd54 [(Ty.sl (Ty.sl (Ty.sl (Ty.i .i64)))).at u39 x37, bx b44 [u39]] := hS57
    refine WL.val (Value.tuple #[(Value.int .i64 x50.1), (Value.int .i64 x50.2)]) _ (op_move rfl) rfl ?_
    refine WL.val (Value.int .i64 x50.1) _ (op_extract rfl rfl) rfl ?_
    refine WL.val (Value.int .i64 x50.2) _ (op_extract rfl rfl) rfl ?_
    refine WL.val (Value.int .i64 x50.1) _ (op_assign rfl) rfl ?_
    refine WL.val (Value.int .i64 x50.2) _ (op_assign rfl) rfl ?_
    refine WL.nil ?_
    show W _ _ _ _ _ _
    refine W.seq ?_
    refine W.seq ?_
    refine W.region ?_
    refine WL.val (Value.int .i64 x50.1) _ (op_move rfl) rfl ?_
    refine WL.val (Value.int .i64 x29.1) _ (op_move rfl) rfl ?_
    refine WL.val (Value.bool (x50.1 != x29.1)) _ (op_neq rfl rfl) rfl ?_
    refine WL.val (Value.bool (x50.1 != x29.1)) _ (op_move rfl) rfl ?_
    refine WL.cut 4 (fun fq wq => fq 4 = (Value.pointer (some ⟨b1, 0, none⟩)) ∧ fq 12 = (Value.pointer (some ⟨b44, 0, none⟩)) ∧ fq 46 = (Value.bool ((x50.1 != x29.1) || (x50.2 != x29.2))) ∧ St wd21 wq [(Ty.sl (Ty.sl (Ty.sl (Ty.i .i64)))).at u39 x37, bx b44 [u39]]) ?_ ?_
    · rcases Bool.eq_false_or_eq_true (x50.1 != x29.1) with hc58 | hc58
      · refine WL.gskip rfl (bool_of rfl hc58) rfl ?_
        refine WL.gskip rfl (bool_of rfl hc58) rfl ?_
        refine WL.gskip rfl (bool_of rfl hc58) rfl ?_
        refine WL.val (Value.bool true) _ (op_pick_t (evb_of rfl hc58) rfl) rfl ?_
        refine WL.nil ?_
        exact ⟨rfl, rfl, rfl, (orT hc58), hS57⟩
      · refine WL.grun rfl (bool_of rfl hc58) ?_
        refine WL.val (Value.int .i64 x50.2) _ (op_move rfl) rfl ?_
        refine WL.grun rfl (bool_of rfl hc58) ?_
        refine WL.val (Value.int .i64 x29.2) _ (op_move rfl) rfl ?_
        refine WL.grun rfl (bool_of rfl hc58) ?_
        refine WL.val (Value.bool (x50.2 != x29.2)) _ (op_neq rfl rfl) rfl ?_
        refine WL.val (Value.bool (x50.2 != x29.2)) _ (op_pick_f (evb_of rfl hc58) rfl) rfl ?_
        refine WL.nil ?_
        exact ⟨rfl, rfl, rfl, (orF hc58), hS57⟩
    · intro f59 wd60 hq61
      obtain ⟨hf62, hf63, hf64, hS65⟩ := hq61
      refine WL.nil ?_
      show W _ _ _ _ _ _
      refine W.cond ((x50.1 != x29.1) || (x50.2 != x29.2)) hf64 (fun hc66 => ?_) (fun hc66 => ?_)
      · replace h := ip h hc66
        refine W.seq ?_
        refine W.region ?_
        refine WL.val (Value.bool false) _ (op_assign rfl) rfl ?_
        refine WL.nil ?_
        show W _ _ _ _ _ _
        refine W.ret ?_
        obtain rfl := Option.some.inj h
        show FinP _ _ _ _ _ _ _
        exact FinP.ret _ (res1 rfl rfl) ⟨rfl, (Ext.trans hE26 hS65.ext)⟩
      · replace h := inegb h hc66
        refine W.skip ?_
        show W _ _ _ _ _ _
        refine W.seq ?_
        refine W.seq ?_
        obtain ⟨x91, hx92, h⟩ := bs h
        refine W.draw mixo 3 [fun v w' => ∃ (uu0 : Value), v = (Value.agg #[uu0]) ∧ (Ty.sl (Ty.sl (Ty.sl (Ty.i .i64)))).rep w' uu0 x37, fun v w' => ∃ (uu0 : Value), v = (Value.agg #[uu0]) ∧ (Ty.sl (Ty.sl (Ty.sl (Ty.i .i64)))).rep w' uu0 aR_Table, fun v w' => ∃ (uu0 : Value), v = (Value.agg #[uu0]) ∧ (Ty.sl (Ty.sl (Ty.sl (Ty.i .i64)))).rep w' uu0 x91] (by kernel_rfl) (by kernel_rfl) (stabL ⟨(fun _ _ _ he ⟨uu0, h0, r0⟩ => ⟨uu0, h0, Ty.lift _ he r0⟩), (fun _ _ _ he ⟨uu0, h0, r0⟩ => ⟨uu0, h0, Ty.lift _ he r0⟩), (fun _ _ _ he ⟨uu0, h0, r0⟩ => ⟨uu0, h0, Ty.lift _ he r0⟩), trivial⟩) ⟨?_, ?_, ?_, trivial⟩ ?_
        · intro f68 wd69 he70 hout71 hphi72
          have hS73 : St wd21 wd69 [(Ty.sl (Ty.sl (Ty.sl (Ty.i .i64)))).at u39 x37, bx b44 [u39]] := St.extend hS65 he70
          have e74 : f68 12 = (Value.pointer (some ⟨b44, 0, none⟩)) := (hout71 12 rfl).trans hf63
          exact OpY.val (Value.agg #[u39]) wd69 rfl (op_loadBox st_27 e74 (St.boxAt hS73 1 rfl) rfl rfl) (Ext.refl _) ⟨u39, rfl, (St.rep (t := (Ty.sl (Ty.sl (Ty.sl (Ty.i .i64))))) hS73 0 rfl)⟩
        · intro f75 wd76 he77 hout78 hphi79
          have hS80 : St wd21 wd76 [(Ty.sl (Ty.sl (Ty.sl (Ty.i .i64)))).at u39 x37, bx b44 [u39]] := St.extend hS65 he77
          have e81 : f75 4 = (Value.pointer (some ⟨b1, 0, none⟩)) := (hout78 4 rfl).trans hf62
          exact OpY.val (Value.agg #[v_aR_Table]) wd76 rfl (op_loadBox st_38 e81 (BoxAt.lift (Ext.trans hE27 hS80.ext) hx6) rfl rfl) (Ext.refl _) ⟨v_aR_Table, rfl, (Ty.lift _ (Ext.trans hE26 hS80.ext) r_aR_Table)⟩
        · intro f82 wd83 he84 hout85 hphi86
          have hS87 : St wd21 wd83 [(Ty.sl (Ty.sl (Ty.sl (Ty.i .i64)))).at u39 x37, bx b44 [u39]] := St.extend hS65 he84
          obtain ⟨u89, e88, hr90⟩ := hphi86 1 48 _ rfl rfl rfl
          refine OpY.call rfl (op_call fn_31 (args1 e88)) (Ret.mono (c_laws_toRing hr90 hx92) ?_)
          rintro _ wd94 ⟨u93, rfl, he95, hs96⟩
          exact ⟨he95, ⟨u93, rfl, (Sep.rep (t := (Ty.sl (Ty.sl (Ty.sl (Ty.i .i64))))) hs96 0 rfl)⟩⟩
        · intro f97 wd98 he99 hout100 hphi101
          show WL _ _ _ _ _ _ _
          have hS102 : St wd21 wd98 [(Ty.sl (Ty.sl (Ty.sl (Ty.i .i64)))).at u39 x37, bx b44 [u39]] := St.extend hS65 he99
          obtain ⟨u104, e103, hr105⟩ := hphi101 0 47 _ (by decide) rfl rfl
          obtain ⟨u107, e106, hr108⟩ := hphi101 2 49 _ (by decide) rfl rfl
          obtain ⟨x109, hx110, h⟩ := bs h
          refine WL.call _ (op_call fn_22 (args2 e103 e106)) (c_laws_eqRing hr105 hr108 hx110) rfl ?_
          rintro _ wd111 ⟨rfl, he112⟩
          have hS114 := St.extend hS102 he112
          replace hS114 : St wd21 wd111 [(Ty.sl (Ty.sl (Ty.sl (Ty.i .i64)))).at u39 x37, bx b44 [u39]] := hS114
          refine WL.val (Value.bool (!x109)) _ (op_not rfl) rfl ?_
          refine WL.nil ?_
          show W _ _ _ _ _ _
          refine W.cond (!x109) rfl (fun hc115 => ?_) (fun hc115 => ?_)
          · replace h := ip h hc115
            refine W.seq ?_
            refine W.region ?_
            refine WL.val (Value.bool false) _ (op_assign rfl) rfl ?_
            refine WL.nil ?_
            show W _ _ _ _ _ _
            refine W.ret ?_
            obtain rfl := Option.some.inj h
            show FinP _ _ _ _ _ _ _
            exact FinP.ret _ (res1 rfl rfl) ⟨rfl, (Ext.trans hE26 hS114.ext)⟩
          · replace h := inegb h hc115
            refine W.skip ?_
            show W _ _ _ _ _ _
            refine W.seq ?_
            refine W.region ?_
            refine WL.val (Value.bool true) _ (op_assign rfl) rfl ?_
            refine WL.nil ?_
            show W _ _ _ _ _ _
            refine W.ret ?_
            obtain rfl := Option.some.inj h
            show FinP _ _ _ _ _ _ _
            exact FinP.ret _ (res1 rfl rfl) ⟨rfl, (Ext.trans hE26 hS114.ext)⟩

end Go.VG
