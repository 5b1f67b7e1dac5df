/- The walks, part 1: each Go function returns what its plain twin returns. No condition beyond what each names. -/
import Derived.Test.YtclffgakhkhglaaGPure
import Derived.Test.YtclffgakhkhglaaGFacts
set_option linter.all false
namespace Go.VG
open Go.Proofs
attribute [local irreducible] W WL Sep FinP

theorem c_laws_szInt64S {w : World} {a : (List Int)} {v_a : Value} {left : Int} (r_a : (Ty.sl (Ty.i .i64)).rep w v_a a) (r_left : InR .i64 left) {res : Int} (h : p_laws_szInt64S a left  = some res) :
    Ret Try.prog 95 #[v_a, (Value.int .i64 left)] w (fun v w' => v = Value.int .i64 res ∧ InR .i64 res ∧ Ext w w') := by
  unfold p_laws_szInt64S at h
  have hS0 : St w w [] := St.start w
  refine Ret.start (fn := Try.f95) Try.func95 rfl 12 rfl rfl ?_
  refine W.seq ?_
  refine W.region ?_
  refine WL.val (Value.int .i64 (0 : Int)) _ (op_assign rfl) rfl ?_
  refine WL.nil ?_
  show W _ _ _ _ _ _
  refine W.seq ?_
  refine W.region ?_
  refine WL.val (Value.int .i64 left) _ (op_move rfl) rfl ?_
  refine WL.val v_a _ (op_move rfl) rfl ?_
  have hr1 := inR_len (Ty.lift _ hS0.ext r_a)
  refine WL.val (Value.int .i64 ((a).length : Int)) _ (op_lenL sl_25 (Ty.lift _ hS0.ext r_a) rfl) rfl ?_
  refine WL.val (Value.int .i64 (w64 (left - ((a).length : Int)))) _ (op_sub rfl rfl) rfl ?_
  refine WL.val (Value.int .i64 (w64 (left - ((a).length : Int)))) _ (op_assign rfl) rfl ?_
  refine WL.nil ?_
  show W _ _ _ _ _ _
  refine W.seq ?_
  refine W.seq ?_
  refine W.region ?_
  refine WL.val (Value.int .i64 (w64 (left - ((a).length : Int)))) _ (op_move rfl) rfl ?_
  refine WL.val (Value.bool (decide ((w64 (left - ((a).length : Int))) < (0 : Int)))) _ (op_lss rfl rfl) rfl ?_
  refine WL.nil ?_
  show W _ _ _ _ _ _
  refine W.cond (decide ((w64 (left - ((a).length : Int))) < (0 : Int))) rfl (fun hc2 => ?_) (fun hc2 => ?_)
  · replace h := ip h hc2
    refine W.seq ?_
    refine W.region ?_
    refine WL.val (Value.int .i64 (-1 : Int)) _ (op_assign rfl) rfl ?_
    refine WL.nil ?_
    show W _ _ _ _ _ _
    refine W.ret ?_
    obtain rfl := Option.some.inj h
    show FinP _ _ _ _ _ _ _
    exact FinP.ret _ (res1 rfl rfl) ⟨rfl, (inR_i64.2 (show (-9223372036854775808 : Int) ≤ -1 ∧ (-1 : Int) ≤ 9223372036854775807 from by decide)), hS0.ext⟩
  · replace h := inegb h hc2
    refine W.skip ?_
    show W _ _ _ _ _ _
    refine W.seq ?_
    refine W.region ?_
    refine WL.val (Value.int .i64 (w64 (left - ((a).length : Int)))) _ (op_move rfl) rfl ?_
    refine WL.val (Value.int .i64 (w64 (left - ((a).length : Int)))) _ (op_assign rfl) rfl ?_
    refine WL.nil ?_
    show W _ _ _ _ _ _
    refine W.ret ?_
    obtain rfl := Option.some.inj h
    show FinP _ _ _ _ _ _ _
    exact FinP.ret _ (res1 rfl rfl) ⟨rfl, (inR_wrap _ _), hS0.ext⟩

theorem c_laws_szInt64SS {w : World} {a : (List (List Int))} {v_a : Value} {left : Int} (r_a : (Ty.sl (Ty.sl (Ty.i .i64))).rep w v_a a) (r_left : InR .i64 left) {res : Int} (h : p_laws_szInt64SS a left  = some res) :
    Ret Try.prog 67 #[v_a, (Value.int .i64 left)] w (fun v w' => v = Value.int .i64 res ∧ InR .i64 res ∧ Ext w w') := by
  unfold p_laws_szInt64SS at h
  have hS0 : St w w [] := St.start w
  refine Ret.start (fn := Try.f67) Try.func67 rfl 27 rfl rfl ?_
  refine W.seq ?_
  refine W.region ?_
  refine WL.val (Value.int .i64 (0 : Int)) _ (op_assign rfl) rfl ?_
  refine WL.nil ?_
  show W _ _ _ _ _ _
  refine W.seq ?_
  refine W.region ?_
  refine WL.val (Value.int .i64 left) _ (op_move rfl) rfl ?_
  refine WL.val v_a _ (op_move rfl) rfl ?_
  have hr1 := inR_len (Ty.lift _ hS0.ext r_a)
  refine WL.val (Value.int .i64 ((a).length : Int)) _ (op_lenL sl_65 (Ty.lift _ hS0.ext r_a) rfl) rfl ?_
  refine WL.val (Value.int .i64 (w64 (left - ((a).length : Int)))) _ (op_sub rfl rfl) rfl ?_
  refine WL.val (Value.int .i64 (w64 (left - ((a).length : Int)))) _ (op_assign rfl) rfl ?_
  refine WL.nil ?_
  show W _ _ _ _ _ _
  refine W.seq ?_
  refine W.seq ?_
  refine W.region ?_
  refine WL.val (Value.int .i64 (w64 (left - ((a).length : Int)))) _ (op_move rfl) rfl ?_
  refine WL.val (Value.bool (decide ((w64 (left - ((a).length : Int))) < (0 : Int)))) _ (op_lss rfl rfl) rfl ?_
  refine WL.nil ?_
  show W _ _ _ _ _ _
  refine W.cond (decide ((w64 (left - ((a).length : Int))) < (0 : Int))) rfl (fun hc2 => ?_) (fun hc2 => ?_)
  · replace h := ip h hc2
    refine W.seq ?_
    refine W.region ?_
    refine WL.val (Value.int .i64 (-1 : Int)) _ (op_assign rfl) rfl ?_
    refine WL.nil ?_
    show W _ _ _ _ _ _
    refine W.ret ?_
    obtain rfl := Option.some.inj h
    show FinP _ _ _ _ _ _ _
    exact FinP.ret _ (res1 rfl rfl) ⟨rfl, (inR_i64.2 (show (-9223372036854775808 : Int) ≤ -1 ∧ (-1 : Int) ≤ 9223372036854775807 from by decide)), hS0.ext⟩
  · replace h := inegb h hc2
    refine W.skip ?_
    show W _ _ _ _ _ _
    refine W.seq ?_
    refine W.seq ?_
    refine W.region ?_
    refine WL.val (Value.int .i64 (0 : Int)) _ (op_assign rfl) rfl ?_
    refine WL.nil ?_
    show W _ _ _ _ _ _
    obtain ⟨res4, hres5, h⟩ := bs h
    refine W.blockLoop (fun fq wq => ∃ s, res4 = Res.fin s ∧ fq 1 = Value.int .i64 s ∧ InR .i64 s ∧ St w wq []) ?_ ?_
    · refine W.forN (fun k (s : Int) fq wq => fq 0 = v_a ∧ fq 1 = Value.int .i64 s ∧ InR .i64 s ∧ fq 5 = Value.int .i64 (k : Int) ∧ InR .i64 (k : Int) ∧ St w wq []) hres5 ⟨rfl, rfl, (inR_wrap _ _), rfl, (inR_i64.2 (show (-9223372036854775808 : Int) ≤ 0 ∧ (0 : Int) ≤ 9223372036854775807 from by decide)), hS0⟩ ?_ ?_
      · intro k6 x7 ct8 f9 wd10 hk11 hb12 hI13 hbrk14 hret15
        replace hI13 : f9 0 = v_a ∧ f9 1 = Value.int .i64 x7 ∧ InR .i64 x7 ∧ f9 5 = Value.int .i64 (k6 : Int) ∧ InR .i64 (k6 : Int) ∧ St w wd10 [] := hI13
        replace hb12 : p_laws_szInt64SS_L1 a k6 x7 = some ct8 := hb12
        unfold p_laws_szInt64SS_L1 at hb12
        obtain ⟨hf16, hf17, hr18, hf19, hr20, hS21⟩ := hI13
        refine W.seq ?_
        refine W.seq ?_
        refine W.region ?_
        refine WL.val (Value.int .i64 (k6 : Int)) _ (op_move hf19) rfl ?_
        refine WL.val v_a _ (op_move hf16) rfl ?_
        have hr22 := inR_len (Ty.lift _ hS21.ext r_a)
        refine WL.val (Value.int .i64 ((a).length : Int)) _ (op_lenL sl_65 (Ty.lift _ hS21.ext r_a) rfl) rfl ?_
        refine WL.val (Value.bool (decide ((k6 : Int) < ((a).length : Int)))) _ (op_lss rfl rfl) rfl ?_
        have hl23 : (k6 : Int) < ((a).length : Int) := by omega
        refine WL.nil ?_
        show W _ _ _ _ _ _
        refine W.condT (decide ((k6 : Int) < ((a).length : Int))) rfl (decide_eq_true hl23) ?_
        refine W.skip ?_
        show W _ _ _ _ _ _
        refine W.seq ?_
        refine W.block ?_
        refine W.seq ?_
        refine W.region ?_
        refine WL.val v_a _ (op_move hf16) rfl ?_
        refine WL.val (Value.int .i64 (k6 : Int)) _ (op_move hf19) rfl ?_
        obtain ⟨x25, hx28, hb12⟩ := bs hb12
        obtain ⟨ha26, hb27, hx28⟩ := idx_some hx28
        refine WL.val (Value.pointer (some (elA v_a ((k6 : Int)).toNat))) _ (op_idx sl_65 (Ty.lift _ hS21.ext r_a) rfl rfl ha26 hb27) rfl ?_
        obtain ⟨u29, hc30, hr31⟩ := repSl.el r_a hx28
        refine WL.val u29 _ (op_load one_25 rfl (Ext.cell hS21.ext hc30)) rfl ?_
        refine WL.val (Value.int .i64 x7) _ (op_move hf17) rfl ?_
        obtain ⟨x32, hx33, hb12⟩ := bs hb12
        refine WL.call _ (op_call fn_95 (args2 rfl rfl)) (c_laws_szInt64S (Ty.lift _ hS21.ext hr31) hr18 hx33) rfl ?_
        rintro _ wd35 ⟨rfl, hr34, he36⟩
        have hS38 := St.extend hS21 he36
        replace hS38 : St w wd35 [] := hS38
        refine WL.val (Value.int .i64 x32) _ (op_assign rfl) rfl ?_
        refine WL.nil ?_
        show W _ _ _ _ _ _
        refine W.seq ?_
        refine W.region ?_
        refine WL.val (Value.int .i64 x32) _ (op_move rfl) rfl ?_
        refine WL.val (Value.bool (decide (x32 < (0 : Int)))) _ (op_lss rfl rfl) rfl ?_
        refine WL.nil ?_
        show W _ _ _ _ _ _
        refine W.cond (decide (x32 < (0 : Int))) rfl (fun hc39 => ?_) (fun hc39 => ?_)
        · replace hb12 := ip hb12 hc39
          refine W.seq ?_
          refine W.region ?_
          refine WL.val (Value.int .i64 (-1 : Int)) _ (op_assign rfl) rfl ?_
          refine WL.nil ?_
          show W _ _ _ _ _ _
          refine W.ret ?_
          obtain rfl := Option.some.inj hb12
          obtain rfl := hret15 _ rfl
          replace h := onRes_ret h
          obtain rfl := Option.some.inj h
          show FinP _ _ _ _ _ _ _
          exact FinP.ret _ (res1 rfl rfl) ⟨rfl, (inR_i64.2 (show (-9223372036854775808 : Int) ≤ -1 ∧ (-1 : Int) ≤ 9223372036854775807 from by decide)), hS38.ext⟩
        · replace hb12 := inegb hb12 hc39
          refine W.skip ?_
          show W _ _ _ _ _ _
          refine W.region ?_
          refine WL.val (Value.int .i64 (k6 : Int)) _ (op_move hf19) rfl ?_
          refine WL.val (Value.int .i64 (w64 ((k6 : Int) + (1 : Int)))) _ (op_add rfl rfl) rfl ?_
          refine WL.val (Value.int .i64 (w64 ((k6 : Int) + (1 : Int)))) _ (op_assign rfl) rfl ?_
          refine WL.nil ?_
          obtain rfl := Option.some.inj hb12
          show ∃ s, _ = Ctl.next s ∧ _
          exact ⟨_, rfl, hf16, rfl, hr34, (ctr_next hl23 hr22), (ctr_rng hl23 hr22), hS38⟩
      · intro x47 f42 wd43 hs44 hI45
        replace hI45 : f42 0 = v_a ∧ f42 1 = Value.int .i64 x47 ∧ InR .i64 x47 ∧ f42 5 = Value.int .i64 (((a).length : Nat) : Int) ∧ InR .i64 (((a).length : Nat) : Int) ∧ St w wd43 [] := hI45
        obtain ⟨hf48, hf49, hr50, hf51, hr52, hS53⟩ := hI45
        refine W.seq ?_
        refine W.seq ?_
        refine W.region ?_
        refine WL.val (Value.int .i64 (((a).length : Nat) : Int)) _ (op_move hf51) rfl ?_
        refine WL.val v_a _ (op_move hf48) rfl ?_
        have hr54 := inR_len (Ty.lift _ hS53.ext r_a)
        refine WL.val (Value.int .i64 ((a).length : Int)) _ (op_lenL sl_65 (Ty.lift _ hS53.ext r_a) rfl) rfl ?_
        refine WL.val (Value.bool (decide ((((a).length : Nat) : Int) < ((a).length : Int)))) _ (op_lss rfl rfl) rfl ?_
        have hl55 : ¬ (((a).length : Nat) : Int) < ((a).length : Int) := by omega
        refine WL.nil ?_
        show W _ _ _ _ _ _
        refine W.condF (decide ((((a).length : Nat) : Int) < ((a).length : Int))) rfl (decide_eq_false hl55) ?_
        refine W.exit ?_
        show _ = _ ∧ _
        exact ⟨rfl, _, hs44, hf49, hr50, hS53⟩
    · rintro f56 wd57 ⟨x60, rfl, hq58⟩
      replace h := onRes_fin h
      replace hq58 : f56 1 = Value.int .i64 x60 ∧ InR .i64 x60 ∧ St w wd57 [] := hq58
      obtain ⟨hf61, hr62, hS63⟩ := hq58
      show W _ _ _ _ _ _
      refine W.seq ?_
      refine W.region ?_
      refine WL.val (Value.int .i64 x60) _ (op_move hf61) rfl ?_
      refine WL.val (Value.int .i64 x60) _ (op_assign rfl) rfl ?_
      refine WL.nil ?_
      show W _ _ _ _ _ _
      refine W.ret ?_
      obtain rfl := Option.some.inj h
      show FinP _ _ _ _ _ _ _
      exact FinP.ret _ (res1 rfl rfl) ⟨rfl, hr62, hS63.ext⟩

theorem c_laws_szInt64SSS {w : World} {a : (List (List (List Int)))} {v_a : Value} {left : Int} (r_a : (Ty.sl (Ty.sl (Ty.sl (Ty.i .i64)))).rep w v_a a) (r_left : InR .i64 left) {res : Int} (h : p_laws_szInt64SSS a left  = some res) :
    Ret Try.prog 34 #[v_a, (Value.int .i64 left)] w (fun v w' => v = Value.int .i64 res ∧ InR .i64 res ∧ Ext w w') := by
  unfold p_laws_szInt64SSS at h
  have hS0 : St w w [] := St.start w
  refine Ret.start (fn := Try.f34) Try.func34 rfl 27 rfl rfl ?_
  refine W.seq ?_
  refine W.region ?_
  refine WL.val (Value.int .i64 (0 : Int)) _ (op_assign rfl) rfl ?_
  refine WL.nil ?_
  show W _ _ _ _ _ _
  refine W.seq ?_
  refine W.region ?_
  refine WL.val (Value.int .i64 left) _ (op_move rfl) rfl ?_
  refine WL.val v_a _ (op_move rfl) rfl ?_
  have hr1 := inR_len (Ty.lift _ hS0.ext r_a)
  refine WL.val (Value.int .i64 ((a).length : Int)) _ (op_lenL sl_22 (Ty.lift _ hS0.ext r_a) rfl) rfl ?_
  refine WL.val (Value.int .i64 (w64 (left - ((a).length : Int)))) _ (op_sub rfl rfl) rfl ?_
  refine WL.val (Value.int .i64 (w64 (left - ((a).length : Int)))) _ (op_assign rfl) rfl ?_
  refine WL.nil ?_
  show W _ _ _ _ _ _
  refine W.seq ?_
  refine W.seq ?_
  refine W.region ?_
  refine WL.val (Value.int .i64 (w64 (left - ((a).length : Int)))) _ (op_move rfl) rfl ?_
  refine WL.val (Value.bool (decide ((w64 (left - ((a).length : Int))) < (0 : Int)))) _ (op_lss rfl rfl) rfl ?_
  refine WL.nil ?_
  show W _ _ _ _ _ _
  refine W.cond (decide ((w64 (left - ((a).length : Int))) < (0 : Int))) rfl (fun hc2 => ?_) (fun hc2 => ?_)
  · replace h := ip h hc2
    refine W.seq ?_
    refine W.region ?_
    refine WL.val (Value.int .i64 (-1 : Int)) _ (op_assign rfl) rfl ?_
    refine WL.nil ?_
    show W _ _ _ _ _ _
    refine W.ret ?_
    obtain rfl := Option.some.inj h
    show FinP _ _ _ _ _ _ _
    exact FinP.ret _ (res1 rfl rfl) ⟨rfl, (inR_i64.2 (show (-9223372036854775808 : Int) ≤ -1 ∧ (-1 : Int) ≤ 9223372036854775807 from by decide)), hS0.ext⟩
  · replace h := inegb h hc2
    refine W.skip ?_
    show W _ _ _ _ _ _
    refine W.seq ?_
    refine W.seq ?_
    refine W.region ?_
    refine WL.val (Value.int .i64 (0 : Int)) _ (op_assign rfl) rfl ?_
    refine WL.nil ?_
    show W _ _ _ _ _ _
    obtain ⟨res4, hres5, h⟩ := bs h
    refine W.blockLoop (fun fq wq => ∃ s, res4 = Res.fin s ∧ fq 1 = Value.int .i64 s ∧ InR .i64 s ∧ St w wq []) ?_ ?_
    · refine W.forN (fun k (s : Int) fq wq => fq 0 = v_a ∧ fq 1 = Value.int .i64 s ∧ InR .i64 s ∧ fq 5 = Value.int .i64 (k : Int) ∧ InR .i64 (k : Int) ∧ St w wq []) hres5 ⟨rfl, rfl, (inR_wrap _ _), rfl, (inR_i64.2 (show (-9223372036854775808 : Int) ≤ 0 ∧ (0 : Int) ≤ 9223372036854775807 from by decide)), hS0⟩ ?_ ?_
      · intro k6 x7 ct8 f9 wd10 hk11 hb12 hI13 hbrk14 hret15
        replace hI13 : f9 0 = v_a ∧ f9 1 = Value.int .i64 x7 ∧ InR .i64 x7 ∧ f9 5 = Value.int .i64 (k6 : Int) ∧ InR .i64 (k6 : Int) ∧ St w wd10 [] := hI13
        replace hb12 : p_laws_szInt64SSS_L1 a k6 x7 = some ct8 := hb12
        unfold p_laws_szInt64SSS_L1 at hb12
        obtain ⟨hf16, hf17, hr18, hf19, hr20, hS21⟩ := hI13
        refine W.seq ?_
        refine W.seq ?_
        refine W.region ?_
        refine WL.val (Value.int .i64 (k6 : Int)) _ (op_move hf19) rfl ?_
        refine WL.val v_a _ (op_move hf16) rfl ?_
        have hr22 := inR_len (Ty.lift _ hS21.ext r_a)
        refine WL.val (Value.int .i64 ((a).length : Int)) _ (op_lenL sl_22 (Ty.lift _ hS21.ext r_a) rfl) rfl ?_
        refine WL.val (Value.bool (decide ((k6 : Int) < ((a).length : Int)))) _ (op_lss rfl rfl) rfl ?_
        have hl23 : (k6 : Int) < ((a).length : Int) := by omega
        refine WL.nil ?_
        show W _ _ _ _ _ _
        refine W.condT (decide ((k6 : Int) < ((a).length : Int))) rfl (decide_eq_true hl23) ?_
        refine W.skip ?_
        show W _ _ _ _ _ _
        refine W.seq ?_
        refine W.block ?_
        refine W.seq ?_
        refine W.region ?_
        refine WL.val v_a _ (op_move hf16) rfl ?_
        refine WL.val (Value.int .i64 (k6 : Int)) _ (op_move hf19) rfl ?_
        obtain ⟨x25, hx28, hb12⟩ := bs hb12
        obtain ⟨ha26, hb27, hx28⟩ := idx_some hx28
        refine WL.val (Value.pointer (some (elA v_a ((k6 : Int)).toNat))) _ (op_idx sl_22 (Ty.lift _ hS21.ext r_a) rfl rfl ha26 hb27) rfl ?_
        obtain ⟨u29, hc30, hr31⟩ := repSl.el r_a hx28
        refine WL.val u29 _ (op_load one_65 rfl (Ext.cell hS21.ext hc30)) rfl ?_
        refine WL.val (Value.int .i64 x7) _ (op_move hf17) rfl ?_
        obtain ⟨x32, hx33, hb12⟩ := bs hb12
        refine WL.call _ (op_call fn_67 (args2 rfl rfl)) (c_laws_szInt64SS (Ty.lift _ hS21.ext hr31) hr18 hx33) rfl ?_
        rintro _ wd35 ⟨rfl, hr34, he36⟩
        have hS38 := St.extend hS21 he36
        replace hS38 : St w wd35 [] := hS38
        refine WL.val (Value.int .i64 x32) _ (op_assign rfl) rfl ?_
        refine WL.nil ?_
        show W _ _ _ _ _ _
        refine W.seq ?_
        refine W.region ?_
        refine WL.val (Value.int .i64 x32) _ (op_move rfl) rfl ?_
        refine WL.val (Value.bool (decide (x32 < (0 : Int)))) _ (op_lss rfl rfl) rfl ?_
        refine WL.nil ?_
        show W _ _ _ _ _ _
        refine W.cond (decide (x32 < (0 : Int))) rfl (fun hc39 => ?_) (fun hc39 => ?_)
        · replace hb12 := ip hb12 hc39
          refine W.seq ?_
          refine W.region ?_
          refine WL.val (Value.int .i64 (-1 : Int)) _ (op_assign rfl) rfl ?_
          refine WL.nil ?_
          show W _ _ _ _ _ _
          refine W.ret ?_
          obtain rfl := Option.some.inj hb12
          obtain rfl := hret15 _ rfl
          replace h := onRes_ret h
          obtain rfl := Option.some.inj h
          show FinP _ _ _ _ _ _ _
          exact FinP.ret _ (res1 rfl rfl) ⟨rfl, (inR_i64.2 (show (-9223372036854775808 : Int) ≤ -1 ∧ (-1 : Int) ≤ 9223372036854775807 from by decide)), hS38.ext⟩
        · replace hb12 := inegb hb12 hc39
          refine W.skip ?_
          show W _ _ _ _ _ _
          refine W.region ?_
          refine WL.val (Value.int .i64 (k6 : Int)) _ (op_move hf19) rfl ?_
          refine WL.val (Value.int .i64 (w64 ((k6 : Int) + (1 : Int)))) _ (op_add rfl rfl) rfl ?_
          refine WL.val (Value.int .i64 (w64 ((k6 : Int) + (1 : Int)))) _ (op_assign rfl) rfl ?_
          refine WL.nil ?_
          obtain rfl := Option.some.inj hb12
          show ∃ s, _ = Ctl.next s ∧ _
          exact ⟨_, rfl, hf16, rfl, hr34, (ctr_next hl23 hr22), (ctr_rng hl23 hr22), hS38⟩
      · intro x47 f42 wd43 hs44 hI45
        replace hI45 : f42 0 = v_a ∧ f42 1 = Value.int .i64 x47 ∧ InR .i64 x47 ∧ f42 5 = Value.int .i64 (((a).length : Nat) : Int) ∧ InR .i64 (((a).length : Nat) : Int) ∧ St w wd43 [] := hI45
        obtain ⟨hf48, hf49, hr50, hf51, hr52, hS53⟩ := hI45
        refine W.seq ?_
        refine W.seq ?_
        refine W.region ?_
        refine WL.val (Value.int .i64 (((a).length : Nat) : Int)) _ (op_move hf51) rfl ?_
        refine WL.val v_a _ (op_move hf48) rfl ?_
        have hr54 := inR_len (Ty.lift _ hS53.ext r_a)
        refine WL.val (Value.int .i64 ((a).length : Int)) _ (op_lenL sl_22 (Ty.lift _ hS53.ext r_a) rfl) rfl ?_
        refine WL.val (Value.bool (decide ((((a).length : Nat) : Int) < ((a).length : Int)))) _ (op_lss rfl rfl) rfl ?_
        have hl55 : ¬ (((a).length : Nat) : Int) < ((a).length : Int) := by omega
        refine WL.nil ?_
        show W _ _ _ _ _ _
        refine W.condF (decide ((((a).length : Nat) : Int) < ((a).length : Int))) rfl (decide_eq_false hl55) ?_
        refine W.exit ?_
        show _ = _ ∧ _
        exact ⟨rfl, _, hs44, hf49, hr50, hS53⟩
    · rintro f56 wd57 ⟨x60, rfl, hq58⟩
      replace h := onRes_fin h
      replace hq58 : f56 1 = Value.int .i64 x60 ∧ InR .i64 x60 ∧ St w wd57 [] := hq58
      obtain ⟨hf61, hr62, hS63⟩ := hq58
      show W _ _ _ _ _ _
      refine W.seq ?_
      refine W.region ?_
      refine WL.val (Value.int .i64 x60) _ (op_move hf61) rfl ?_
      refine WL.val (Value.int .i64 x60) _ (op_assign rfl) rfl ?_
      refine WL.nil ?_
      show W _ _ _ _ _ _
      refine W.ret ?_
      obtain rfl := Option.some.inj h
      show FinP _ _ _ _ _ _ _
      exact FinP.ret _ (res1 rfl rfl) ⟨rfl, hr62, hS63.ext⟩

theorem c_laws_szRing {w : World} {a_Table : (List (List (List Int)))} {v_a_Table : Value} {left : Int} (r_a_Table : (Ty.sl (Ty.sl (Ty.sl (Ty.i .i64)))).rep w v_a_Table a_Table) (r_left : InR .i64 left) {res : Int} (h : p_laws_szRing a_Table left  = some res) :
    Ret Try.prog 9 #[(Value.agg #[v_a_Table]), (Value.int .i64 left)] w (fun v w' => v = Value.int .i64 res ∧ InR .i64 res ∧ Ext w w') := by
  unfold p_laws_szRing at h
  have hS0 : St w w [] := St.start w
  refine Ret.start (fn := Try.f9) Try.func9 rfl 12 rfl rfl ?_
  refine W.seq ?_
  refine W.region ?_
  refine WL.box hS0 rfl (cs := [v_a_Table]) rfl rfl ?_
  intro b1 wd2 hS3 he4 hx5
  replace hS3 : St w wd2 [bx b1 [v_a_Table]] := hS3
  have hx6 := St.boxAt hS3 0 rfl
  have hE7 : Ext w wd2 := hS3.ext
  have hS8 : St wd2 wd2 [] := St.start wd2
  refine WL.val (Value.int .i64 (0 : Int)) _ (op_assign rfl) rfl ?_
  refine WL.nil ?_
  show W _ _ _ _ _ _
  refine W.seq ?_
  refine W.region ?_
  refine WL.val (Value.pointer (some ⟨b1, 0, none⟩)) _ (op_fieldAddr fd_24_0 rfl) rfl ?_
  refine WL.val v_a_Table _ (op_load one_22 rfl (BoxAt.cell (BoxAt.lift hS8.ext hx6) rfl)) rfl ?_
  refine WL.val (Value.int .i64 left) _ (op_move rfl) rfl ?_
  obtain ⟨x9, hx10, h⟩ := bs h
  refine WL.call _ (op_call fn_34 (args2 rfl rfl)) (c_laws_szInt64SSS (Ty.lift _ (Ext.trans hE7 hS8.ext) r_a_Table) r_left hx10) rfl ?_
  rintro _ wd12 ⟨rfl, hr11, he13⟩
  have hS15 := St.extend hS8 he13
  replace hS15 : St wd2 wd12 [] := hS15
  refine WL.val (Value.int .i64 x9) _ (op_assign rfl) rfl ?_
  refine WL.nil ?_
  show W _ _ _ _ _ _
  refine W.seq ?_
  refine W.seq ?_
  refine W.region ?_
  refine WL.val (Value.int .i64 x9) _ (op_move rfl) rfl ?_
  refine WL.val (Value.bool (decide (x9 < (0 : Int)))) _ (op_lss rfl rfl) rfl ?_
  refine WL.nil ?_
  show W _ _ _ _ _ _
  refine W.cond (decide (x9 < (0 : Int))) rfl (fun hc16 => ?_) (fun hc16 => ?_)
  · replace h := ip h hc16
    refine W.seq ?_
    refine W.region ?_
    refine WL.val (Value.int .i64 (-1 : Int)) _ (op_assign rfl) rfl ?_
    refine WL.nil ?_
    show W _ _ _ _ _ _
    refine W.ret ?_
    obtain rfl := Option.some.inj h
    show FinP _ _ _ _ _ _ _
    exact FinP.ret _ (res1 rfl rfl) ⟨rfl, (inR_i64.2 (show (-9223372036854775808 : Int) ≤ -1 ∧ (-1 : Int) ≤ 9223372036854775807 from by decide)), (Ext.trans hE7 hS15.ext)⟩
  · replace h := inegb h hc16
    refine W.skip ?_
    show W _ _ _ _ _ _
    refine W.seq ?_
    refine W.region ?_
    refine WL.val (Value.int .i64 x9) _ (op_move rfl) rfl ?_
    refine WL.val (Value.int .i64 x9) _ (op_assign rfl) rfl ?_
    refine WL.nil ?_
    show W _ _ _ _ _ _
    refine W.ret ?_
    obtain rfl := Option.some.inj h
    show FinP _ _ _ _ _ _ _
    exact FinP.ret _ (res1 rfl rfl) ⟨rfl, hr11, (Ext.trans hE7 hS15.ext)⟩

theorem c_laws_toInt64S {w : World} {a : (List Int)} {v_a : Value} (r_a : (Ty.sl (Ty.i .i64)).rep w v_a a) {res : (List Int)} (h : p_laws_toInt64S a  = some res) :
    Ret Try.prog 12 #[v_a] w (fun v w' => ∃ (u0 : Value), v = u0 ∧ Ext w w' ∧ Sep w.heap.size w' [(Ty.sl (Ty.i .i64)).at u0 res]) := by
  unfold p_laws_toInt64S at h
  have hS0 : St w w [] := St.start w
  refine Ret.start (fn := Try.f12) Try.func12 rfl 22 rfl rfl ?_
  refine W.seq ?_
  refine W.region ?_
  refine WL.val (Value.slice none 0 0) _ (op_assign rfl) rfl ?_
  refine WL.nil ?_
  show W _ _ _ _ _ _
  refine W.seq ?_
  refine W.region ?_
  refine WL.val v_a _ (op_move rfl) rfl ?_
  have hr1 := inR_len (Ty.lift _ hS0.ext r_a)
  refine WL.val (Value.int .i64 ((a).length : Int)) _ (op_lenL sl_25 (Ty.lift _ hS0.ext r_a) rfl) rfl ?_
  obtain ⟨x2, hx3, h⟩ := bs h
  refine WL.make (t := (Ty.i .i64)) hS0 sl_25 (fun _ _ => ⟨rfl, (inR_i64.2 (show (-9223372036854775808 : Int) ≤ 0 ∧ (0 : Int) ≤ 9223372036854775807 from by decide))⟩) rfl rfl hx3 rfl rfl ?_
  intro u4 wd5 hS6 he7
  replace hS6 : St w wd5 [(Ty.sl (Ty.i .i64)).at u4 x2] := hS6
  refine WL.val u4 _ (op_assign rfl) rfl ?_
  refine WL.nil ?_
  show W _ _ _ _ _ _
  refine W.seq ?_
  refine W.seq ?_
  refine W.region ?_
  refine WL.val (Value.int .i64 (0 : Int)) _ (op_assign rfl) rfl ?_
  refine WL.nil ?_
  show W _ _ _ _ _ _
  obtain ⟨res8, hres9, h⟩ := bs h
  refine W.blockLoop (fun fq wq => ∃ s, res8 = Res.fin s ∧ fq 3 = u4 ∧ St w wq [(Ty.sl (Ty.i .i64)).at u4 s]) ?_ ?_
  · refine W.forN (fun k (s : (List Int)) fq wq => fq 0 = v_a ∧ fq 3 = u4 ∧ fq 4 = Value.int .i64 (k : Int) ∧ InR .i64 (k : Int) ∧ St w wq [(Ty.sl (Ty.i .i64)).at u4 s]) hres9 ⟨rfl, rfl, rfl, (inR_i64.2 (show (-9223372036854775808 : Int) ≤ 0 ∧ (0 : Int) ≤ 9223372036854775807 from by decide)), hS6⟩ ?_ ?_
    · intro k10 x11 ct12 f13 wd14 hk15 hb16 hI17 hbrk18 hret19
      replace hI17 : f13 0 = v_a ∧ f13 3 = u4 ∧ f13 4 = Value.int .i64 (k10 : Int) ∧ InR .i64 (k10 : Int) ∧ St w wd14 [(Ty.sl (Ty.i .i64)).at u4 x11] := hI17
      replace hb16 : p_laws_toInt64S_L1 a k10 x11 = some ct12 := hb16
      unfold p_laws_toInt64S_L1 at hb16
      obtain ⟨hf20, hf21, hf22, hr23, hS24⟩ := hI17
      refine W.seq ?_
      refine W.seq ?_
      refine W.region ?_
      refine WL.val (Value.int .i64 (k10 : Int)) _ (op_move hf22) rfl ?_
      refine WL.val v_a _ (op_move hf20) rfl ?_
      have hr25 := inR_len (Ty.lift _ hS24.ext r_a)
      refine WL.val (Value.int .i64 ((a).length : Int)) _ (op_lenL sl_25 (Ty.lift _ hS24.ext r_a) rfl) rfl ?_
      refine WL.val (Value.bool (decide ((k10 : Int) < ((a).length : Int)))) _ (op_lss rfl rfl) rfl ?_
      have hl26 : (k10 : Int) < ((a).length : Int) := by omega
      refine WL.nil ?_
      show W _ _ _ _ _ _
      refine W.condT (decide ((k10 : Int) < ((a).length : Int))) rfl (decide_eq_true hl26) ?_
      refine W.skip ?_
      show W _ _ _ _ _ _
      refine W.seq ?_
      refine W.block ?_
      refine W.region ?_
      refine WL.val u4 _ (op_move hf21) rfl ?_
      refine WL.val (Value.int .i64 (k10 : Int)) _ (op_move hf22) rfl ?_
      refine WL.val v_a _ (op_move hf20) rfl ?_
      refine WL.val (Value.int .i64 (k10 : Int)) _ (op_move hf22) rfl ?_
      obtain ⟨x28, hx31, hb16⟩ := bs hb16
      obtain ⟨ha29, hb30, hx31⟩ := idx_some hx31
      refine WL.val (Value.pointer (some (elA v_a ((k10 : Int)).toNat))) _ (op_idx sl_25 (Ty.lift _ hS24.ext r_a) rfl rfl ha29 hb30) rfl ?_
      obtain ⟨u32, hc33, hr34⟩ := repSl.el r_a hx31
      obtain ⟨rfl, hr34⟩ := hr34
      refine WL.val (Value.int .i64 x28) _ (op_load one_2 rfl (Ext.cell hS24.ext hc33)) rfl ?_
      obtain ⟨x35, hx38, hb16⟩ := bs hb16
      obtain ⟨ha36, hb37, hx38⟩ := idx_some hx38
      refine WL.val (Value.pointer (some (elA u4 ((k10 : Int)).toNat))) _ (op_idx sl_25 (St.rep (t := (Ty.sl (Ty.i .i64))) hS24 0 rfl) rfl rfl ha36 hb37) rfl ?_
      refine WL.storeEl (flat_i .i64) hS24 (k := 0) rfl sz_2 rfl rfl (lt_of_idx ha36 hb37) ⟨rfl, hr34⟩ ?_
      intro wd39 hS40
      replace hS40 : St w wd39 [(Ty.sl (Ty.i .i64)).at u4 ((x11).set ((k10 : Int)).toNat x28)] := hS40
      refine WL.nil ?_
      show W _ _ _ _ _ _
      refine W.region ?_
      refine WL.val (Value.int .i64 (k10 : Int)) _ (op_move hf22) rfl ?_
      refine WL.val (Value.int .i64 (w64 ((k10 : Int) + (1 : Int)))) _ (op_add rfl rfl) rfl ?_
      refine WL.val (Value.int .i64 (w64 ((k10 : Int) + (1 : Int)))) _ (op_assign rfl) rfl ?_
      refine WL.nil ?_
      obtain rfl := Option.some.inj hb16
      show ∃ s, _ = Ctl.next s ∧ _
      exact ⟨_, rfl, hf20, hf21, (ctr_next hl26 hr25), (ctr_rng hl26 hr25), hS40⟩
    · intro x47 f42 wd43 hs44 hI45
      replace hI45 : f42 0 = v_a ∧ f42 3 = u4 ∧ f42 4 = Value.int .i64 (((a).length : Nat) : Int) ∧ InR .i64 (((a).length : Nat) : Int) ∧ St w wd43 [(Ty.sl (Ty.i .i64)).at u4 x47] := hI45
      obtain ⟨hf48, hf49, hf50, hr51, hS52⟩ := hI45
      refine W.seq ?_
      refine W.seq ?_
      refine W.region ?_
      refine WL.val (Value.int .i64 (((a).length : Nat) : Int)) _ (op_move hf50) rfl ?_
      refine WL.val v_a _ (op_move hf48) rfl ?_
      have hr53 := inR_len (Ty.lift _ hS52.ext r_a)
      refine WL.val (Value.int .i64 ((a).length : Int)) _ (op_lenL sl_25 (Ty.lift _ hS52.ext r_a) rfl) rfl ?_
      refine WL.val (Value.bool (decide ((((a).length : Nat) : Int) < ((a).length : Int)))) _ (op_lss rfl rfl) rfl ?_
      have hl54 : ¬ (((a).length : Nat) : Int) < ((a).length : Int) := by omega
      refine WL.nil ?_
      show W _ _ _ _ _ _
      refine W.condF (decide ((((a).length : Nat) : Int) < ((a).length : Int))) rfl (decide_eq_false hl54) ?_
      refine W.exit ?_
      show _ = _ ∧ _
      exact ⟨rfl, _, hs44, hf49, hS52⟩
  · rintro f55 wd56 ⟨x59, rfl, hq57⟩
    replace h := onRes_fin h
    replace hq57 : f55 3 = u4 ∧ St w wd56 [(Ty.sl (Ty.i .i64)).at u4 x59] := hq57
    obtain ⟨hf60, hS61⟩ := hq57
    show W _ _ _ _ _ _
    refine W.seq ?_
    refine W.region ?_
    refine WL.val u4 _ (op_move hf60) rfl ?_
    refine WL.val u4 _ (op_assign rfl) rfl ?_
    refine WL.nil ?_
    show W _ _ _ _ _ _
    refine W.ret ?_
    obtain rfl := Option.some.inj h
    show FinP _ _ _ _ _ _ _
    exact FinP.ret _ (res1 rfl rfl) ⟨u4, rfl, hS61.ext, (St.out (St.pick hS61 [0] rfl) (Ext.refl _))⟩

theorem c_laws_toInt64SS {w : World} {a : (List (List Int))} {v_a : Value} (r_a : (Ty.sl (Ty.sl (Ty.i .i64))).rep w v_a a) {res : (List (List Int))} (h : p_laws_toInt64SS a  = some res) :
    Ret Try.prog 70 #[v_a] w (fun v w' => ∃ (u0 : Value), v = u0 ∧ Ext w w' ∧ Sep w.heap.size w' [(Ty.sl (Ty.sl (Ty.i .i64))).at u0 res]) := by
  unfold p_laws_toInt64SS at h
  have hS0 : St w w [] := St.start w
  refine Ret.start (fn := Try.f70) Try.func70 rfl 23 rfl rfl ?_
  refine W.seq ?_
  refine W.region ?_
  refine WL.val (Value.slice none 0 0) _ (op_assign rfl) rfl ?_
  refine WL.nil ?_
  show W _ _ _ _ _ _
  refine W.seq ?_
  refine W.region ?_
  refine WL.val v_a _ (op_move rfl) rfl ?_
  have hr1 := inR_len (Ty.lift _ hS0.ext r_a)
  refine WL.val (Value.int .i64 ((a).length : Int)) _ (op_lenL sl_65 (Ty.lift _ hS0.ext r_a) rfl) rfl ?_
  obtain ⟨x2, hx3, h⟩ := bs h
  refine WL.make (t := (Ty.sl (Ty.i .i64))) hS0 sl_65 (fun S w => nilOwn _ S w) rfl rfl hx3 rfl rfl ?_
  intro u4 wd5 hS6 he7
  replace hS6 : St w wd5 [(Ty.sl (Ty.sl (Ty.i .i64))).at u4 x2] := hS6
  refine WL.val u4 _ (op_assign rfl) rfl ?_
  refine WL.nil ?_
  show W _ _ _ _ _ _
  refine W.seq ?_
  refine W.seq ?_
  refine W.region ?_
  refine WL.val (Value.int .i64 (0 : Int)) _ (op_assign rfl) rfl ?_
  refine WL.nil ?_
  show W _ _ _ _ _ _
  obtain ⟨res8, hres9, h⟩ := bs h
  refine W.blockLoop (fun fq wq => ∃ s, res8 = Res.fin s ∧ fq 3 = u4 ∧ St w wq [(Ty.sl (Ty.sl (Ty.i .i64))).at u4 s]) ?_ ?_
  · refine W.forN (fun k (s : (List (List Int))) fq wq => fq 0 = v_a ∧ fq 3 = u4 ∧ fq 4 = Value.int .i64 (k : Int) ∧ InR .i64 (k : Int) ∧ St w wq [(Ty.sl (Ty.sl (Ty.i .i64))).at u4 s]) hres9 ⟨rfl, rfl, rfl, (inR_i64.2 (show (-9223372036854775808 : Int) ≤ 0 ∧ (0 : Int) ≤ 9223372036854775807 from by decide)), hS6⟩ ?_ ?_
    · intro k10 x11 ct12 f13 wd14 hk15 hb16 hI17 hbrk18 hret19
      replace hI17 : f13 0 = v_a ∧ f13 3 = u4 ∧ f13 4 = Value.int .i64 (k10 : Int) ∧ InR .i64 (k10 : Int) ∧ St w wd14 [(Ty.sl (Ty.sl (Ty.i .i64))).at u4 x11] := hI17
      replace hb16 : p_laws_toInt64SS_L1 a k10 x11 = some ct12 := hb16
      unfold p_laws_toInt64SS_L1 at hb16
      obtain ⟨hf20, hf21, hf22, hr23, hS24⟩ := hI17
      refine W.seq ?_
      refine W.seq ?_
      refine W.region ?_
      refine WL.val (Value.int .i64 (k10 : Int)) _ (op_move hf22) rfl ?_
      refine WL.val v_a _ (op_move hf20) rfl ?_
      have hr25 := inR_len (Ty.lift _ hS24.ext r_a)
      refine WL.val (Value.int .i64 ((a).length : Int)) _ (op_lenL sl_65 (Ty.lift _ hS24.ext r_a) rfl) rfl ?_
      refine WL.val (Value.bool (decide ((k10 : Int) < ((a).length : Int)))) _ (op_lss rfl rfl) rfl ?_
      have hl26 : (k10 : Int) < ((a).length : Int) := by omega
      refine WL.nil ?_
      show W _ _ _ _ _ _
      refine W.condT (decide ((k10 : Int) < ((a).length : Int))) rfl (decide_eq_true hl26) ?_
      refine W.skip ?_
      show W _ _ _ _ _ _
      refine W.seq ?_
      refine W.block ?_
      refine W.region ?_
      refine WL.val u4 _ (op_move hf21) rfl ?_
      refine WL.val (Value.int .i64 (k10 : Int)) _ (op_move hf22) rfl ?_
      refine WL.val v_a _ (op_move hf20) rfl ?_
      refine WL.val (Value.int .i64 (k10 : Int)) _ (op_move hf22) rfl ?_
      obtain ⟨x28, hx31, hb16⟩ := bs hb16
      obtain ⟨ha29, hb30, hx31⟩ := idx_some hx31
      refine WL.val (Value.pointer (some (elA v_a ((k10 : Int)).toNat))) _ (op_idx sl_65 (Ty.lift _ hS24.ext r_a) rfl rfl ha29 hb30) rfl ?_
      obtain ⟨u32, hc33, hr34⟩ := repSl.el r_a hx31
      refine WL.val u32 _ (op_load one_25 rfl (Ext.cell hS24.ext hc33)) rfl ?_
      obtain ⟨x35, hx36, hb16⟩ := bs hb16
      refine WL.call _ (op_call fn_12 (args1 rfl)) (c_laws_toInt64S (Ty.lift _ hS24.ext hr34) hx36) rfl ?_
      rintro u37 wd38 ⟨_, rfl, he39, hs40⟩
      have hS41 := St.join hS24 he39 hs40
      replace hS41 : St w wd38 [(Ty.sl (Ty.sl (Ty.i .i64))).at u4 x11, (Ty.sl (Ty.i .i64)).at u37 x35] := hS41
      obtain ⟨x42, hx45, hb16⟩ := bs hb16
      obtain ⟨ha43, hb44, hx45⟩ := idx_some hx45
      refine WL.val (Value.pointer (some (elA u4 ((k10 : Int)).toNat))) _ (op_idx sl_65 (St.rep (t := (Ty.sl (Ty.sl (Ty.i .i64)))) hS41 0 rfl) rfl rfl ha43 hb44) rfl ?_
      refine WL.storeRow hS41 (k := 0) (k2 := 1) rfl rfl rfl sz_25 rfl rfl (by omega) ?_
      intro wd46 hS47
      replace hS47 : St w wd46 [(Ty.sl (Ty.sl (Ty.i .i64))).at u4 ((x11).set ((k10 : Int)).toNat x35), emp] := hS47
      refine WL.nil ?_
      show W _ _ _ _ _ _
      refine W.region ?_
      refine WL.val (Value.int .i64 (k10 : Int)) _ (op_move hf22) rfl ?_
      refine WL.val (Value.int .i64 (w64 ((k10 : Int) + (1 : Int)))) _ (op_add rfl rfl) rfl ?_
      refine WL.val (Value.int .i64 (w64 ((k10 : Int) + (1 : Int)))) _ (op_assign rfl) rfl ?_
      refine WL.nil ?_
      obtain rfl := Option.some.inj hb16
      show ∃ s, _ = Ctl.next s ∧ _
      exact ⟨_, rfl, hf20, hf21, (ctr_next hl26 hr25), (ctr_rng hl26 hr25), (St.pick hS47 [0] rfl)⟩
    · intro x54 f49 wd50 hs51 hI52
      replace hI52 : f49 0 = v_a ∧ f49 3 = u4 ∧ f49 4 = Value.int .i64 (((a).length : Nat) : Int) ∧ InR .i64 (((a).length : Nat) : Int) ∧ St w wd50 [(Ty.sl (Ty.sl (Ty.i .i64))).at u4 x54] := hI52
      obtain ⟨hf55, hf56, hf57, hr58, hS59⟩ := hI52
      refine W.seq ?_
      refine W.seq ?_
      refine W.region ?_
      refine WL.val (Value.int .i64 (((a).length : Nat) : Int)) _ (op_move hf57) rfl ?_
      refine WL.val v_a _ (op_move hf55) rfl ?_
      have hr60 := inR_len (Ty.lift _ hS59.ext r_a)
      refine WL.val (Value.int .i64 ((a).length : Int)) _ (op_lenL sl_65 (Ty.lift _ hS59.ext r_a) rfl) rfl ?_
      refine WL.val (Value.bool (decide ((((a).length : Nat) : Int) < ((a).length : Int)))) _ (op_lss rfl rfl) rfl ?_
      have hl61 : ¬ (((a).length : Nat) : Int) < ((a).length : Int) := by omega
      refine WL.nil ?_
      show W _ _ _ _ _ _
      refine W.condF (decide ((((a).length : Nat) : Int) < ((a).length : Int))) rfl (decide_eq_false hl61) ?_
      refine W.exit ?_
      show _ = _ ∧ _
      exact ⟨rfl, _, hs51, hf56, hS59⟩
  · rintro f62 wd63 ⟨x66, rfl, hq64⟩
    replace h := onRes_fin h
    replace hq64 : f62 3 = u4 ∧ St w wd63 [(Ty.sl (Ty.sl (Ty.i .i64))).at u4 x66] := hq64
    obtain ⟨hf67, hS68⟩ := hq64
    show W _ _ _ _ _ _
    refine W.seq ?_
    refine W.region ?_
    refine WL.val u4 _ (op_move hf67) rfl ?_
    refine WL.val u4 _ (op_assign rfl) rfl ?_
    refine WL.nil ?_
    show W _ _ _ _ _ _
    refine W.ret ?_
    obtain rfl := Option.some.inj h
    show FinP _ _ _ _ _ _ _
    exact FinP.ret _ (res1 rfl rfl) ⟨u4, rfl, hS68.ext, (St.out (St.pick hS68 [0] rfl) (Ext.refl _))⟩

theorem c_laws_toInt64SSS {w : World} {a : (List (List (List Int)))} {v_a : Value} (r_a : (Ty.sl (Ty.sl (Ty.sl (Ty.i .i64)))).rep w v_a a) {res : (List (List (List Int)))} (h : p_laws_toInt64SSS a  = some res) :
    Ret Try.prog 37 #[v_a] w (fun v w' => ∃ (u0 : Value), v = u0 ∧ Ext w w' ∧ Sep w.heap.size w' [(Ty.sl (Ty.sl (Ty.sl (Ty.i .i64)))).at u0 res]) := by
  unfold p_laws_toInt64SSS at h
  have hS0 : St w w [] := St.start w
  refine Ret.start (fn := Try.f37) Try.func37 rfl 23 rfl rfl ?_
  refine W.seq ?_
  refine W.region ?_
  refine WL.val (Value.slice none 0 0) _ (op_assign rfl) rfl ?_
  refine WL.nil ?_
  show W _ _ _ _ _ _
  refine W.seq ?_
  refine W.region ?_
  refine WL.val v_a _ (op_move rfl) rfl ?_
  have hr1 := inR_len (Ty.lift _ hS0.ext r_a)
  refine WL.val (Value.int .i64 ((a).length : Int)) _ (op_lenL sl_22 (Ty.lift _ hS0.ext r_a) rfl) rfl ?_
  obtain ⟨x2, hx3, h⟩ := bs h
  refine WL.make (t := (Ty.sl (Ty.sl (Ty.i .i64)))) hS0 sl_22 (fun S w => nilOwn _ S w) rfl rfl hx3 rfl rfl ?_
  intro u4 wd5 hS6 he7
  replace hS6 : St w wd5 [(Ty.sl (Ty.sl (Ty.sl (Ty.i .i64)))).at u4 x2] := hS6
  refine WL.val u4 _ (op_assign rfl) rfl ?_
  refine WL.nil ?_
  show W _ _ _ _ _ _
  refine W.seq ?_
  refine W.seq ?_
  refine W.region ?_
  refine WL.val (Value.int .i64 (0 : Int)) _ (op_assign rfl) rfl ?_
  refine WL.nil ?_
  show W _ _ _ _ _ _
  obtain ⟨res8, hres9, h⟩ := bs h
  refine W.blockLoop (fun fq wq => ∃ s, res8 = Res.fin s ∧ fq 3 = u4 ∧ St w wq [(Ty.sl (Ty.sl (Ty.sl (Ty.i .i64)))).at u4 s]) ?_ ?_
  · refine W.forN (fun k (s : (List (List (List Int)))) fq wq => fq 0 = v_a ∧ fq 3 = u4 ∧ fq 4 = Value.int .i64 (k : Int) ∧ InR .i64 (k : Int) ∧ St w wq [(Ty.sl (Ty.sl (Ty.sl (Ty.i .i64)))).at u4 s]) hres9 ⟨rfl, rfl, rfl, (inR_i64.2 (show (-9223372036854775808 : Int) ≤ 0 ∧ (0 : Int) ≤ 9223372036854775807 from by decide)), hS6⟩ ?_ ?_
    · intro k10 x11 ct12 f13 wd14 hk15 hb16 hI17 hbrk18 hret19
      replace hI17 : f13 0 = v_a ∧ f13 3 = u4 ∧ f13 4 = Value.int .i64 (k10 : Int) ∧ InR .i64 (k10 : Int) ∧ St w wd14 [(Ty.sl (Ty.sl (Ty.sl (Ty.i .i64)))).at u4 x11] := hI17
      replace hb16 : p_laws_toInt64SSS_L1 a k10 x11 = some ct12 := hb16
      unfold p_laws_toInt64SSS_L1 at hb16
      obtain ⟨hf20, hf21, hf22, hr23, hS24⟩ := hI17
      refine W.seq ?_
      refine W.seq ?_
      refine W.region ?_
      refine WL.val (Value.int .i64 (k10 : Int)) _ (op_move hf22) rfl ?_
      refine WL.val v_a _ (op_move hf20) rfl ?_
      have hr25 := inR_len (Ty.lift _ hS24.ext r_a)
      refine WL.val (Value.int .i64 ((a).length : Int)) _ (op_lenL sl_22 (Ty.lift _ hS24.ext r_a) rfl) rfl ?_
      refine WL.val (Value.bool (decide ((k10 : Int) < ((a).length : Int)))) _ (op_lss rfl rfl) rfl ?_
      have hl26 : (k10 : Int) < ((a).length : Int) := by omega
      refine WL.nil ?_
      show W _ _ _ _ _ _
      refine W.condT (decide ((k10 : Int) < ((a).length : Int))) rfl (decide_eq_true hl26) ?_
      refine W.skip ?_
      show W _ _ _ _ _ _
      refine W.seq ?_
      refine W.block ?_
      refine W.region ?_
      refine WL.val u4 _ (op_move hf21) rfl ?_
      refine WL.val (Value.int .i64 (k10 : Int)) _ (op_move hf22) rfl ?_
      refine WL.val v_a _ (op_move hf20) rfl ?_
      refine WL.val (Value.int .i64 (k10 : Int)) _ (op_move hf22) rfl ?_
      obtain ⟨x28, hx31, hb16⟩ := bs hb16
      obtain ⟨ha29, hb30, hx31⟩ := idx_some hx31
      refine WL.val (Value.pointer (some (elA v_a ((k10 : Int)).toNat))) _ (op_idx sl_22 (Ty.lift _ hS24.ext r_a) rfl rfl ha29 hb30) rfl ?_
      obtain ⟨u32, hc33, hr34⟩ := repSl.el r_a hx31
      refine WL.val u32 _ (op_load one_65 rfl (Ext.cell hS24.ext hc33)) rfl ?_
      obtain ⟨x35, hx36, hb16⟩ := bs hb16
      refine WL.call _ (op_call fn_70 (args1 rfl)) (c_laws_toInt64SS (Ty.lift _ hS24.ext hr34) hx36) rfl ?_
      rintro u37 wd38 ⟨_, rfl, he39, hs40⟩
      have hS41 := St.join hS24 he39 hs40
      replace hS41 : St w wd38 [(Ty.sl (Ty.sl (Ty.sl (Ty.i .i64)))).at u4 x11, (Ty.sl (Ty.sl (Ty.i .i64))).at u37 x35] := hS41
      obtain ⟨x42, hx45, hb16⟩ := bs hb16
      obtain ⟨ha43, hb44, hx45⟩ := idx_some hx45
      refine WL.val (Value.pointer (some (elA u4 ((k10 : Int)).toNat))) _ (op_idx sl_22 (St.rep (t := (Ty.sl (Ty.sl (Ty.sl (Ty.i .i64))))) hS41 0 rfl) rfl rfl ha43 hb44) rfl ?_
      refine WL.storeRow hS41 (k := 0) (k2 := 1) rfl rfl rfl sz_65 rfl rfl (by omega) ?_
      intro wd46 hS47
      replace hS47 : St w wd46 [(Ty.sl (Ty.sl (Ty.sl (Ty.i .i64)))).at u4 ((x11).set ((k10 : Int)).toNat x35), emp] := hS47
      refine WL.nil ?_
      show W _ _ _ _ _ _
      refine W.region ?_
      refine WL.val (Value.int .i64 (k10 : Int)) _ (op_move hf22) rfl ?_
      refine WL.val (Value.int .i64 (w64 ((k10 : Int) + (1 : Int)))) _ (op_add rfl rfl) rfl ?_
      refine WL.val (Value.int .i64 (w64 ((k10 : Int) + (1 : Int)))) _ (op_assign rfl) rfl ?_
      refine WL.nil ?_
      obtain rfl := Option.some.inj hb16
      show ∃ s, _ = Ctl.next s ∧ _
      exact ⟨_, rfl, hf20, hf21, (ctr_next hl26 hr25), (ctr_rng hl26 hr25), (St.pick hS47 [0] rfl)⟩
    · intro x54 f49 wd50 hs51 hI52
      replace hI52 : f49 0 = v_a ∧ f49 3 = u4 ∧ f49 4 = Value.int .i64 (((a).length : Nat) : Int) ∧ InR .i64 (((a).length : Nat) : Int) ∧ St w wd50 [(Ty.sl (Ty.sl (Ty.sl (Ty.i .i64)))).at u4 x54] := hI52
      obtain ⟨hf55, hf56, hf57, hr58, hS59⟩ := hI52
      refine W.seq ?_
      refine W.seq ?_
      refine W.region ?_
      refine WL.val (Value.int .i64 (((a).length : Nat) : Int)) _ (op_move hf57) rfl ?_
      refine WL.val v_a _ (op_move hf55) rfl ?_
      have hr60 := inR_len (Ty.lift _ hS59.ext r_a)
      refine WL.val (Value.int .i64 ((a).length : Int)) _ (op_lenL sl_22 (Ty.lift _ hS59.ext r_a) rfl) rfl ?_
      refine WL.val (Value.bool (decide ((((a).length : Nat) : Int) < ((a).length : Int)))) _ (op_lss rfl rfl) rfl ?_
      have hl61 : ¬ (((a).length : Nat) : Int) < ((a).length : Int) := by omega
      refine WL.nil ?_
      show W _ _ _ _ _ _
      refine W.condF (decide ((((a).length : Nat) : Int) < ((a).length : Int))) rfl (decide_eq_false hl61) ?_
      refine W.exit ?_
      show _ = _ ∧ _
      exact ⟨rfl, _, hs51, hf56, hS59⟩
  · rintro f62 wd63 ⟨x66, rfl, hq64⟩
    replace h := onRes_fin h
    replace hq64 : f62 3 = u4 ∧ St w wd63 [(Ty.sl (Ty.sl (Ty.sl (Ty.i .i64)))).at u4 x66] := hq64
    obtain ⟨hf67, hS68⟩ := hq64
    show W _ _ _ _ _ _
    refine W.seq ?_
    refine W.region ?_
    refine WL.val u4 _ (op_move hf67) rfl ?_
    refine WL.val u4 _ (op_assign rfl) rfl ?_
    refine WL.nil ?_
    show W _ _ _ _ _ _
    refine W.ret ?_
    obtain rfl := Option.some.inj h
    show FinP _ _ _ _ _ _ _
    exact FinP.ret _ (res1 rfl rfl) ⟨u4, rfl, hS68.ext, (St.out (St.pick hS68 [0] rfl) (Ext.refl _))⟩

theorem c_laws_toRing {w : World} {a_Table : (List (List (List Int)))} {v_a_Table : Value} (r_a_Table : (Ty.sl (Ty.sl (Ty.sl (Ty.i .i64)))).rep w v_a_Table a_Table) {res : (List (List (List Int)))} (h : p_laws_toRing a_Table  = some res) :
    Ret Try.prog 11 #[(Value.agg #[v_a_Table])] w (fun v w' => ∃ (u0 : Value), v = (Value.agg #[u0]) ∧ Ext w w' ∧ Sep w.heap.size w' [(Ty.sl (Ty.sl (Ty.sl (Ty.i .i64)))).at u0 res]) := by
  unfold p_laws_toRing at h
  have hS0 : St w w [] := St.start w
  refine Ret.start (fn := Try.f11) Try.func11 rfl 9 rfl rfl ?_
  refine W.seq ?_
  refine W.region ?_
  refine WL.box hS0 rfl (cs := [v_a_Table]) rfl rfl ?_
  intro b1 wd2 hS3 he4 hx5
  replace hS3 : St w wd2 [bx b1 [v_a_Table]] := hS3
  have hx6 := St.boxAt hS3 0 rfl
  have hE7 : Ext w wd2 := hS3.ext
  have hS8 : St wd2 wd2 [] := St.start wd2
  refine WL.alloc hS8 ze_29 (cs := [(Value.slice none 0 0)]) rfl rfl ?_
  intro b9 wd10 hS11 he12
  replace hS11 : St wd2 wd10 [bx b9 [(Value.slice none 0 0)]] := hS11
  refine WL.nil ?_
  show W _ _ _ _ _ _
  refine W.seq ?_
  refine W.region ?_
  refine WL.alloc hS11 ze_29 (cs := [(Value.slice none 0 0)]) rfl rfl ?_
  intro b13 wd14 hS15 he16
  replace hS15 : St wd2 wd14 [bx b9 [(Value.slice none 0 0)], bx b13 [(Value.slice none 0 0)]] := hS15
  refine WL.nil ?_
  show W _ _ _ _ _ _
  refine W.seq ?_
  refine W.region ?_
  refine WL.val (Value.pointer (some ⟨b1, 0, none⟩)) _ (op_fieldAddr fd_24_0 rfl) rfl ?_
  refine WL.val v_a_Table _ (op_load one_22 rfl (BoxAt.cell (BoxAt.lift hS15.ext hx6) rfl)) rfl ?_
  obtain ⟨x17, hx18, h⟩ := bs h
  refine WL.call _ (op_call fn_37 (args1 rfl)) (c_laws_toInt64SSS (Ty.lift _ (Ext.trans hE7 hS15.ext) r_a_Table) hx18) rfl ?_
  rintro u19 wd20 ⟨_, rfl, he21, hs22⟩
  have hS23 := St.join hS15 he21 hs22
  replace hS23 : St wd2 wd20 [bx b9 [(Value.slice none 0 0)], bx b13 [(Value.slice none 0 0)], (Ty.sl (Ty.sl (Ty.sl (Ty.i .i64)))).at u19 x17] := hS23
  refine WL.val (Value.pointer (some ⟨b13, 0, none⟩)) _ (op_fieldAddr fd_29_0 rfl) rfl ?_
  refine WL.storeBox [u19] hS23 (k := 1) rfl rfl rfl (us := [u19]) (cells_rep (St.rep (t := (Ty.sl (Ty.sl (Ty.sl (Ty.i .i64))))) hS23 2 rfl)) sz_22 rfl rfl (all_rep (St.rep (t := (Ty.sl (Ty.sl (Ty.sl (Ty.i .i64))))) hS23 2 rfl) all_nil) rfl ?_
  intro wd24 hS25
  replace hS25 : St wd2 wd24 [bx b9 [(Value.slice none 0 0)], bx b13 [u19], (Ty.sl (Ty.sl (Ty.sl (Ty.i .i64)))).at u19 x17] := hS25
  refine WL.nil ?_
  show W _ _ _ _ _ _
  refine W.seq ?_
  refine W.region ?_
  refine WL.val (Value.agg #[u19]) _ (op_loadBox st_29 rfl (St.boxAt hS25 1 rfl) rfl rfl) rfl ?_
  refine WL.storeBox [u19] hS25 (k := 0) rfl rfl rfl (us := [u19]) rfl sz_29 rfl rfl (all_rep (St.rep (t := (Ty.sl (Ty.sl (Ty.sl (Ty.i .i64))))) hS25 2 rfl) all_nil) rfl ?_
  intro wd26 hS27
  replace hS27 : St wd2 wd26 [bx b9 [u19], bx b13 [u19], (Ty.sl (Ty.sl (Ty.sl (Ty.i .i64)))).at u19 x17] := hS27
  refine WL.nil ?_
  show W _ _ _ _ _ _
  refine W.ret ?_
  obtain rfl := Option.some.inj h
  show FinP _ _ _ _ _ _ _
  exact FinP.ret _ (resC rfl rfl st_29 (St.boxAt hS27 0 rfl) rfl) ⟨u19, rfl, (Ext.trans hE7 hS27.ext), (St.out (St.pick hS27 [2] rfl) (hE7))⟩

theorem c_spec_l01In {w : World} {n : Int} {low : Int} {high : Int} (r_n : InR .i64 n) (r_low : InR .i64 low) (r_high : InR .i64 high) {res : Bool} (h : p_spec_l01In n low high  = some res) :
    Ret Try.prog 75 #[(Value.int .i64 n), (Value.int .i64 low), (Value.int .i64 high)] w (fun v w' => v = Value.bool res ∧ Ext w w') := by
  unfold p_spec_l01In at h
  have hS0 : St w w [] := St.start w
  refine Ret.start (fn := Try.f75) Try.func75 rfl 15 rfl rfl ?_
  refine W.seq ?_
  refine W.region ?_
  refine WL.val (Value.bool false) _ (op_assign rfl) rfl ?_
  refine WL.nil ?_
  show W _ _ _ _ _ _
  refine W.seq ?_
  refine W.region ?_
  refine WL.val (Value.int .i64 n) _ (op_move rfl) rfl ?_
  refine WL.val (Value.int .i64 low) _ (op_move rfl) rfl ?_
  refine WL.val (Value.bool (decide (n ≥ low))) _ (op_geq rfl rfl) rfl ?_
  refine WL.val (Value.bool (decide (n ≥ low))) _ (op_move rfl) rfl ?_
  refine WL.cut 4 (fun fq wq => fq 14 = (Value.bool ((decide (n ≥ low)) && (decide (n ≤ high)))) ∧ St w wq []) ?_ ?_
  · rcases Bool.eq_false_or_eq_true (decide (n ≥ low)) with hc1 | hc1
    · refine WL.grun rfl (bool_of rfl hc1) ?_
      refine WL.val (Value.int .i64 n) _ (op_move rfl) rfl ?_
      refine WL.grun rfl (bool_of rfl hc1) ?_
      refine WL.val (Value.int .i64 high) _ (op_move rfl) rfl ?_
      refine WL.grun rfl (bool_of rfl hc1) ?_
      refine WL.val (Value.bool (decide (n ≤ high))) _ (op_leq rfl rfl) rfl ?_
      refine WL.val (Value.bool (decide (n ≤ high))) _ (op_pick_t (evb_of rfl hc1) rfl) rfl ?_
      refine WL.nil ?_
      exact ⟨rfl, (andT hc1), hS0⟩
    · refine WL.gskip rfl (bool_of rfl hc1) rfl ?_
      refine WL.gskip rfl (bool_of rfl hc1) rfl ?_
      refine WL.gskip rfl (bool_of rfl hc1) rfl ?_
      refine WL.val (Value.bool false) _ (op_pick_f (evb_of rfl hc1) rfl) rfl ?_
      refine WL.nil ?_
      exact ⟨rfl, (andF hc1), hS0⟩
  · intro f2 wd3 hq4
    obtain ⟨hf5, hS6⟩ := hq4
    refine WL.val (Value.bool ((decide (n ≥ low)) && (decide (n ≤ high)))) _ (op_assign hf5) rfl ?_
    refine WL.nil ?_
    show W _ _ _ _ _ _
    refine W.ret ?_
    obtain rfl := Option.some.inj h
    show FinP _ _ _ _ _ _ _
    exact FinP.ret _ (res1 rfl rfl) ⟨rfl, hS6.ext⟩

theorem c_spec_l03Cube {w : World} {t : (List (List (List Int)))} {v_t : Value} (r_t : (Ty.sl (Ty.sl (Ty.sl (Ty.i .i64)))).rep w v_t t) {res : Bool} (h : p_spec_l03Cube t  = some res) :
    Ret Try.prog 88 #[v_t] w (fun v w' => v = Value.bool res ∧ Ext w w') := by
  unfold p_spec_l03Cube at h
  have hS0 : St w w [] := St.start w
  refine Ret.start (fn := Try.f88) Try.func88 rfl 59 rfl rfl ?_
  refine W.seq ?_
  refine W.region ?_
  refine WL.val (Value.bool false) _ (op_assign rfl) rfl ?_
  refine WL.nil ?_
  show W _ _ _ _ _ _
  refine W.seq ?_
  refine W.region ?_
  refine WL.val v_t _ (op_move rfl) rfl ?_
  have hr1 := inR_len (Ty.lift _ hS0.ext r_t)
  refine WL.val (Value.int .i64 ((t).length : Int)) _ (op_lenL sl_22 (Ty.lift _ hS0.ext r_t) rfl) rfl ?_
  refine WL.val (Value.int .i64 ((t).length : Int)) _ (op_assign rfl) rfl ?_
  refine WL.nil ?_
  show W _ _ _ _ _ _
  refine W.seq ?_
  refine W.seq ?_
  refine W.region ?_
  refine WL.val (Value.int .i64 ((t).length : Int)) _ (op_move rfl) rfl ?_
  refine WL.val (Value.bool (decide (((t).length : Int) < (1 : Int)))) _ (op_lss rfl rfl) rfl ?_
  refine WL.val (Value.bool (decide (((t).length : Int) < (1 : Int)))) _ (op_move rfl) rfl ?_
  refine WL.cut 3 (fun fq wq => fq 0 = v_t ∧ fq 3 = (Value.int .i64 ((t).length : Int)) ∧ fq 14 = (Value.bool ((decide (((t).length : Int) < (1 : Int))) || (decide (((t).length : Int) > (16 : Int))))) ∧ St w wq []) ?_ ?_
  · rcases Bool.eq_false_or_eq_true (decide (((t).length : Int) < (1 : Int))) with hc2 | hc2
    · refine WL.gskip rfl (bool_of rfl hc2) rfl ?_
      refine WL.gskip rfl (bool_of rfl hc2) rfl ?_
      refine WL.val (Value.bool true) _ (op_pick_t (evb_of rfl hc2) rfl) rfl ?_
      refine WL.nil ?_
      exact ⟨rfl, rfl, rfl, (orT hc2), hS0⟩
    · refine WL.grun rfl (bool_of rfl hc2) ?_
      refine WL.val (Value.int .i64 ((t).length : Int)) _ (op_move rfl) rfl ?_
      refine WL.grun rfl (bool_of rfl hc2) ?_
      refine WL.val (Value.bool (decide (((t).length : Int) > (16 : Int)))) _ (op_gtr rfl rfl) rfl ?_
      refine WL.val (Value.bool (decide (((t).length : Int) > (16 : Int)))) _ (op_pick_f (evb_of rfl hc2) rfl) rfl ?_
      refine WL.nil ?_
      exact ⟨rfl, rfl, rfl, (orF hc2), hS0⟩
  · intro f3 wd4 hq5
    obtain ⟨hf6, hf7, hf8, hS9⟩ := hq5
    refine WL.nil ?_
    show W _ _ _ _ _ _
    refine W.cond ((decide (((t).length : Int) < (1 : Int))) || (decide (((t).length : Int) > (16 : Int)))) hf8 (fun hc10 => ?_) (fun hc10 => ?_)
    · replace h := ip h hc10
      refine W.seq ?_
      refine W.region ?_
      refine WL.val (Value.bool false) _ (op_assign rfl) rfl ?_
      refine WL.nil ?_
      show W _ _ _ _ _ _
      refine W.ret ?_
      obtain rfl := Option.some.inj h
      show FinP _ _ _ _ _ _ _
      exact FinP.ret _ (res1 rfl rfl) ⟨rfl, hS9.ext⟩
    · replace h := inegb h hc10
      refine W.skip ?_
      show W _ _ _ _ _ _
      refine W.seq ?_
      refine W.seq ?_
      refine W.region ?_
      refine WL.val (Value.int .i64 (0 : Int)) _ (op_assign rfl) rfl ?_
      refine WL.nil ?_
      show W _ _ _ _ _ _
      obtain ⟨res12, hres13, h⟩ := bs h
      refine W.blockLoop (fun fq wq => ∃ s, res12 = Res.fin s ∧ St w wq []) ?_ ?_
      · refine W.forN (fun k (s : Unit) fq wq => fq 0 = v_t ∧ fq 3 = (Value.int .i64 ((t).length : Int)) ∧ fq 4 = Value.int .i64 (k : Int) ∧ InR .i64 (k : Int) ∧ St w wq []) hres13 ⟨hf6, hf7, rfl, (inR_i64.2 (show (-9223372036854775808 : Int) ≤ 0 ∧ (0 : Int) ≤ 9223372036854775807 from by decide)), hS9⟩ ?_ ?_
        · intro k14 s159 ct15 f16 wd17 hk18 hb19 hI20 hbrk21 hret22
          obtain ⟨⟩ := s159
          replace hI20 : f16 0 = v_t ∧ f16 3 = (Value.int .i64 ((t).length : Int)) ∧ f16 4 = Value.int .i64 (k14 : Int) ∧ InR .i64 (k14 : Int) ∧ St w wd17 [] := hI20
          replace hb19 : p_spec_l03Cube_L1 t k14  = some ct15 := hb19
          unfold p_spec_l03Cube_L1 at hb19
          obtain ⟨hf23, hf24, hf25, hr26, hS27⟩ := hI20
          refine W.seq ?_
          refine W.seq ?_
          refine W.region ?_
          refine WL.val (Value.int .i64 (k14 : Int)) _ (op_move hf25) rfl ?_
          refine WL.val (Value.int .i64 ((t).length : Int)) _ (op_move hf24) rfl ?_
          refine WL.val (Value.bool (decide ((k14 : Int) < ((t).length : Int)))) _ (op_lss rfl rfl) rfl ?_
          have hl28 : (k14 : Int) < ((t).length : Int) := by omega
          refine WL.nil ?_
          show W _ _ _ _ _ _
          refine W.condT (decide ((k14 : Int) < ((t).length : Int))) rfl (decide_eq_true hl28) ?_
          refine W.skip ?_
          show W _ _ _ _ _ _
          refine W.seq ?_
          refine W.block ?_
          refine W.seq ?_
          refine W.seq ?_
          refine W.region ?_
          refine WL.val v_t _ (op_move hf23) rfl ?_
          refine WL.val (Value.int .i64 (k14 : Int)) _ (op_move hf25) rfl ?_
          obtain ⟨x30, hx33, hb19⟩ := bs hb19
          obtain ⟨ha31, hb32, hx33⟩ := idx_some hx33
          refine WL.val (Value.pointer (some (elA v_t ((k14 : Int)).toNat))) _ (op_idx sl_22 (Ty.lift _ hS27.ext r_t) rfl rfl ha31 hb32) rfl ?_
          obtain ⟨u34, hc35, hr36⟩ := repSl.el r_t hx33
          refine WL.val u34 _ (op_load one_65 rfl (Ext.cell hS27.ext hc35)) rfl ?_
          have hr37 := inR_len (Ty.lift _ hS27.ext hr36)
          refine WL.val (Value.int .i64 ((x30).length : Int)) _ (op_lenL sl_65 (Ty.lift _ hS27.ext hr36) rfl) rfl ?_
          refine WL.val (Value.int .i64 ((t).length : Int)) _ (op_move hf24) rfl ?_
          refine WL.val (Value.bool (((x30).length : Int) != ((t).length : Int))) _ (op_neq rfl rfl) rfl ?_
          refine WL.nil ?_
          show W _ _ _ _ _ _
          refine W.cond (((x30).length : Int) != ((t).length : Int)) rfl (fun hc38 => ?_) (fun hc38 => ?_)
          · replace hb19 := ip hb19 hc38
            refine W.seq ?_
            refine W.region ?_
            refine WL.val (Value.bool false) _ (op_assign rfl) rfl ?_
            refine WL.nil ?_
            show W _ _ _ _ _ _
            refine W.ret ?_
            obtain rfl := Option.some.inj hb19
            obtain rfl := hret22 _ rfl
            replace h := onRes_ret h
            obtain rfl := Option.some.inj h
            show FinP _ _ _ _ _ _ _
            exact FinP.ret _ (res1 rfl rfl) ⟨rfl, hS27.ext⟩
          · replace hb19 := inegb hb19 hc38
            refine W.skip ?_
            show W _ _ _ _ _ _
            refine W.seq ?_
            refine W.region ?_
            refine WL.val (Value.int .i64 (0 : Int)) _ (op_assign rfl) rfl ?_
            refine WL.nil ?_
            show W _ _ _ _ _ _
            obtain ⟨res40, hres41, hb19⟩ := bs hb19
            refine W.blockLoop (fun fq wq => ∃ s, res40 = Res.fin s ∧ fq 0 = v_t ∧ fq 3 = (Value.int .i64 ((t).length : Int)) ∧ fq 4 = (Value.int .i64 (k14 : Int)) ∧ St w wq []) ?_ ?_
            · refine W.forN (fun k (s : Unit) fq wq => fq 0 = v_t ∧ fq 3 = (Value.int .i64 ((t).length : Int)) ∧ fq 4 = (Value.int .i64 (k14 : Int)) ∧ fq 5 = Value.int .i64 (k : Int) ∧ InR .i64 (k : Int) ∧ St w wq []) hres41 ⟨hf23, hf24, hf25, rfl, (inR_i64.2 (show (-9223372036854775808 : Int) ≤ 0 ∧ (0 : Int) ≤ 9223372036854775807 from by decide)), hS27⟩ ?_ ?_
              · intro k42 s137 ct43 f44 wd45 hk46 hb47 hI48 hbrk49 hret50
                obtain ⟨⟩ := s137
                replace hI48 : f44 0 = v_t ∧ f44 3 = (Value.int .i64 ((t).length : Int)) ∧ f44 4 = (Value.int .i64 (k14 : Int)) ∧ f44 5 = Value.int .i64 (k42 : Int) ∧ InR .i64 (k42 : Int) ∧ St w wd45 [] := hI48
                replace hb47 : p_spec_l03Cube_L2 x30 t k42  = some ct43 := hb47
                unfold p_spec_l03Cube_L2 at hb47
                obtain ⟨hf51, hf52, hf53, hf54, hr55, hS56⟩ := hI48
                refine W.seq ?_
                refine W.seq ?_
                refine W.region ?_
                refine WL.val (Value.int .i64 (k42 : Int)) _ (op_move hf54) rfl ?_
                refine WL.val (Value.int .i64 ((t).length : Int)) _ (op_move hf52) rfl ?_
                refine WL.val (Value.bool (decide ((k42 : Int) < ((t).length : Int)))) _ (op_lss rfl rfl) rfl ?_
                have hl57 : (k42 : Int) < ((t).length : Int) := by omega
                refine WL.nil ?_
                show W _ _ _ _ _ _
                refine W.condT (decide ((k42 : Int) < ((t).length : Int))) rfl (decide_eq_true hl57) ?_
                refine W.skip ?_
                show W _ _ _ _ _ _
                refine W.seq ?_
                refine W.block ?_
                refine W.seq ?_
                refine W.seq ?_
                refine W.region ?_
                refine WL.val v_t _ (op_move hf51) rfl ?_
                refine WL.val (Value.int .i64 (k14 : Int)) _ (op_move hf53) rfl ?_
                refine WL.val (Value.pointer (some (elA v_t ((k14 : Int)).toNat))) _ (op_idx sl_22 (Ty.lift _ hS56.ext r_t) rfl rfl ha31 hb32) rfl ?_
                obtain ⟨u59, hc60, hr61⟩ := repSl.el r_t hx33
                refine WL.val u59 _ (op_load one_65 rfl (Ext.cell hS56.ext hc60)) rfl ?_
                refine WL.val (Value.int .i64 (k42 : Int)) _ (op_move hf54) rfl ?_
                obtain ⟨x62, hx65, hb47⟩ := bs hb47
                obtain ⟨ha63, hb64, hx65⟩ := idx_some hx65
                refine WL.val (Value.pointer (some (elA u59 ((k42 : Int)).toNat))) _ (op_idx sl_65 (Ty.lift _ hS56.ext hr61) rfl rfl ha63 hb64) rfl ?_
                obtain ⟨u66, hc67, hr68⟩ := repSl.el hr61 hx65
                refine WL.val u66 _ (op_load one_25 rfl (Ext.cell hS56.ext hc67)) rfl ?_
                have hr69 := inR_len (Ty.lift _ hS56.ext hr68)
                refine WL.val (Value.int .i64 ((x62).length : Int)) _ (op_lenL sl_25 (Ty.lift _ hS56.ext hr68) rfl) rfl ?_
                refine WL.val (Value.int .i64 ((t).length : Int)) _ (op_move hf52) rfl ?_
                refine WL.val (Value.bool (((x62).length : Int) != ((t).length : Int))) _ (op_neq rfl rfl) rfl ?_
                refine WL.nil ?_
                show W _ _ _ _ _ _
                refine W.cond (((x62).length : Int) != ((t).length : Int)) rfl (fun hc70 => ?_) (fun hc70 => ?_)
                · replace hb47 := ip hb47 hc70
                  refine W.seq ?_
                  refine W.region ?_
                  refine WL.val (Value.bool false) _ (op_assign rfl) rfl ?_
                  refine WL.nil ?_
                  show W _ _ _ _ _ _
                  refine W.ret ?_
                  obtain rfl := Option.some.inj hb47
                  obtain rfl := hret50 _ rfl
                  replace hb19 := onRes_ret hb19
                  obtain rfl := Option.some.inj hb19
                  obtain rfl := hret22 _ rfl
                  replace h := onRes_ret h
                  obtain rfl := Option.some.inj h
                  show FinP _ _ _ _ _ _ _
                  exact FinP.ret _ (res1 rfl rfl) ⟨rfl, hS56.ext⟩
                · replace hb47 := inegb hb47 hc70
                  refine W.skip ?_
                  show W _ _ _ _ _ _
                  refine W.seq ?_
                  refine W.region ?_
                  refine WL.val (Value.int .i64 (0 : Int)) _ (op_assign rfl) rfl ?_
                  refine WL.nil ?_
                  show W _ _ _ _ _ _
                  obtain ⟨res72, hres73, hb47⟩ := bs hb47
                  refine W.blockLoop (fun fq wq => ∃ s, res72 = Res.fin s ∧ fq 0 = v_t ∧ fq 3 = (Value.int .i64 ((t).length : Int)) ∧ fq 4 = (Value.int .i64 (k14 : Int)) ∧ fq 5 = (Value.int .i64 (k42 : Int)) ∧ St w wq []) ?_ ?_
                  · refine W.forN (fun k (s : Unit) fq wq => fq 0 = v_t ∧ fq 3 = (Value.int .i64 ((t).length : Int)) ∧ fq 4 = (Value.int .i64 (k14 : Int)) ∧ fq 5 = (Value.int .i64 (k42 : Int)) ∧ fq 6 = Value.int .i64 (k : Int) ∧ InR .i64 (k : Int) ∧ St w wq []) hres73 ⟨hf51, hf52, hf53, hf54, rfl, (inR_i64.2 (show (-9223372036854775808 : Int) ≤ 0 ∧ (0 : Int) ≤ 9223372036854775807 from by decide)), hS56⟩ ?_ ?_
                    · intro k74 s113 ct75 f76 wd77 hk78 hb79 hI80 hbrk81 hret82
                      obtain ⟨⟩ := s113
                      replace hI80 : f76 0 = v_t ∧ f76 3 = (Value.int .i64 ((t).length : Int)) ∧ f76 4 = (Value.int .i64 (k14 : Int)) ∧ f76 5 = (Value.int .i64 (k42 : Int)) ∧ f76 6 = Value.int .i64 (k74 : Int) ∧ InR .i64 (k74 : Int) ∧ St w wd77 [] := hI80
                      replace hb79 : p_spec_l03Cube_L3 x62 k74  = some ct75 := hb79
                      unfold p_spec_l03Cube_L3 at hb79
                      obtain ⟨hf83, hf84, hf85, hf86, hf87, hr88, hS89⟩ := hI80
                      refine W.seq ?_
                      refine W.seq ?_
                      refine W.region ?_
                      refine WL.val (Value.int .i64 (k74 : Int)) _ (op_move hf87) rfl ?_
                      refine WL.val (Value.int .i64 ((t).length : Int)) _ (op_move hf84) rfl ?_
                      refine WL.val (Value.bool (decide ((k74 : Int) < ((t).length : Int)))) _ (op_lss rfl rfl) rfl ?_
                      have hl90 : (k74 : Int) < ((t).length : Int) := by omega
                      refine WL.nil ?_
                      show W _ _ _ _ _ _
                      refine W.condT (decide ((k74 : Int) < ((t).length : Int))) rfl (decide_eq_true hl90) ?_
                      refine W.skip ?_
                      show W _ _ _ _ _ _
                      refine W.seq ?_
                      refine W.block ?_
                      refine W.seq ?_
                      refine W.region ?_
                      refine WL.val v_t _ (op_move hf83) rfl ?_
                      refine WL.val (Value.int .i64 (k14 : Int)) _ (op_move hf85) rfl ?_
                      refine WL.val (Value.pointer (some (elA v_t ((k14 : Int)).toNat))) _ (op_idx sl_22 (Ty.lift _ hS89.ext r_t) rfl rfl ha31 hb32) rfl ?_
                      obtain ⟨u92, hc93, hr94⟩ := repSl.el r_t hx33
                      refine WL.val u92 _ (op_load one_65 rfl (Ext.cell hS89.ext hc93)) rfl ?_
                      refine WL.val (Value.int .i64 (k42 : Int)) _ (op_move hf86) rfl ?_
                      refine WL.val (Value.pointer (some (elA u92 ((k42 : Int)).toNat))) _ (op_idx sl_65 (Ty.lift _ hS89.ext hr94) rfl rfl ha63 hb64) rfl ?_
                      obtain ⟨u95, hc96, hr97⟩ := repSl.el hr94 hx65
                      refine WL.val u95 _ (op_load one_25 rfl (Ext.cell hS89.ext hc96)) rfl ?_
                      refine WL.val (Value.int .i64 (k74 : Int)) _ (op_move hf87) rfl ?_
                      obtain ⟨x98, hx101, hb79⟩ := bs hb79
                      obtain ⟨ha99, hb100, hx101⟩ := idx_some hx101
                      refine WL.val (Value.pointer (some (elA u95 ((k74 : Int)).toNat))) _ (op_idx sl_25 (Ty.lift _ hS89.ext hr97) rfl rfl ha99 hb100) rfl ?_
                      obtain ⟨u102, hc103, hr104⟩ := repSl.el hr97 hx101
                      obtain ⟨rfl, hr104⟩ := hr104
                      refine WL.val (Value.int .i64 x98) _ (op_load one_2 rfl (Ext.cell hS89.ext hc103)) rfl ?_
                      obtain ⟨x105, hx106, hb79⟩ := bs hb79
                      refine WL.call _ (op_call fn_75 (args3 rfl rfl rfl)) (c_spec_l01In hr104 (inR_i64.2 (show (-9223372036854775808 : Int) ≤ 0 ∧ (0 : Int) ≤ 9223372036854775807 from by decide)) (inR_i64.2 (show (-9223372036854775808 : Int) ≤ 1000 ∧ (1000 : Int) ≤ 9223372036854775807 from by decide)) hx106) rfl ?_
                      rintro _ wd107 ⟨rfl, he108⟩
                      have hS110 := St.extend hS89 he108
                      replace hS110 : St w wd107 [] := hS110
                      refine WL.val (Value.bool (!x105)) _ (op_not rfl) rfl ?_
                      refine WL.nil ?_
                      show W _ _ _ _ _ _
                      refine W.cond (!x105) rfl (fun hc111 => ?_) (fun hc111 => ?_)
                      · replace hb79 := ip hb79 hc111
                        refine W.seq ?_
                        refine W.region ?_
                        refine WL.val (Value.bool false) _ (op_assign rfl) rfl ?_
                        refine WL.nil ?_
                        show W _ _ _ _ _ _
                        refine W.ret ?_
                        obtain rfl := Option.some.inj hb79
                        obtain rfl := hret82 _ rfl
                        replace hb47 := onRes_ret hb47
                        obtain rfl := Option.some.inj hb47
                        obtain rfl := hret50 _ rfl
                        replace hb19 := onRes_ret hb19
                        obtain rfl := Option.some.inj hb19
                        obtain rfl := hret22 _ rfl
                        replace h := onRes_ret h
                        obtain rfl := Option.some.inj h
                        show FinP _ _ _ _ _ _ _
                        exact FinP.ret _ (res1 rfl rfl) ⟨rfl, hS110.ext⟩
                      · replace hb79 := inegb hb79 hc111
                        refine W.skip ?_
                        show W _ _ _ _ _ _
                        refine W.region ?_
                        refine WL.val (Value.int .i64 (k74 : Int)) _ (op_move hf87) rfl ?_
                        refine WL.val (Value.int .i64 (w64 ((k74 : Int) + (1 : Int)))) _ (op_add rfl rfl) rfl ?_
                        refine WL.val (Value.int .i64 (w64 ((k74 : Int) + (1 : Int)))) _ (op_assign rfl) rfl ?_
                        refine WL.nil ?_
                        obtain rfl := Option.some.inj hb79
                        show ∃ s, _ = Ctl.next s ∧ _
                        exact ⟨_, rfl, hf83, hf84, hf85, hf86, (ctr_next hl90 hr1), (ctr_rng hl90 hr1), hS110⟩
                    · intro s118 f114 wd115 hs116 hI117
                      obtain ⟨⟩ := s118
                      replace hI117 : f114 0 = v_t ∧ f114 3 = (Value.int .i64 ((t).length : Int)) ∧ f114 4 = (Value.int .i64 (k14 : Int)) ∧ f114 5 = (Value.int .i64 (k42 : Int)) ∧ f114 6 = Value.int .i64 (((t).length : Nat) : Int) ∧ InR .i64 (((t).length : Nat) : Int) ∧ St w wd115 [] := hI117
                      obtain ⟨hf119, hf120, hf121, hf122, hf123, hr124, hS125⟩ := hI117
                      refine W.seq ?_
                      refine W.seq ?_
                      refine W.region ?_
                      refine WL.val (Value.int .i64 (((t).length : Nat) : Int)) _ (op_move hf123) rfl ?_
                      refine WL.val (Value.int .i64 ((t).length : Int)) _ (op_move hf120) rfl ?_
                      refine WL.val (Value.bool (decide ((((t).length : Nat) : Int) < ((t).length : Int)))) _ (op_lss rfl rfl) rfl ?_
                      have hl126 : ¬ (((t).length : Nat) : Int) < ((t).length : Int) := by omega
                      refine WL.nil ?_
                      show W _ _ _ _ _ _
                      refine W.condF (decide ((((t).length : Nat) : Int) < ((t).length : Int))) rfl (decide_eq_false hl126) ?_
                      refine W.exit ?_
                      show _ = _ ∧ _
                      exact ⟨rfl, _, hs116, hf119, hf120, hf121, hf122, hS125⟩
                  · rintro f127 wd128 ⟨s130, rfl, hq129⟩
                    replace hb47 := onRes_fin hb47
                    obtain ⟨⟩ := s130
                    replace hq129 : f127 0 = v_t ∧ f127 3 = (Value.int .i64 ((t).length : Int)) ∧ f127 4 = (Value.int .i64 (k14 : Int)) ∧ f127 5 = (Value.int .i64 (k42 : Int)) ∧ St w wd128 [] := hq129
                    obtain ⟨hf131, hf132, hf133, hf134, hS135⟩ := hq129
                    show W _ _ _ _ _ _
                    refine W.region ?_
                    refine WL.val (Value.int .i64 (k42 : Int)) _ (op_move hf134) rfl ?_
                    refine WL.val (Value.int .i64 (w64 ((k42 : Int) + (1 : Int)))) _ (op_add rfl rfl) rfl ?_
                    refine WL.val (Value.int .i64 (w64 ((k42 : Int) + (1 : Int)))) _ (op_assign rfl) rfl ?_
                    refine WL.nil ?_
                    obtain rfl := Option.some.inj hb47
                    show ∃ s, _ = Ctl.next s ∧ _
                    exact ⟨_, rfl, hf131, hf132, hf133, (ctr_next hl57 hr1), (ctr_rng hl57 hr1), hS135⟩
              · intro s142 f138 wd139 hs140 hI141
                obtain ⟨⟩ := s142
                replace hI141 : f138 0 = v_t ∧ f138 3 = (Value.int .i64 ((t).length : Int)) ∧ f138 4 = (Value.int .i64 (k14 : Int)) ∧ f138 5 = Value.int .i64 (((t).length : Nat) : Int) ∧ InR .i64 (((t).length : Nat) : Int) ∧ St w wd139 [] := hI141
                obtain ⟨hf143, hf144, hf145, hf146, hr147, hS148⟩ := hI141
                refine W.seq ?_
                refine W.seq ?_
                refine W.region ?_
                refine WL.val (Value.int .i64 (((t).length : Nat) : Int)) _ (op_move hf146) rfl ?_
                refine WL.val (Value.int .i64 ((t).length : Int)) _ (op_move hf144) rfl ?_
                refine WL.val (Value.bool (decide ((((t).length : Nat) : Int) < ((t).length : Int)))) _ (op_lss rfl rfl) rfl ?_
                have hl149 : ¬ (((t).length : Nat) : Int) < ((t).length : Int) := by omega
                refine WL.nil ?_
                show W _ _ _ _ _ _
                refine W.condF (decide ((((t).length : Nat) : Int) < ((t).length : Int))) rfl (decide_eq_false hl149) ?_
                refine W.exit ?_
                show _ = _ ∧ _
                exact ⟨rfl, _, hs140, hf143, hf144, hf145, hS148⟩
            · rintro f150 wd151 ⟨s153, rfl, hq152⟩
              replace hb19 := onRes_fin hb19
              obtain ⟨⟩ := s153
              replace hq152 : f150 0 = v_t ∧ f150 3 = (Value.int .i64 ((t).length : Int)) ∧ f150 4 = (Value.int .i64 (k14 : Int)) ∧ St w wd151 [] := hq152
              obtain ⟨hf154, hf155, hf156, hS157⟩ := hq152
              show W _ _ _ _ _ _
              refine W.region ?_
              refine WL.val (Value.int .i64 (k14 : Int)) _ (op_move hf156) rfl ?_
              refine WL.val (Value.int .i64 (w64 ((k14 : Int) + (1 : Int)))) _ (op_add rfl rfl) rfl ?_
              refine WL.val (Value.int .i64 (w64 ((k14 : Int) + (1 : Int)))) _ (op_assign rfl) rfl ?_
              refine WL.nil ?_
              obtain rfl := Option.some.inj hb19
              show ∃ s, _ = Ctl.next s ∧ _
              exact ⟨_, rfl, hf154, hf155, (ctr_next hl28 hr1), (ctr_rng hl28 hr1), hS157⟩
        · intro s164 f160 wd161 hs162 hI163
          obtain ⟨⟩ := s164
          replace hI163 : f160 0 = v_t ∧ f160 3 = (Value.int .i64 ((t).length : Int)) ∧ f160 4 = Value.int .i64 (((t).length : Nat) : Int) ∧ InR .i64 (((t).length : Nat) : Int) ∧ St w wd161 [] := hI163
          obtain ⟨hf165, hf166, hf167, hr168, hS169⟩ := hI163
          refine W.seq ?_
          refine W.seq ?_
          refine W.region ?_
          refine WL.val (Value.int .i64 (((t).length : Nat) : Int)) _ (op_move hf167) rfl ?_
          refine WL.val (Value.int .i64 ((t).length : Int)) _ (op_move hf166) rfl ?_
          refine WL.val (Value.bool (decide ((((t).length : Nat) : Int) < ((t).length : Int)))) _ (op_lss rfl rfl) rfl ?_
          have hl170 : ¬ (((t).length : Nat) : Int) < ((t).length : Int) := by omega
          refine WL.nil ?_
          show W _ _ _ _ _ _
          refine W.condF (decide ((((t).length : Nat) : Int) < ((t).length : Int))) rfl (decide_eq_false hl170) ?_
          refine W.exit ?_
          show _ = _ ∧ _
          exact ⟨rfl, _, hs162, hS169⟩
      · rintro f171 wd172 ⟨s174, rfl, hq173⟩
        replace h := onRes_fin h
        obtain ⟨⟩ := s174
        replace hq173 : St w wd172 [] := hq173
        have hS175 := hq173
        show W _ _ _ _ _ _
        refine W.seq ?_
        refine W.region ?_
        refine WL.val (Value.bool true) _ (op_assign rfl) rfl ?_
        refine WL.nil ?_
        show W _ _ _ _ _ _
        refine W.ret ?_
        obtain rfl := Option.some.inj h
        show FinP _ _ _ _ _ _ _
        exact FinP.ret _ (res1 rfl rfl) ⟨rfl, hS175.ext⟩

theorem c_spec_l03Dual {w : World} {t : (List (List (List Int)))} {v_t : Value} {i : Int} (r_t : (Ty.sl (Ty.sl (Ty.sl (Ty.i .i64)))).rep w v_t t) (r_i : InR .i64 i) {res : Int} (h : p_spec_l03Dual t i  = some res) :
    Ret Try.prog 111 #[v_t, (Value.int .i64 i)] w (fun v w' => v = Value.int .i64 res ∧ InR .i64 res ∧ Ext w w') := by
  unfold p_spec_l03Dual at h
  have hS0 : St w w [] := St.start w
  refine Ret.start (fn := Try.f111) Try.func111 rfl 41 rfl rfl ?_
  refine W.seq ?_
  refine W.region ?_
  refine WL.val (Value.int .i64 (0 : Int)) _ (op_assign rfl) rfl ?_
  refine WL.nil ?_
  show W _ _ _ _ _ _
  refine W.seq ?_
  refine W.region ?_
  refine WL.val (Value.int .i64 (-1 : Int)) _ (op_assign rfl) rfl ?_
  refine WL.nil ?_
  show W _ _ _ _ _ _
  refine W.seq ?_
  refine W.seq ?_
  refine W.region ?_
  refine WL.val (Value.int .i64 (0 : Int)) _ (op_assign rfl) rfl ?_
  refine WL.nil ?_
  show W _ _ _ _ _ _
  obtain ⟨res1, hres2, h⟩ := bs h
  refine W.blockLoop (fun fq wq => ∃ s, res1 = Res.fin s ∧ fq 5 = Value.int .i64 s ∧ InR .i64 s ∧ St w wq []) ?_ ?_
  · refine W.forN (fun k (s : Int) fq wq => fq 0 = v_t ∧ fq 1 = (Value.int .i64 i) ∧ fq 5 = Value.int .i64 s ∧ InR .i64 s ∧ fq 6 = Value.int .i64 (k : Int) ∧ InR .i64 (k : Int) ∧ St w wq []) hres2 ⟨rfl, rfl, rfl, (inR_i64.2 (show (-9223372036854775808 : Int) ≤ -1 ∧ (-1 : Int) ≤ 9223372036854775807 from by decide)), rfl, (inR_i64.2 (show (-9223372036854775808 : Int) ≤ 0 ∧ (0 : Int) ≤ 9223372036854775807 from by decide)), hS0⟩ ?_ ?_
    · intro k3 x4 ct5 f6 wd7 hk8 hb9 hI10 hbrk11 hret12
      replace hI10 : f6 0 = v_t ∧ f6 1 = (Value.int .i64 i) ∧ f6 5 = Value.int .i64 x4 ∧ InR .i64 x4 ∧ f6 6 = Value.int .i64 (k3 : Int) ∧ InR .i64 (k3 : Int) ∧ St w wd7 [] := hI10
      replace hb9 : p_spec_l03Dual_L1 t i k3 x4 = some ct5 := hb9
      unfold p_spec_l03Dual_L1 at hb9
      obtain ⟨hf13, hf14, hf15, hr16, hf17, hr18, hS19⟩ := hI10
      refine W.seq ?_
      refine W.seq ?_
      refine W.region ?_
      refine WL.val (Value.int .i64 (k3 : Int)) _ (op_move hf17) rfl ?_
      refine WL.val v_t _ (op_move hf13) rfl ?_
      have hr20 := inR_len (Ty.lift _ hS19.ext r_t)
      refine WL.val (Value.int .i64 ((t).length : Int)) _ (op_lenL sl_22 (Ty.lift _ hS19.ext r_t) rfl) rfl ?_
      refine WL.val (Value.bool (decide ((k3 : Int) < ((t).length : Int)))) _ (op_lss rfl rfl) rfl ?_
      have hl21 : (k3 : Int) < ((t).length : Int) := by omega
      refine WL.nil ?_
      show W _ _ _ _ _ _
      refine W.condT (decide ((k3 : Int) < ((t).length : Int))) rfl (decide_eq_true hl21) ?_
      refine W.skip ?_
      show W _ _ _ _ _ _
      refine W.seq ?_
      refine W.block ?_
      refine W.block ?_
      refine W.seq ?_
      refine W.region ?_
      refine WL.val v_t _ (op_move hf13) rfl ?_
      refine WL.val (Value.int .i64 i) _ (op_move hf14) rfl ?_
      obtain ⟨x23, hx26, hb9⟩ := bs hb9
      obtain ⟨ha24, hb25, hx26⟩ := idx_some hx26
      refine WL.val (Value.pointer (some (elA v_t (i).toNat))) _ (op_idx sl_22 (Ty.lift _ hS19.ext r_t) rfl rfl ha24 hb25) rfl ?_
      obtain ⟨u27, hc28, hr29⟩ := repSl.el r_t hx26
      refine WL.val u27 _ (op_load one_65 rfl (Ext.cell hS19.ext hc28)) rfl ?_
      refine WL.val (Value.int .i64 (k3 : Int)) _ (op_move hf17) rfl ?_
      obtain ⟨x30, hx33, hb9⟩ := bs hb9
      obtain ⟨ha31, hb32, hx33⟩ := idx_some hx33
      refine WL.val (Value.pointer (some (elA u27 ((k3 : Int)).toNat))) _ (op_idx sl_65 (Ty.lift _ hS19.ext hr29) rfl rfl ha31 hb32) rfl ?_
      obtain ⟨u34, hc35, hr36⟩ := repSl.el hr29 hx33
      refine WL.val u34 _ (op_load one_25 rfl (Ext.cell hS19.ext hc35)) rfl ?_
      obtain ⟨x37, hx40, hb9⟩ := bs hb9
      obtain ⟨ha38, hb39, hx40⟩ := idx_some hx40
      refine WL.val (Value.pointer (some (elA u34 ((0 : Int)).toNat))) _ (op_idx sl_25 (Ty.lift _ hS19.ext hr36) rfl rfl ha38 hb39) rfl ?_
      obtain ⟨u41, hc42, hr43⟩ := repSl.el hr36 hx40
      obtain ⟨rfl, hr43⟩ := hr43
      refine WL.val (Value.int .i64 x37) _ (op_load one_2 rfl (Ext.cell hS19.ext hc42)) rfl ?_
      refine WL.val (Value.bool (x37 == (1 : Int))) _ (op_eql rfl rfl) rfl ?_
      refine WL.val (Value.bool (x37 == (1 : Int))) _ (op_move rfl) rfl ?_
      refine WL.cut 3 (fun fq wq => fq 0 = v_t ∧ fq 1 = (Value.int .i64 i) ∧ fq 5 = (Value.int .i64 x4) ∧ fq 6 = (Value.int .i64 (k3 : Int)) ∧ fq 27 = (Value.bool ((x37 == (1 : Int)) && (decide (x4 < (0 : Int))))) ∧ St w wq []) ?_ ?_
      · rcases Bool.eq_false_or_eq_true (x37 == (1 : Int)) with hc44 | hc44
        · refine WL.grun rfl (bool_of rfl hc44) ?_
          refine WL.val (Value.int .i64 x4) _ (op_move hf15) rfl ?_
          refine WL.grun rfl (bool_of rfl hc44) ?_
          refine WL.val (Value.bool (decide (x4 < (0 : Int)))) _ (op_lss rfl rfl) rfl ?_
          refine WL.val (Value.bool (decide (x4 < (0 : Int)))) _ (op_pick_t (evb_of rfl hc44) rfl) rfl ?_
          refine WL.nil ?_
          exact ⟨rfl, hf13, hf14, hf15, hf17, (andT hc44), hS19⟩
        · refine WL.gskip rfl (bool_of rfl hc44) rfl ?_
          refine WL.gskip rfl (bool_of rfl hc44) rfl ?_
          refine WL.val (Value.bool false) _ (op_pick_f (evb_of rfl hc44) rfl) rfl ?_
          refine WL.nil ?_
          exact ⟨rfl, hf13, hf14, hf15, hf17, (andF hc44), hS19⟩
      · intro f45 wd46 hq47
        obtain ⟨hf48, hf49, hf50, hf51, hf52, hS53⟩ := hq47
        refine WL.val (Value.bool ((x37 == (1 : Int)) && (decide (x4 < (0 : Int))))) _ (op_assign hf52) rfl ?_
        refine WL.nil ?_
        show W _ _ _ _ _ _
        refine W.cond ((x37 == (1 : Int)) && (decide (x4 < (0 : Int)))) rfl (fun hc54 => ?_) (fun hc54 => ?_)
        · replace hb9 := ip hb9 hc54
          refine W.region ?_
          refine WL.val (Value.int .i64 (k3 : Int)) _ (op_move hf51) rfl ?_
          refine WL.val (Value.int .i64 (k3 : Int)) _ (op_assign rfl) rfl ?_
          refine WL.nil ?_
          show W _ _ _ _ _ _
          refine W.region ?_
          refine WL.val (Value.int .i64 (k3 : Int)) _ (op_move hf51) rfl ?_
          refine WL.val (Value.int .i64 (w64 ((k3 : Int) + (1 : Int)))) _ (op_add rfl rfl) rfl ?_
          refine WL.val (Value.int .i64 (w64 ((k3 : Int) + (1 : Int)))) _ (op_assign rfl) rfl ?_
          refine WL.nil ?_
          obtain rfl := Option.some.inj hb9
          show ∃ s, _ = Ctl.next s ∧ _
          exact ⟨_, rfl, hf48, hf49, rfl, hr18, (ctr_next hl21 hr20), (ctr_rng hl21 hr20), hS53⟩
        · replace hb9 := inegb hb9 hc54
          refine W.seq ?_
          refine W.region ?_
          refine WL.val v_t _ (op_move hf48) rfl ?_
          refine WL.val (Value.int .i64 i) _ (op_move hf49) rfl ?_
          refine WL.val (Value.pointer (some (elA v_t (i).toNat))) _ (op_idx sl_22 (Ty.lift _ hS53.ext r_t) rfl rfl ha24 hb25) rfl ?_
          obtain ⟨u56, hc57, hr58⟩ := repSl.el r_t hx26
          refine WL.val u56 _ (op_load one_65 rfl (Ext.cell hS53.ext hc57)) rfl ?_
          refine WL.val (Value.int .i64 (k3 : Int)) _ (op_move hf51) rfl ?_
          refine WL.val (Value.pointer (some (elA u56 ((k3 : Int)).toNat))) _ (op_idx sl_65 (Ty.lift _ hS53.ext hr58) rfl rfl ha31 hb32) rfl ?_
          obtain ⟨u59, hc60, hr61⟩ := repSl.el hr58 hx33
          refine WL.val u59 _ (op_load one_25 rfl (Ext.cell hS53.ext hc60)) rfl ?_
          refine WL.val (Value.pointer (some (elA u59 ((0 : Int)).toNat))) _ (op_idx sl_25 (Ty.lift _ hS53.ext hr61) rfl rfl ha38 hb39) rfl ?_
          obtain ⟨u62, hc63, hr64⟩ := repSl.el hr61 hx40
          obtain ⟨rfl, hr64⟩ := hr64
          refine WL.val (Value.int .i64 x37) _ (op_load one_2 rfl (Ext.cell hS53.ext hc63)) rfl ?_
          refine WL.val (Value.bool (x37 != (0 : Int))) _ (op_neq rfl rfl) rfl ?_
          refine WL.val (Value.bool (x37 != (0 : Int))) _ (op_assign rfl) rfl ?_
          refine WL.nil ?_
          show W _ _ _ _ _ _
          refine W.cond (x37 != (0 : Int)) rfl (fun hc65 => ?_) (fun hc65 => ?_)
          · replace hb9 := ip hb9 hc65
            refine W.seq ?_
            refine W.region ?_
            refine WL.val (Value.int .i64 (-1 : Int)) _ (op_assign rfl) rfl ?_
            refine WL.nil ?_
            show W _ _ _ _ _ _
            refine W.ret ?_
            obtain rfl := Option.some.inj hb9
            obtain rfl := hret12 _ rfl
            replace h := onRes_ret h
            obtain rfl := Option.some.inj h
            show FinP _ _ _ _ _ _ _
            exact FinP.ret _ (res1 rfl rfl) ⟨rfl, (inR_i64.2 (show (-9223372036854775808 : Int) ≤ -1 ∧ (-1 : Int) ≤ 9223372036854775807 from by decide)), hS53.ext⟩
          · replace hb9 := inegb hb9 hc65
            refine W.skip ?_
            show W _ _ _ _ _ _
            refine W.region ?_
            refine WL.val (Value.int .i64 (k3 : Int)) _ (op_move hf51) rfl ?_
            refine WL.val (Value.int .i64 (w64 ((k3 : Int) + (1 : Int)))) _ (op_add rfl rfl) rfl ?_
            refine WL.val (Value.int .i64 (w64 ((k3 : Int) + (1 : Int)))) _ (op_assign rfl) rfl ?_
            refine WL.nil ?_
            obtain rfl := Option.some.inj hb9
            show ∃ s, _ = Ctl.next s ∧ _
            exact ⟨_, rfl, hf48, hf49, hf50, hr16, (ctr_next hl21 hr20), (ctr_rng hl21 hr20), hS53⟩
    · intro x73 f68 wd69 hs70 hI71
      replace hI71 : f68 0 = v_t ∧ f68 1 = (Value.int .i64 i) ∧ f68 5 = Value.int .i64 x73 ∧ InR .i64 x73 ∧ f68 6 = Value.int .i64 (((t).length : Nat) : Int) ∧ InR .i64 (((t).length : Nat) : Int) ∧ St w wd69 [] := hI71
      obtain ⟨hf74, hf75, hf76, hr77, hf78, hr79, hS80⟩ := hI71
      refine W.seq ?_
      refine W.seq ?_
      refine W.region ?_
      refine WL.val (Value.int .i64 (((t).length : Nat) : Int)) _ (op_move hf78) rfl ?_
      refine WL.val v_t _ (op_move hf74) rfl ?_
      have hr81 := inR_len (Ty.lift _ hS80.ext r_t)
      refine WL.val (Value.int .i64 ((t).length : Int)) _ (op_lenL sl_22 (Ty.lift _ hS80.ext r_t) rfl) rfl ?_
      refine WL.val (Value.bool (decide ((((t).length : Nat) : Int) < ((t).length : Int)))) _ (op_lss rfl rfl) rfl ?_
      have hl82 : ¬ (((t).length : Nat) : Int) < ((t).length : Int) := by omega
      refine WL.nil ?_
      show W _ _ _ _ _ _
      refine W.condF (decide ((((t).length : Nat) : Int) < ((t).length : Int))) rfl (decide_eq_false hl82) ?_
      refine W.exit ?_
      show _ = _ ∧ _
      exact ⟨rfl, _, hs70, hf76, hr77, hS80⟩
  · rintro f83 wd84 ⟨x87, rfl, hq85⟩
    replace h := onRes_fin h
    replace hq85 : f83 5 = Value.int .i64 x87 ∧ InR .i64 x87 ∧ St w wd84 [] := hq85
    obtain ⟨hf88, hr89, hS90⟩ := hq85
    show W _ _ _ _ _ _
    refine W.seq ?_
    refine W.region ?_
    refine WL.val (Value.int .i64 x87) _ (op_move hf88) rfl ?_
    refine WL.val (Value.int .i64 x87) _ (op_assign rfl) rfl ?_
    refine WL.nil ?_
    show W _ _ _ _ _ _
    refine W.ret ?_
    obtain rfl := Option.some.inj h
    show FinP _ _ _ _ _ _ _
    exact FinP.ret _ (res1 rfl rfl) ⟨rfl, hr89, hS90.ext⟩

theorem c_spec_l03Fault {w : World} {t : (List (List (List Int)))} {v_t : Value} (r_t : (Ty.sl (Ty.sl (Ty.sl (Ty.i .i64)))).rep w v_t t) {res : (List Int)} (h : p_spec_l03Fault t  = some res) :
    Ret Try.prog 89 #[v_t] w (fun v w' => ∃ (u0 : Value), v = u0 ∧ Ext w w' ∧ Sep w.heap.size w' [(Ty.sl (Ty.i .i64)).at u0 res]) := by
  unfold p_spec_l03Fault at h
  have hS0 : St w w [] := St.start w
  refine Ret.start (fn := Try.f89) Try.func89 rfl 245 rfl rfl ?_
  refine W.seq ?_
  refine W.region ?_
  refine WL.val (Value.slice none 0 0) _ (op_assign rfl) rfl ?_
  refine WL.nil ?_
  show W _ _ _ _ _ _
  refine W.seq ?_
  refine W.region ?_
  refine WL.val v_t _ (op_move rfl) rfl ?_
  have hr1 := inR_len (Ty.lift _ hS0.ext r_t)
  refine WL.val (Value.int .i64 ((t).length : Int)) _ (op_lenL sl_22 (Ty.lift _ hS0.ext r_t) rfl) rfl ?_
  refine WL.val (Value.int .i64 ((t).length : Int)) _ (op_assign rfl) rfl ?_
  refine WL.nil ?_
  show W _ _ _ _ _ _
  refine W.seq ?_
  refine W.seq ?_
  refine W.region ?_
  refine WL.val (Value.int .i64 (0 : Int)) _ (op_assign rfl) rfl ?_
  refine WL.nil ?_
  show W _ _ _ _ _ _
  obtain ⟨res2, hres3, h⟩ := bs h
  refine W.blockLoop (fun fq wq => ∃ s, res2 = Res.fin s ∧ fq 0 = v_t ∧ fq 3 = (Value.int .i64 ((t).length : Int)) ∧ St w wq []) ?_ ?_
  · refine W.forN (fun k (s : Unit) fq wq => fq 0 = v_t ∧ fq 3 = (Value.int .i64 ((t).length : Int)) ∧ fq 4 = Value.int .i64 (k : Int) ∧ InR .i64 (k : Int) ∧ St w wq []) hres3 ⟨rfl, rfl, rfl, (inR_i64.2 (show (-9223372036854775808 : Int) ≤ 0 ∧ (0 : Int) ≤ 9223372036854775807 from by decide)), hS0⟩ ?_ ?_
    · intro k4 s134 ct5 f6 wd7 hk8 hb9 hI10 hbrk11 hret12
      obtain ⟨⟩ := s134
      replace hI10 : f6 0 = v_t ∧ f6 3 = (Value.int .i64 ((t).length : Int)) ∧ f6 4 = Value.int .i64 (k4 : Int) ∧ InR .i64 (k4 : Int) ∧ St w wd7 [] := hI10
      replace hb9 : p_spec_l03Fault_L1 t k4  = some ct5 := hb9
      unfold p_spec_l03Fault_L1 at hb9
      obtain ⟨hf13, hf14, hf15, hr16, hS17⟩ := hI10
      refine W.seq ?_
      refine W.seq ?_
      refine W.region ?_
      refine WL.val (Value.int .i64 (k4 : Int)) _ (op_move hf15) rfl ?_
      refine WL.val (Value.int .i64 ((t).length : Int)) _ (op_move hf14) rfl ?_
      refine WL.val (Value.bool (decide ((k4 : Int) < ((t).length : Int)))) _ (op_lss rfl rfl) rfl ?_
      have hl18 : (k4 : Int) < ((t).length : Int) := by omega
      refine WL.nil ?_
      show W _ _ _ _ _ _
      refine W.condT (decide ((k4 : Int) < ((t).length : Int))) rfl (decide_eq_true hl18) ?_
      refine W.skip ?_
      show W _ _ _ _ _ _
      refine W.seq ?_
      refine W.block ?_
      refine W.seq ?_
      refine W.region ?_
      refine WL.val (Value.int .i64 (0 : Int)) _ (op_assign rfl) rfl ?_
      refine WL.nil ?_
      show W _ _ _ _ _ _
      obtain ⟨res20, hres21, hb9⟩ := bs hb9
      refine W.blockLoop (fun fq wq => ∃ s, res20 = Res.fin s ∧ fq 0 = v_t ∧ fq 3 = (Value.int .i64 ((t).length : Int)) ∧ fq 4 = (Value.int .i64 (k4 : Int)) ∧ St w wq []) ?_ ?_
      · refine W.forN (fun k (s : Unit) fq wq => fq 0 = v_t ∧ fq 3 = (Value.int .i64 ((t).length : Int)) ∧ fq 4 = (Value.int .i64 (k4 : Int)) ∧ fq 5 = Value.int .i64 (k : Int) ∧ InR .i64 (k : Int) ∧ St w wq []) hres21 ⟨hf13, hf14, hf15, rfl, (inR_i64.2 (show (-9223372036854775808 : Int) ≤ 0 ∧ (0 : Int) ≤ 9223372036854775807 from by decide)), hS17⟩ ?_ ?_
        · intro k22 s112 ct23 f24 wd25 hk26 hb27 hI28 hbrk29 hret30
          obtain ⟨⟩ := s112
          replace hI28 : f24 0 = v_t ∧ f24 3 = (Value.int .i64 ((t).length : Int)) ∧ f24 4 = (Value.int .i64 (k4 : Int)) ∧ f24 5 = Value.int .i64 (k22 : Int) ∧ InR .i64 (k22 : Int) ∧ St w wd25 [] := hI28
          replace hb27 : p_spec_l03Fault_L2 k4 t k22  = some ct23 := hb27
          unfold p_spec_l03Fault_L2 at hb27
          obtain ⟨hf31, hf32, hf33, hf34, hr35, hS36⟩ := hI28
          refine W.seq ?_
          refine W.seq ?_
          refine W.region ?_
          refine WL.val (Value.int .i64 (k22 : Int)) _ (op_move hf34) rfl ?_
          refine WL.val (Value.int .i64 ((t).length : Int)) _ (op_move hf32) rfl ?_
          refine WL.val (Value.bool (decide ((k22 : Int) < ((t).length : Int)))) _ (op_lss rfl rfl) rfl ?_
          have hl37 : (k22 : Int) < ((t).length : Int) := by omega
          refine WL.nil ?_
          show W _ _ _ _ _ _
          refine W.condT (decide ((k22 : Int) < ((t).length : Int))) rfl (decide_eq_true hl37) ?_
          refine W.skip ?_
          show W _ _ _ _ _ _
          refine W.seq ?_
          refine W.block ?_
          refine W.seq ?_
          refine W.region ?_
          refine WL.val (Value.int .i64 (0 : Int)) _ (op_assign rfl) rfl ?_
          refine WL.nil ?_
          show W _ _ _ _ _ _
          refine W.seq ?_
          refine W.seq ?_
          refine W.region ?_
          refine WL.val (Value.int .i64 (k4 : Int)) _ (op_move hf33) rfl ?_
          refine WL.val (Value.int .i64 (k22 : Int)) _ (op_move hf34) rfl ?_
          refine WL.val (Value.bool ((k4 : Int) == (k22 : Int))) _ (op_eql rfl rfl) rfl ?_
          refine WL.nil ?_
          show W _ _ _ _ _ _
          obtain ⟨x39, hj40, hb27⟩ := bs hb27
          refine W.cutCode (fun fq wq => fq 0 = v_t ∧ fq 3 = (Value.int .i64 ((t).length : Int)) ∧ fq 4 = (Value.int .i64 (k4 : Int)) ∧ fq 5 = (Value.int .i64 (k22 : Int)) ∧ fq 6 = Value.int .i64 x39 ∧ InR .i64 x39 ∧ St w wq []) ?_ ?_
          · refine W.cond ((k4 : Int) == (k22 : Int)) rfl (fun hc41 => ?_) (fun hc41 => ?_)
            · replace hj40 := ip hj40 hc41
              refine W.region ?_
              refine WL.val (Value.int .i64 (1 : Int)) _ (op_assign rfl) rfl ?_
              refine WL.nil ?_
              obtain rfl := Option.some.inj hj40
              exact ⟨hf31, hf32, hf33, hf34, rfl, (inR_i64.2 (show (-9223372036854775808 : Int) ≤ 1 ∧ (1 : Int) ≤ 9223372036854775807 from by decide)), hS36⟩
            · replace hj40 := inegb hj40 hc41
              refine W.skip ?_
              obtain rfl := Option.some.inj hj40
              exact ⟨hf31, hf32, hf33, hf34, rfl, (inR_i64.2 (show (-9223372036854775808 : Int) ≤ 0 ∧ (0 : Int) ≤ 9223372036854775807 from by decide)), hS36⟩
          · intro f42 wd43 hq44
            obtain ⟨hf45, hf46, hf47, hf48, hf49, hr50, hS51⟩ := hq44
            show W _ _ _ _ _ _
            refine W.seq ?_
            refine W.region ?_
            refine WL.val v_t _ (op_move hf45) rfl ?_
            obtain ⟨x52, hx55, hb27⟩ := bs hb27
            obtain ⟨ha53, hb54, hx55⟩ := idx_some hx55
            refine WL.val (Value.pointer (some (elA v_t ((0 : Int)).toNat))) _ (op_idx sl_22 (Ty.lift _ hS51.ext r_t) rfl rfl ha53 hb54) rfl ?_
            obtain ⟨u56, hc57, hr58⟩ := repSl.el r_t hx55
            refine WL.val u56 _ (op_load one_65 rfl (Ext.cell hS51.ext hc57)) rfl ?_
            refine WL.val (Value.int .i64 (k4 : Int)) _ (op_move hf47) rfl ?_
            obtain ⟨x59, hx62, hb27⟩ := bs hb27
            obtain ⟨ha60, hb61, hx62⟩ := idx_some hx62
            refine WL.val (Value.pointer (some (elA u56 ((k4 : Int)).toNat))) _ (op_idx sl_65 (Ty.lift _ hS51.ext hr58) rfl rfl ha60 hb61) rfl ?_
            obtain ⟨u63, hc64, hr65⟩ := repSl.el hr58 hx62
            refine WL.val u63 _ (op_load one_25 rfl (Ext.cell hS51.ext hc64)) rfl ?_
            refine WL.val (Value.int .i64 (k22 : Int)) _ (op_move hf48) rfl ?_
            obtain ⟨x66, hx69, hb27⟩ := bs hb27
            obtain ⟨ha67, hb68, hx69⟩ := idx_some hx69
            refine WL.val (Value.pointer (some (elA u63 ((k22 : Int)).toNat))) _ (op_idx sl_25 (Ty.lift _ hS51.ext hr65) rfl rfl ha67 hb68) rfl ?_
            obtain ⟨u70, hc71, hr72⟩ := repSl.el hr65 hx69
            obtain ⟨rfl, hr72⟩ := hr72
            refine WL.val (Value.int .i64 x66) _ (op_load one_2 rfl (Ext.cell hS51.ext hc71)) rfl ?_
            refine WL.val (Value.int .i64 x39) _ (op_move hf49) rfl ?_
            refine WL.val (Value.bool (x66 != x39)) _ (op_neq rfl rfl) rfl ?_
            refine WL.val (Value.bool (x66 != x39)) _ (op_move rfl) rfl ?_
            obtain ⟨x74, hj75, hb27⟩ := bs hb27
            refine WL.cut 12 (fun fq wq => fq 0 = v_t ∧ fq 3 = (Value.int .i64 ((t).length : Int)) ∧ fq 4 = (Value.int .i64 (k4 : Int)) ∧ fq 5 = (Value.int .i64 (k22 : Int)) ∧ fq 58 = Value.bool x74 ∧ St w wq []) ?_ ?_
            · rcases Bool.eq_false_or_eq_true (x66 != x39) with hc73 | hc73
              · replace hj75 := ip hj75 hc73
                refine WL.gskip rfl (bool_of rfl hc73) rfl ?_
                refine WL.gskip rfl (bool_of rfl hc73) rfl ?_
                refine WL.gskip rfl (bool_of rfl hc73) rfl ?_
                refine WL.gskip rfl (bool_of rfl hc73) rfl ?_
                refine WL.gskip rfl (bool_of rfl hc73) rfl ?_
                refine WL.gskip rfl (bool_of rfl hc73) rfl ?_
                refine WL.gskip rfl (bool_of rfl hc73) rfl ?_
                refine WL.gskip rfl (bool_of rfl hc73) rfl ?_
                refine WL.gskip rfl (bool_of rfl hc73) rfl ?_
                refine WL.gskip rfl (bool_of rfl hc73) rfl ?_
                refine WL.gskip rfl (bool_of rfl hc73) rfl ?_
                refine WL.val (Value.bool true) _ (op_pick_t (evb_of rfl hc73) rfl) rfl ?_
                refine WL.nil ?_
                obtain rfl := Option.some.inj hj75
                exact ⟨rfl, hf45, hf46, hf47, hf48, rfl, hS51⟩
              · replace hj75 := inegb hj75 hc73
                refine WL.grun rfl (bool_of rfl hc73) ?_
                refine WL.val v_t _ (op_move hf45) rfl ?_
                refine WL.grun rfl (bool_of rfl hc73) ?_
                refine WL.val (Value.int .i64 (k4 : Int)) _ (op_move hf47) rfl ?_
                refine WL.grun rfl (bool_of rfl hc73) ?_
                obtain ⟨x79, hx82, hj75⟩ := bs hj75
                obtain ⟨ha80, hb81, hx82⟩ := idx_some hx82
                refine WL.val (Value.pointer (some (elA v_t ((k4 : Int)).toNat))) _ (op_idx sl_22 (Ty.lift _ hS51.ext r_t) rfl rfl ha80 hb81) rfl ?_
                refine WL.grun rfl (bool_of rfl hc73) ?_
                obtain ⟨u83, hc84, hr85⟩ := repSl.el r_t hx82
                refine WL.val u83 _ (op_load one_65 rfl (Ext.cell hS51.ext hc84)) rfl ?_
                refine WL.grun rfl (bool_of rfl hc73) ?_
                obtain ⟨x86, hx89, hj75⟩ := bs hj75
                obtain ⟨ha87, hb88, hx89⟩ := idx_some hx89
                refine WL.val (Value.pointer (some (elA u83 ((0 : Int)).toNat))) _ (op_idx sl_65 (Ty.lift _ hS51.ext hr85) rfl rfl ha87 hb88) rfl ?_
                refine WL.grun rfl (bool_of rfl hc73) ?_
                obtain ⟨u90, hc91, hr92⟩ := repSl.el hr85 hx89
                refine WL.val u90 _ (op_load one_25 rfl (Ext.cell hS51.ext hc91)) rfl ?_
                refine WL.grun rfl (bool_of rfl hc73) ?_
                refine WL.val (Value.int .i64 (k22 : Int)) _ (op_move hf48) rfl ?_
                refine WL.grun rfl (bool_of rfl hc73) ?_
                obtain ⟨x93, hx96, hj75⟩ := bs hj75
                obtain ⟨ha94, hb95, hx96⟩ := idx_some hx96
                refine WL.val (Value.pointer (some (elA u90 ((k22 : Int)).toNat))) _ (op_idx sl_25 (Ty.lift _ hS51.ext hr92) rfl rfl ha94 hb95) rfl ?_
                refine WL.grun rfl (bool_of rfl hc73) ?_
                obtain ⟨u97, hc98, hr99⟩ := repSl.el hr92 hx96
                obtain ⟨rfl, hr99⟩ := hr99
                refine WL.val (Value.int .i64 x93) _ (op_load one_2 rfl (Ext.cell hS51.ext hc98)) rfl ?_
                refine WL.grun rfl (bool_of rfl hc73) ?_
                refine WL.val (Value.int .i64 x39) _ (op_move hf49) rfl ?_
                refine WL.grun rfl (bool_of rfl hc73) ?_
                refine WL.val (Value.bool (x93 != x39)) _ (op_neq rfl rfl) rfl ?_
                refine WL.val (Value.bool (x93 != x39)) _ (op_pick_f (evb_of rfl hc73) rfl) rfl ?_
                refine WL.nil ?_
                obtain rfl := Option.some.inj hj75
                exact ⟨rfl, hf45, hf46, hf47, hf48, rfl, hS51⟩
            · intro f76 wd77 hq78
              obtain ⟨hf100, hf101, hf102, hf103, hf104, hS105⟩ := hq78
              refine WL.nil ?_
              show W _ _ _ _ _ _
              refine W.cond x74 hf104 (fun hc106 => ?_) (fun hc106 => ?_)
              · replace hb27 := ip hb27 hc106
                refine W.seq ?_
                refine W.region ?_
                refine WL.val (Value.int .i64 (k4 : Int)) _ (op_move hf102) rfl ?_
                refine WL.val (Value.int .i64 (k22 : Int)) _ (op_move hf103) rfl ?_
                refine WL.litFlat (t := (Ty.i .i64)) (flat_i .i64) [(Value.int .i64 (0 : Int)), (Value.int .i64 (k4 : Int)), (Value.int .i64 (k22 : Int))] [(0 : Int), (k4 : Int), (k22 : Int)] hS105 sl_25 rfl rfl (fillL rfl ⟨rfl, rfl, rfl, rfl, rfl, rfl, rfl, rfl, rfl, trivial⟩) rfl rfl (litL ⟨⟨rfl, (inR_i64.2 (show (-9223372036854775808 : Int) ≤ 0 ∧ (0 : Int) ≤ 9223372036854775807 from by decide))⟩, ⟨rfl, hr16⟩, ⟨rfl, hr35⟩, trivial⟩) rfl ?_
                intro u108 wd109 hS110 he111
                replace hS110 : St w wd109 [(Ty.sl (Ty.i .i64)).at u108 ([(0 : Int), (k4 : Int), (k22 : Int)] : (List Int))] := hS110
                refine WL.val u108 _ (op_assign rfl) rfl ?_
                refine WL.nil ?_
                show W _ _ _ _ _ _
                refine W.ret ?_
                obtain rfl := Option.some.inj hb27
                obtain rfl := hret30 _ rfl
                replace hb9 := onRes_ret hb9
                obtain rfl := Option.some.inj hb9
                obtain rfl := hret12 _ rfl
                replace h := onRes_ret h
                obtain rfl := Option.some.inj h
                show FinP _ _ _ _ _ _ _
                exact FinP.ret _ (res1 rfl rfl) ⟨u108, rfl, hS110.ext, (St.out (St.pick hS110 [0] rfl) (Ext.refl _))⟩
              · replace hb27 := inegb hb27 hc106
                refine W.skip ?_
                show W _ _ _ _ _ _
                refine W.region ?_
                refine WL.val (Value.int .i64 (k22 : Int)) _ (op_move hf103) rfl ?_
                refine WL.val (Value.int .i64 (w64 ((k22 : Int) + (1 : Int)))) _ (op_add rfl rfl) rfl ?_
                refine WL.val (Value.int .i64 (w64 ((k22 : Int) + (1 : Int)))) _ (op_assign rfl) rfl ?_
                refine WL.nil ?_
                obtain rfl := Option.some.inj hb27
                show ∃ s, _ = Ctl.next s ∧ _
                exact ⟨_, rfl, hf100, hf101, hf102, (ctr_next hl37 hr1), (ctr_rng hl37 hr1), hS105⟩
        · intro s117 f113 wd114 hs115 hI116
          obtain ⟨⟩ := s117
          replace hI116 : f113 0 = v_t ∧ f113 3 = (Value.int .i64 ((t).length : Int)) ∧ f113 4 = (Value.int .i64 (k4 : Int)) ∧ f113 5 = Value.int .i64 (((t).length : Nat) : Int) ∧ InR .i64 (((t).length : Nat) : Int) ∧ St w wd114 [] := hI116
          obtain ⟨hf118, hf119, hf120, hf121, hr122, hS123⟩ := hI116
          refine W.seq ?_
          refine W.seq ?_
          refine W.region ?_
          refine WL.val (Value.int .i64 (((t).length : Nat) : Int)) _ (op_move hf121) rfl ?_
          refine WL.val (Value.int .i64 ((t).length : Int)) _ (op_move hf119) rfl ?_
          refine WL.val (Value.bool (decide ((((t).length : Nat) : Int) < ((t).length : Int)))) _ (op_lss rfl rfl) rfl ?_
          have hl124 : ¬ (((t).length : Nat) : Int) < ((t).length : Int) := by omega
          refine WL.nil ?_
          show W _ _ _ _ _ _
          refine W.condF (decide ((((t).length : Nat) : Int) < ((t).length : Int))) rfl (decide_eq_false hl124) ?_
          refine W.exit ?_
          show _ = _ ∧ _
          exact ⟨rfl, _, hs115, hf118, hf119, hf120, hS123⟩
      · rintro f125 wd126 ⟨s128, rfl, hq127⟩
        replace hb9 := onRes_fin hb9
        obtain ⟨⟩ := s128
        replace hq127 : f125 0 = v_t ∧ f125 3 = (Value.int .i64 ((t).length : Int)) ∧ f125 4 = (Value.int .i64 (k4 : Int)) ∧ St w wd126 [] := hq127
        obtain ⟨hf129, hf130, hf131, hS132⟩ := hq127
        show W _ _ _ _ _ _
        refine W.region ?_
        refine WL.val (Value.int .i64 (k4 : Int)) _ (op_move hf131) rfl ?_
        refine WL.val (Value.int .i64 (w64 ((k4 : Int) + (1 : Int)))) _ (op_add rfl rfl) rfl ?_
        refine WL.val (Value.int .i64 (w64 ((k4 : Int) + (1 : Int)))) _ (op_assign rfl) rfl ?_
        refine WL.nil ?_
        obtain rfl := Option.some.inj hb9
        show ∃ s, _ = Ctl.next s ∧ _
        exact ⟨_, rfl, hf129, hf130, (ctr_next hl18 hr1), (ctr_rng hl18 hr1), hS132⟩
    · intro s139 f135 wd136 hs137 hI138
      obtain ⟨⟩ := s139
      replace hI138 : f135 0 = v_t ∧ f135 3 = (Value.int .i64 ((t).length : Int)) ∧ f135 4 = Value.int .i64 (((t).length : Nat) : Int) ∧ InR .i64 (((t).length : Nat) : Int) ∧ St w wd136 [] := hI138
      obtain ⟨hf140, hf141, hf142, hr143, hS144⟩ := hI138
      refine W.seq ?_
      refine W.seq ?_
      refine W.region ?_
      refine WL.val (Value.int .i64 (((t).length : Nat) : Int)) _ (op_move hf142) rfl ?_
      refine WL.val (Value.int .i64 ((t).length : Int)) _ (op_move hf141) rfl ?_
      refine WL.val (Value.bool (decide ((((t).length : Nat) : Int) < ((t).length : Int)))) _ (op_lss rfl rfl) rfl ?_
      have hl145 : ¬ (((t).length : Nat) : Int) < ((t).length : Int) := by omega
      refine WL.nil ?_
      show W _ _ _ _ _ _
      refine W.condF (decide ((((t).length : Nat) : Int) < ((t).length : Int))) rfl (decide_eq_false hl145) ?_
      refine W.exit ?_
      show _ = _ ∧ _
      exact ⟨rfl, _, hs137, hf140, hf141, hS144⟩
  · rintro f146 wd147 ⟨s149, rfl, hq148⟩
    replace h := onRes_fin h
    obtain ⟨⟩ := s149
    replace hq148 : f146 0 = v_t ∧ f146 3 = (Value.int .i64 ((t).length : Int)) ∧ St w wd147 [] := hq148
    obtain ⟨hf150, hf151, hS152⟩ := hq148
    show W _ _ _ _ _ _
    refine W.seq ?_
    refine W.region ?_
    refine WL.lit0 (t := (Ty.i .i64)) hS152 sl_25 rfl rfl ?_
    intro u153 wd154 hS155 he156
    replace hS155 : St w wd154 [(Ty.sl (Ty.i .i64)).at u153 ([] : (List Int))] := hS155
    refine WL.val u153 _ (op_assign rfl) rfl ?_
    refine WL.nil ?_
    show W _ _ _ _ _ _
    refine W.seq ?_
    refine W.seq ?_
    refine W.region ?_
    refine WL.val (Value.int .i64 (0 : Int)) _ (op_assign rfl) rfl ?_
    refine WL.nil ?_
    show W _ _ _ _ _ _
    obtain ⟨res157, hres158, h⟩ := bs h
    refine W.blockLoop (fun fq wq => ∃ s, res157 = Res.fin s ∧ ∃ (uu0 : Value), fq 0 = v_t ∧ fq 3 = (Value.int .i64 ((t).length : Int)) ∧ fq 7 = uu0 ∧ St w wq [(Ty.sl (Ty.i .i64)).at uu0 s]) ?_ ?_
    · refine W.forN (fun k (s : (List Int)) fq wq => ∃ (uu0 : Value), fq 0 = v_t ∧ fq 3 = (Value.int .i64 ((t).length : Int)) ∧ fq 7 = uu0 ∧ fq 8 = Value.int .i64 (k : Int) ∧ InR .i64 (k : Int) ∧ St w wq [(Ty.sl (Ty.i .i64)).at uu0 s]) hres158 ⟨u153, hf150, hf151, rfl, rfl, (inR_i64.2 (show (-9223372036854775808 : Int) ≤ 0 ∧ (0 : Int) ≤ 9223372036854775807 from by decide)), hS155⟩ ?_ ?_
      · intro k159 x160 ct161 f162 wd163 hk164 hb165 hI166 hbrk167 hret168
        replace hI166 : ∃ (uu0 : Value), f162 0 = v_t ∧ f162 3 = (Value.int .i64 ((t).length : Int)) ∧ f162 7 = uu0 ∧ f162 8 = Value.int .i64 (k159 : Int) ∧ InR .i64 (k159 : Int) ∧ St w wd163 [(Ty.sl (Ty.i .i64)).at uu0 x160] := hI166
        replace hb165 : p_spec_l03Fault_L3 t k159 x160 = some ct161 := hb165
        unfold p_spec_l03Fault_L3 at hb165
        obtain ⟨u169, hf170, hf171, hf172, hf173, hr174, hS175⟩ := hI166
        refine W.seq ?_
        refine W.seq ?_
        refine W.region ?_
        refine WL.val (Value.int .i64 (k159 : Int)) _ (op_move hf173) rfl ?_
        refine WL.val (Value.int .i64 ((t).length : Int)) _ (op_move hf171) rfl ?_
        refine WL.val (Value.bool (decide ((k159 : Int) < ((t).length : Int)))) _ (op_lss rfl rfl) rfl ?_
        have hl176 : (k159 : Int) < ((t).length : Int) := by omega
        refine WL.nil ?_
        show W _ _ _ _ _ _
        refine W.condT (decide ((k159 : Int) < ((t).length : Int))) rfl (decide_eq_true hl176) ?_
        refine W.skip ?_
        show W _ _ _ _ _ _
        refine W.seq ?_
        refine W.block ?_
        refine W.region ?_
        refine WL.val u169 _ (op_move hf172) rfl ?_
        refine WL.val v_t _ (op_move hf170) rfl ?_
        refine WL.val (Value.int .i64 (k159 : Int)) _ (op_move hf173) rfl ?_
        obtain ⟨x178, hx179, hb165⟩ := bs hb165
        refine WL.call _ (op_call fn_111 (args2 rfl rfl)) (c_spec_l03Dual (Ty.lift _ hS175.ext r_t) hr174 hx179) rfl ?_
        rintro _ wd181 ⟨rfl, hr180, he182⟩
        have hS184 := St.extend hS175 he182
        replace hS184 : St w wd181 [(Ty.sl (Ty.i .i64)).at u169 x160] := hS184
        refine WL.litFlat (t := (Ty.i .i64)) (flat_i .i64) [(Value.int .i64 x178)] [x178] hS184 sl_25 rfl rfl (fillL rfl ⟨rfl, rfl, rfl, trivial⟩) rfl rfl (litL ⟨⟨rfl, hr180⟩, trivial⟩) rfl ?_
        intro u185 wd186 hS187 he188
        replace hS187 : St w wd186 [(Ty.sl (Ty.i .i64)).at u169 x160, (Ty.sl (Ty.i .i64)).at u185 ([x178] : (List Int))] := hS187
        obtain ⟨x189, hx190, hb165⟩ := bs hb165
        refine WL.append (flat_i .i64) hS187 (k := 0) rfl sl_25 rfl rfl rfl rfl (St.rep (t := (Ty.sl (Ty.i .i64))) hS187 1 rfl) hx190 rfl ?_
        intro u191 wd192 hS193 hz194
        replace hS193 : St w wd192 [(Ty.sl (Ty.i .i64)).at u191 x189, (Ty.sl (Ty.i .i64)).at u185 ([x178] : (List Int))] := hS193
        refine WL.val u191 _ (op_assign rfl) rfl ?_
        refine WL.nil ?_
        show W _ _ _ _ _ _
        refine W.region ?_
        refine WL.val (Value.int .i64 (k159 : Int)) _ (op_move hf173) rfl ?_
        refine WL.val (Value.int .i64 (w64 ((k159 : Int) + (1 : Int)))) _ (op_add rfl rfl) rfl ?_
        refine WL.val (Value.int .i64 (w64 ((k159 : Int) + (1 : Int)))) _ (op_assign rfl) rfl ?_
        refine WL.nil ?_
        obtain rfl := Option.some.inj hb165
        show ∃ s, _ = Ctl.next s ∧ _
        exact ⟨_, rfl, u191, hf170, hf171, rfl, (ctr_next hl176 hr1), (ctr_rng hl176 hr1), (St.pick hS193 [0] rfl)⟩
      · intro x201 f196 wd197 hs198 hI199
        replace hI199 : ∃ (uu0 : Value), f196 0 = v_t ∧ f196 3 = (Value.int .i64 ((t).length : Int)) ∧ f196 7 = uu0 ∧ f196 8 = Value.int .i64 (((t).length : Nat) : Int) ∧ InR .i64 (((t).length : Nat) : Int) ∧ St w wd197 [(Ty.sl (Ty.i .i64)).at uu0 x201] := hI199
        obtain ⟨u202, hf203, hf204, hf205, hf206, hr207, hS208⟩ := hI199
        refine W.seq ?_
        refine W.seq ?_
        refine W.region ?_
        refine WL.val (Value.int .i64 (((t).length : Nat) : Int)) _ (op_move hf206) rfl ?_
        refine WL.val (Value.int .i64 ((t).length : Int)) _ (op_move hf204) rfl ?_
        refine WL.val (Value.bool (decide ((((t).length : Nat) : Int) < ((t).length : Int)))) _ (op_lss rfl rfl) rfl ?_
        have hl209 : ¬ (((t).length : Nat) : Int) < ((t).length : Int) := by omega
        refine WL.nil ?_
        show W _ _ _ _ _ _
        refine W.condF (decide ((((t).length : Nat) : Int) < ((t).length : Int))) rfl (decide_eq_false hl209) ?_
        refine W.exit ?_
        show _ = _ ∧ _
        exact ⟨rfl, _, hs198, u202, hf203, hf204, hf205, hS208⟩
    · rintro f210 wd211 ⟨x214, rfl, hq212⟩
      replace h := onRes_fin h
      replace hq212 : ∃ (uu0 : Value), f210 0 = v_t ∧ f210 3 = (Value.int .i64 ((t).length : Int)) ∧ f210 7 = uu0 ∧ St w wd211 [(Ty.sl (Ty.i .i64)).at uu0 x214] := hq212
      obtain ⟨u215, hf216, hf217, hf218, hS219⟩ := hq212
      show W _ _ _ _ _ _
      refine W.seq ?_
      refine W.seq ?_
      refine W.region ?_
      refine WL.val (Value.int .i64 (0 : Int)) _ (op_assign rfl) rfl ?_
      refine WL.nil ?_
      show W _ _ _ _ _ _
      obtain ⟨res220, hres221, h⟩ := bs h
      refine W.blockLoop (fun fq wq => ∃ s, res220 = Res.fin s ∧ fq 0 = v_t ∧ fq 3 = (Value.int .i64 ((t).length : Int)) ∧ fq 7 = u215 ∧ St w wq [(Ty.sl (Ty.i .i64)).at u215 x214]) ?_ ?_
      · refine W.forN (fun k (s : Unit) fq wq => fq 0 = v_t ∧ fq 3 = (Value.int .i64 ((t).length : Int)) ∧ fq 7 = u215 ∧ fq 9 = Value.int .i64 (k : Int) ∧ InR .i64 (k : Int) ∧ St w wq [(Ty.sl (Ty.i .i64)).at u215 x214]) hres221 ⟨hf216, hf217, hf218, rfl, (inR_i64.2 (show (-9223372036854775808 : Int) ≤ 0 ∧ (0 : Int) ≤ 9223372036854775807 from by decide)), hS219⟩ ?_ ?_
        · intro k222 s274 ct223 f224 wd225 hk226 hb227 hI228 hbrk229 hret230
          obtain ⟨⟩ := s274
          replace hI228 : f224 0 = v_t ∧ f224 3 = (Value.int .i64 ((t).length : Int)) ∧ f224 7 = u215 ∧ f224 9 = Value.int .i64 (k222 : Int) ∧ InR .i64 (k222 : Int) ∧ St w wd225 [(Ty.sl (Ty.i .i64)).at u215 x214] := hI228
          replace hb227 : p_spec_l03Fault_L4 x214 k222  = some ct223 := hb227
          unfold p_spec_l03Fault_L4 at hb227
          obtain ⟨hf231, hf232, hf233, hf234, hr235, hS236⟩ := hI228
          refine W.seq ?_
          refine W.seq ?_
          refine W.region ?_
          refine WL.val (Value.int .i64 (k222 : Int)) _ (op_move hf234) rfl ?_
          refine WL.val (Value.int .i64 ((t).length : Int)) _ (op_move hf232) rfl ?_
          refine WL.val (Value.bool (decide ((k222 : Int) < ((t).length : Int)))) _ (op_lss rfl rfl) rfl ?_
          have hl237 : (k222 : Int) < ((t).length : Int) := by omega
          refine WL.nil ?_
          show W _ _ _ _ _ _
          refine W.condT (decide ((k222 : Int) < ((t).length : Int))) rfl (decide_eq_true hl237) ?_
          refine W.skip ?_
          show W _ _ _ _ _ _
          refine W.seq ?_
          refine W.block ?_
          refine W.seq ?_
          refine W.region ?_
          refine WL.val u215 _ (op_move hf233) rfl ?_
          refine WL.val (Value.int .i64 (k222 : Int)) _ (op_move hf234) rfl ?_
          obtain ⟨x239, hx242, hb227⟩ := bs hb227
          obtain ⟨ha240, hb241, hx242⟩ := idx_some hx242
          refine WL.val (Value.pointer (some (elA u215 ((k222 : Int)).toNat))) _ (op_idx sl_25 (St.rep (t := (Ty.sl (Ty.i .i64))) hS236 0 rfl) rfl rfl ha240 hb241) rfl ?_
          obtain ⟨u243, hc244, hr245⟩ := repSl.el (St.rep (t := (Ty.sl (Ty.i .i64))) hS236 0 rfl) hx242
          obtain ⟨rfl, hr245⟩ := hr245
          refine WL.val (Value.int .i64 x239) _ (op_load one_2 rfl hc244) rfl ?_
          refine WL.val (Value.bool (decide (x239 < (0 : Int)))) _ (op_lss rfl rfl) rfl ?_
          refine WL.val (Value.bool (decide (x239 < (0 : Int)))) _ (op_move rfl) rfl ?_
          obtain ⟨x247, hj248, hb227⟩ := bs hb227
          refine WL.cut 10 (fun fq wq => fq 0 = v_t ∧ fq 3 = (Value.int .i64 ((t).length : Int)) ∧ fq 7 = u215 ∧ fq 9 = (Value.int .i64 (k222 : Int)) ∧ fq 94 = Value.bool x247 ∧ St w wq [(Ty.sl (Ty.i .i64)).at u215 x214]) ?_ ?_
          · rcases Bool.eq_false_or_eq_true (decide (x239 < (0 : Int))) with hc246 | hc246
            · replace hj248 := ip hj248 hc246
              refine WL.gskip rfl (bool_of rfl hc246) rfl ?_
              refine WL.gskip rfl (bool_of rfl hc246) rfl ?_
              refine WL.gskip rfl (bool_of rfl hc246) rfl ?_
              refine WL.gskip rfl (bool_of rfl hc246) rfl ?_
              refine WL.gskip rfl (bool_of rfl hc246) rfl ?_
              refine WL.gskip rfl (bool_of rfl hc246) rfl ?_
              refine WL.gskip rfl (bool_of rfl hc246) rfl ?_
              refine WL.gskip rfl (bool_of rfl hc246) rfl ?_
              refine WL.gskip rfl (bool_of rfl hc246) rfl ?_
              refine WL.val (Value.bool true) _ (op_pick_t (evb_of rfl hc246) rfl) rfl ?_
              refine WL.nil ?_
              obtain rfl := Option.some.inj hj248
              exact ⟨rfl, hf231, hf232, hf233, hf234, rfl, hS236⟩
            · replace hj248 := inegb hj248 hc246
              refine WL.grun rfl (bool_of rfl hc246) ?_
              refine WL.val u215 _ (op_move hf233) rfl ?_
              refine WL.grun rfl (bool_of rfl hc246) ?_
              refine WL.val u215 _ (op_move hf233) rfl ?_
              refine WL.grun rfl (bool_of rfl hc246) ?_
              refine WL.val (Value.int .i64 (k222 : Int)) _ (op_move hf234) rfl ?_
              refine WL.grun rfl (bool_of rfl hc246) ?_
              refine WL.val (Value.pointer (some (elA u215 ((k222 : Int)).toNat))) _ (op_idx sl_25 (St.rep (t := (Ty.sl (Ty.i .i64))) hS236 0 rfl) rfl rfl ha240 hb241) rfl ?_
              refine WL.grun rfl (bool_of rfl hc246) ?_
              obtain ⟨u252, hc253, hr254⟩ := repSl.el (St.rep (t := (Ty.sl (Ty.i .i64))) hS236 0 rfl) hx242
              obtain ⟨rfl, hr254⟩ := hr254
              refine WL.val (Value.int .i64 x239) _ (op_load one_2 rfl hc253) rfl ?_
              refine WL.grun rfl (bool_of rfl hc246) ?_
              obtain ⟨x255, hx258, hj248⟩ := bs hj248
              obtain ⟨ha256, hb257, hx258⟩ := idx_some hx258
              refine WL.val (Value.pointer (some (elA u215 (x239).toNat))) _ (op_idx sl_25 (St.rep (t := (Ty.sl (Ty.i .i64))) hS236 0 rfl) rfl rfl ha256 hb257) rfl ?_
              refine WL.grun rfl (bool_of rfl hc246) ?_
              obtain ⟨u259, hc260, hr261⟩ := repSl.el (St.rep (t := (Ty.sl (Ty.i .i64))) hS236 0 rfl) hx258
              obtain ⟨rfl, hr261⟩ := hr261
              refine WL.val (Value.int .i64 x255) _ (op_load one_2 rfl hc260) rfl ?_
              refine WL.grun rfl (bool_of rfl hc246) ?_
              refine WL.val (Value.int .i64 (k222 : Int)) _ (op_move hf234) rfl ?_
              refine WL.grun rfl (bool_of rfl hc246) ?_
              refine WL.val (Value.bool (x255 != (k222 : Int))) _ (op_neq rfl rfl) rfl ?_
              refine WL.val (Value.bool (x255 != (k222 : Int))) _ (op_pick_f (evb_of rfl hc246) rfl) rfl ?_
              refine WL.nil ?_
              obtain rfl := Option.some.inj hj248
              exact ⟨rfl, hf231, hf232, hf233, hf234, rfl, hS236⟩
          · intro f249 wd250 hq251
            obtain ⟨hf262, hf263, hf264, hf265, hf266, hS267⟩ := hq251
            refine WL.nil ?_
            show W _ _ _ _ _ _
            refine W.cond x247 hf266 (fun hc268 => ?_) (fun hc268 => ?_)
            · replace hb227 := ip hb227 hc268
              refine W.seq ?_
              refine W.region ?_
              refine WL.val (Value.int .i64 (k222 : Int)) _ (op_move hf265) rfl ?_
              refine WL.litFlat (t := (Ty.i .i64)) (flat_i .i64) [(Value.int .i64 (1 : Int)), (Value.int .i64 (k222 : Int))] [(1 : Int), (k222 : Int)] hS267 sl_25 rfl rfl (fillL rfl ⟨rfl, rfl, rfl, rfl, rfl, rfl, trivial⟩) rfl rfl (litL ⟨⟨rfl, (inR_i64.2 (show (-9223372036854775808 : Int) ≤ 1 ∧ (1 : Int) ≤ 9223372036854775807 from by decide))⟩, ⟨rfl, hr235⟩, trivial⟩) rfl ?_
              intro u270 wd271 hS272 he273
              replace hS272 : St w wd271 [(Ty.sl (Ty.i .i64)).at u215 x214, (Ty.sl (Ty.i .i64)).at u270 ([(1 : Int), (k222 : Int)] : (List Int))] := hS272
              refine WL.val u270 _ (op_assign rfl) rfl ?_
              refine WL.nil ?_
              show W _ _ _ _ _ _
              refine W.ret ?_
              obtain rfl := Option.some.inj hb227
              obtain rfl := hret230 _ rfl
              replace h := onRes_ret h
              obtain rfl := Option.some.inj h
              show FinP _ _ _ _ _ _ _
              exact FinP.ret _ (res1 rfl rfl) ⟨u270, rfl, hS272.ext, (St.out (St.pick hS272 [1] rfl) (Ext.refl _))⟩
            · replace hb227 := inegb hb227 hc268
              refine W.skip ?_
              show W _ _ _ _ _ _
              refine W.region ?_
              refine WL.val (Value.int .i64 (k222 : Int)) _ (op_move hf265) rfl ?_
              refine WL.val (Value.int .i64 (w64 ((k222 : Int) + (1 : Int)))) _ (op_add rfl rfl) rfl ?_
              refine WL.val (Value.int .i64 (w64 ((k222 : Int) + (1 : Int)))) _ (op_assign rfl) rfl ?_
              refine WL.nil ?_
              obtain rfl := Option.some.inj hb227
              show ∃ s, _ = Ctl.next s ∧ _
              exact ⟨_, rfl, hf262, hf263, hf264, (ctr_next hl237 hr1), (ctr_rng hl237 hr1), hS267⟩
        · intro s279 f275 wd276 hs277 hI278
          obtain ⟨⟩ := s279
          replace hI278 : f275 0 = v_t ∧ f275 3 = (Value.int .i64 ((t).length : Int)) ∧ f275 7 = u215 ∧ f275 9 = Value.int .i64 (((t).length : Nat) : Int) ∧ InR .i64 (((t).length : Nat) : Int) ∧ St w wd276 [(Ty.sl (Ty.i .i64)).at u215 x214] := hI278
          obtain ⟨hf280, hf281, hf282, hf283, hr284, hS285⟩ := hI278
          refine W.seq ?_
          refine W.seq ?_
          refine W.region ?_
          refine WL.val (Value.int .i64 (((t).length : Nat) : Int)) _ (op_move hf283) rfl ?_
          refine WL.val (Value.int .i64 ((t).length : Int)) _ (op_move hf281) rfl ?_
          refine WL.val (Value.bool (decide ((((t).length : Nat) : Int) < ((t).length : Int)))) _ (op_lss rfl rfl) rfl ?_
          have hl286 : ¬ (((t).length : Nat) : Int) < ((t).length : Int) := by omega
          refine WL.nil ?_
          show W _ _ _ _ _ _
          refine W.condF (decide ((((t).length : Nat) : Int) < ((t).length : Int))) rfl (decide_eq_false hl286) ?_
          refine W.exit ?_
          show _ = _ ∧ _
          exact ⟨rfl, _, hs277, hf280, hf281, hf282, hS285⟩
      · rintro f287 wd288 ⟨s290, rfl, hq289⟩
        replace h := onRes_fin h
        obtain ⟨⟩ := s290
        replace hq289 : f287 0 = v_t ∧ f287 3 = (Value.int .i64 ((t).length : Int)) ∧ f287 7 = u215 ∧ St w wd288 [(Ty.sl (Ty.i .i64)).at u215 x214] := hq289
        obtain ⟨hf291, hf292, hf293, hS294⟩ := hq289
        show W _ _ _ _ _ _
        refine W.seq ?_
        refine W.seq ?_
        refine W.region ?_
        refine WL.val (Value.int .i64 (0 : Int)) _ (op_assign rfl) rfl ?_
        refine WL.nil ?_
        show W _ _ _ _ _ _
        obtain ⟨res295, hres296, h⟩ := bs h
        refine W.blockLoop (fun fq wq => ∃ s, res295 = Res.fin s ∧ fq 0 = v_t ∧ fq 3 = (Value.int .i64 ((t).length : Int)) ∧ St w wq []) ?_ ?_
        · refine W.forN (fun k (s : Unit) fq wq => fq 0 = v_t ∧ fq 3 = (Value.int .i64 ((t).length : Int)) ∧ fq 7 = u215 ∧ fq 10 = Value.int .i64 (k : Int) ∧ InR .i64 (k : Int) ∧ St w wq [(Ty.sl (Ty.i .i64)).at u215 x214]) hres296 ⟨hf291, hf292, hf293, rfl, (inR_i64.2 (show (-9223372036854775808 : Int) ≤ 0 ∧ (0 : Int) ≤ 9223372036854775807 from by decide)), hS294⟩ ?_ ?_
          · intro k297 s1120 ct298 f299 wd300 hk301 hb302 hI303 hbrk304 hret305
            obtain ⟨⟩ := s1120
            replace hI303 : f299 0 = v_t ∧ f299 3 = (Value.int .i64 ((t).length : Int)) ∧ f299 7 = u215 ∧ f299 10 = Value.int .i64 (k297 : Int) ∧ InR .i64 (k297 : Int) ∧ St w wd300 [(Ty.sl (Ty.i .i64)).at u215 x214] := hI303
            replace hb302 : p_spec_l03Fault_L5 t x214 k297  = some ct298 := hb302
            unfold p_spec_l03Fault_L5 at hb302
            obtain ⟨hf306, hf307, hf308, hf309, hr310, hS311⟩ := hI303
            refine W.seq ?_
            refine W.seq ?_
            refine W.region ?_
            refine WL.val (Value.int .i64 (k297 : Int)) _ (op_move hf309) rfl ?_
            refine WL.val (Value.int .i64 ((t).length : Int)) _ (op_move hf307) rfl ?_
            refine WL.val (Value.bool (decide ((k297 : Int) < ((t).length : Int)))) _ (op_lss rfl rfl) rfl ?_
            have hl312 : (k297 : Int) < ((t).length : Int) := by omega
            refine WL.nil ?_
            show W _ _ _ _ _ _
            refine W.condT (decide ((k297 : Int) < ((t).length : Int))) rfl (decide_eq_true hl312) ?_
            refine W.skip ?_
            show W _ _ _ _ _ _
            refine W.seq ?_
            refine W.block ?_
            refine W.seq ?_
            refine W.region ?_
            refine WL.val (Value.int .i64 (0 : Int)) _ (op_assign rfl) rfl ?_
            refine WL.nil ?_
            show W _ _ _ _ _ _
            obtain ⟨res314, hres315, hb302⟩ := bs hb302
            refine W.blockLoop (fun fq wq => ∃ s, res314 = Res.fin s ∧ fq 0 = v_t ∧ fq 3 = (Value.int .i64 ((t).length : Int)) ∧ fq 7 = u215 ∧ fq 10 = (Value.int .i64 (k297 : Int)) ∧ St w wq [(Ty.sl (Ty.i .i64)).at u215 x214]) ?_ ?_
            · refine W.forN (fun k (s : Unit) fq wq => fq 0 = v_t ∧ fq 3 = (Value.int .i64 ((t).length : Int)) ∧ fq 7 = u215 ∧ fq 10 = (Value.int .i64 (k297 : Int)) ∧ fq 11 = Value.int .i64 (k : Int) ∧ InR .i64 (k : Int) ∧ St w wq [(Ty.sl (Ty.i .i64)).at u215 x214]) hres315 ⟨hf306, hf307, hf308, hf309, rfl, (inR_i64.2 (show (-9223372036854775808 : Int) ≤ 0 ∧ (0 : Int) ≤ 9223372036854775807 from by decide)), hS311⟩ ?_ ?_
              · intro k316 s1096 ct317 f318 wd319 hk320 hb321 hI322 hbrk323 hret324
                obtain ⟨⟩ := s1096
                replace hI322 : f318 0 = v_t ∧ f318 3 = (Value.int .i64 ((t).length : Int)) ∧ f318 7 = u215 ∧ f318 10 = (Value.int .i64 (k297 : Int)) ∧ f318 11 = Value.int .i64 (k316 : Int) ∧ InR .i64 (k316 : Int) ∧ St w wd319 [(Ty.sl (Ty.i .i64)).at u215 x214] := hI322
                replace hb321 : p_spec_l03Fault_L6 t k297 x214 k316  = some ct317 := hb321
                unfold p_spec_l03Fault_L6 at hb321
                obtain ⟨hf325, hf326, hf327, hf328, hf329, hr330, hS331⟩ := hI322
                refine W.seq ?_
                refine W.seq ?_
                refine W.region ?_
                refine WL.val (Value.int .i64 (k316 : Int)) _ (op_move hf329) rfl ?_
                refine WL.val (Value.int .i64 ((t).length : Int)) _ (op_move hf326) rfl ?_
                refine WL.val (Value.bool (decide ((k316 : Int) < ((t).length : Int)))) _ (op_lss rfl rfl) rfl ?_
                have hl332 : (k316 : Int) < ((t).length : Int) := by omega
                refine WL.nil ?_
                show W _ _ _ _ _ _
                refine W.condT (decide ((k316 : Int) < ((t).length : Int))) rfl (decide_eq_true hl332) ?_
                refine W.skip ?_
                show W _ _ _ _ _ _
                refine W.seq ?_
                refine W.block ?_
                refine W.seq ?_
                refine W.region ?_
                refine WL.val (Value.int .i64 (0 : Int)) _ (op_assign rfl) rfl ?_
                refine WL.nil ?_
                show W _ _ _ _ _ _
                obtain ⟨res334, hres335, hb321⟩ := bs hb321
                refine W.blockLoop (fun fq wq => ∃ s, res334 = Res.fin s ∧ fq 0 = v_t ∧ fq 3 = (Value.int .i64 ((t).length : Int)) ∧ fq 7 = u215 ∧ fq 10 = (Value.int .i64 (k297 : Int)) ∧ fq 11 = (Value.int .i64 (k316 : Int)) ∧ St w wq [(Ty.sl (Ty.i .i64)).at u215 x214]) ?_ ?_
                · refine W.forN (fun k (s : Unit) fq wq => fq 0 = v_t ∧ fq 3 = (Value.int .i64 ((t).length : Int)) ∧ fq 7 = u215 ∧ fq 10 = (Value.int .i64 (k297 : Int)) ∧ fq 11 = (Value.int .i64 (k316 : Int)) ∧ fq 12 = Value.int .i64 (k : Int) ∧ InR .i64 (k : Int) ∧ St w wq [(Ty.sl (Ty.i .i64)).at u215 x214]) hres335 ⟨hf325, hf326, hf327, hf328, hf329, rfl, (inR_i64.2 (show (-9223372036854775808 : Int) ≤ 0 ∧ (0 : Int) ≤ 9223372036854775807 from by decide)), hS331⟩ ?_ ?_
                  · intro k336 s1070 ct337 f338 wd339 hk340 hb341 hI342 hbrk343 hret344
                    obtain ⟨⟩ := s1070
                    replace hI342 : f338 0 = v_t ∧ f338 3 = (Value.int .i64 ((t).length : Int)) ∧ f338 7 = u215 ∧ f338 10 = (Value.int .i64 (k297 : Int)) ∧ f338 11 = (Value.int .i64 (k316 : Int)) ∧ f338 12 = Value.int .i64 (k336 : Int) ∧ InR .i64 (k336 : Int) ∧ St w wd339 [(Ty.sl (Ty.i .i64)).at u215 x214] := hI342
                    replace hb341 : p_spec_l03Fault_L7 t k297 k316 x214 k336  = some ct337 := hb341
                    unfold p_spec_l03Fault_L7 at hb341
                    obtain ⟨hf345, hf346, hf347, hf348, hf349, hf350, hr351, hS352⟩ := hI342
                    refine W.seq ?_
                    refine W.seq ?_
                    refine W.region ?_
                    refine WL.val (Value.int .i64 (k336 : Int)) _ (op_move hf350) rfl ?_
                    refine WL.val (Value.int .i64 ((t).length : Int)) _ (op_move hf346) rfl ?_
                    refine WL.val (Value.bool (decide ((k336 : Int) < ((t).length : Int)))) _ (op_lss rfl rfl) rfl ?_
                    have hl353 : (k336 : Int) < ((t).length : Int) := by omega
                    refine WL.nil ?_
                    show W _ _ _ _ _ _
                    refine W.condT (decide ((k336 : Int) < ((t).length : Int))) rfl (decide_eq_true hl353) ?_
                    refine W.skip ?_
                    show W _ _ _ _ _ _
                    refine W.seq ?_
                    refine W.block ?_
                    refine W.seq ?_
                    obtain ⟨x378, hx381, hb341⟩ := bs hb341
                    obtain ⟨ha379, hb380, hx381⟩ := idx_some hx381
                    obtain ⟨u389, hc390, hr391⟩ := repSl.el r_t hx381
                    obtain ⟨x408, hx411, hb341⟩ := bs hb341
                    obtain ⟨ha409, hb410, hx411⟩ := idx_some hx411
                    obtain ⟨u419, hc420, hr421⟩ := repSl.el hr391 hx411
                    obtain ⟨x438, hx441, hb341⟩ := bs hb341
                    obtain ⟨ha439, hb440, hx441⟩ := idx_some hx441
                    obtain ⟨u449, hc450, hr451⟩ := repSl.el hr421 hx441
                    obtain ⟨rfl, hr451⟩ := hr451
                    obtain ⟨x482, hx485, hb341⟩ := bs hb341
                    obtain ⟨ha483, hb484, hx485⟩ := idx_some hx485
                    obtain ⟨u493, hc494, hr495⟩ := repSl.el (St.rep (t := (Ty.sl (Ty.i .i64))) hS352 0 rfl) hx485
                    obtain ⟨rfl, hr495⟩ := hr495
                    obtain ⟨x505, hx508, hb341⟩ := bs hb341
                    obtain ⟨ha506, hb507, hx508⟩ := idx_some hx508
                    obtain ⟨u516, hc517, hr518⟩ := repSl.el r_t hx508
                    obtain ⟨x535, hx538, hb341⟩ := bs hb341
                    obtain ⟨ha536, hb537, hx538⟩ := idx_some hx538
                    obtain ⟨u546, hc547, hr548⟩ := repSl.el hr518 hx538
                    obtain ⟨x565, hx568, hb341⟩ := bs hb341
                    obtain ⟨ha566, hb567, hx568⟩ := idx_some hx568
                    obtain ⟨u576, hc577, hr578⟩ := repSl.el hr548 hx568
                    obtain ⟨rfl, hr578⟩ := hr578
                    obtain ⟨x596, hj597, hb341⟩ := bs hb341
                    refine W.cutCode (fun fq wq => fq 0 = v_t ∧ fq 3 = (Value.int .i64 ((t).length : Int)) ∧ fq 7 = u215 ∧ fq 10 = (Value.int .i64 (k297 : Int)) ∧ fq 11 = (Value.int .i64 (k316 : Int)) ∧ fq 12 = (Value.int .i64 (k336 : Int)) ∧ fq 161 = Value.bool x596 ∧ St w wq [(Ty.sl (Ty.i .i64)).at u215 x214]) ?_ ?_
                    · rcases Bool.eq_false_or_eq_true (x438 != x565) with hc598 | hc598
                      · replace hj597 := ip hj597 hc598
                        refine W.draw mixo 48 [fun v _ => v = v_t, fun v _ => v = (Value.int .i64 (k297 : Int)) ∧ InR .i64 (k297 : Int), fun v _ => v = (Value.pointer (some (elA v_t ((k297 : Int)).toNat))), fun v _ => v = u389, fun v _ => v = (Value.int .i64 (k316 : Int)) ∧ InR .i64 (k316 : Int), fun v _ => v = (Value.pointer (some (elA u389 ((k316 : Int)).toNat))), fun v _ => v = u419, fun v _ => v = (Value.int .i64 (k336 : Int)) ∧ InR .i64 (k336 : Int), fun v _ => v = (Value.pointer (some (elA u419 ((k336 : Int)).toNat))), fun v _ => v = (Value.int .i64 x438) ∧ InR .i64 x438, fun v _ => v = v_t, fun v _ => v = u215, fun v _ => v = (Value.int .i64 (k297 : Int)) ∧ InR .i64 (k297 : Int), fun v _ => v = (Value.pointer (some (elA u215 ((k297 : Int)).toNat))), fun v _ => v = (Value.int .i64 x482) ∧ InR .i64 x482, fun v _ => v = (Value.pointer (some (elA v_t (x482).toNat))), fun v _ => v = u516, fun v _ => v = (Value.int .i64 (k336 : Int)) ∧ InR .i64 (k336 : Int), fun v _ => v = (Value.pointer (some (elA u516 ((k336 : Int)).toNat))), fun v _ => v = u546, fun v _ => v = (Value.int .i64 (k316 : Int)) ∧ InR .i64 (k316 : Int), fun v _ => v = (Value.pointer (some (elA u546 ((k316 : Int)).toNat))), fun v _ => v = (Value.int .i64 x565) ∧ InR .i64 x565, fun v _ => v = (Value.bool (x438 != x565)), fun v _ => v = (Value.bool (x438 != x565)), fun v _ => v = undef, fun v _ => v = undef, fun v _ => v = undef, fun v _ => v = undef, fun v _ => v = undef, fun v _ => v = undef, fun v _ => v = undef, fun v _ => v = undef, fun v _ => v = undef, fun v _ => v = undef, fun v _ => v = undef, fun v _ => v = undef, fun v _ => v = undef, fun v _ => v = undef, fun v _ => v = undef, fun v _ => v = undef, fun v _ => v = undef, fun v _ => v = undef, fun v _ => v = undef, fun v _ => v = undef, fun v _ => v = undef, fun v _ => v = undef, fun v _ => v = undef] (by kernel_rfl) (by kernel_rfl) (stabL ⟨(fun _ _ _ _ h => h), (fun _ _ _ _ h => h), (fun _ _ _ _ h => h), (fun _ _ _ _ h => h), (fun _ _ _ _ h => h), (fun _ _ _ _ h => h), (fun _ _ _ _ h => h), (fun _ _ _ _ h => h), (fun _ _ _ _ h => h), (fun _ _ _ _ h => h), (fun _ _ _ _ h => h), (fun _ _ _ _ h => h), (fun _ _ _ _ h => h), (fun _ _ _ _ h => h), (fun _ _ _ _ h => h), (fun _ _ _ _ h => h), (fun _ _ _ _ h => h), (fun _ _ _ _ h => h), (fun _ _ _ _ h => h), (fun _ _ _ _ h => h), (fun _ _ _ _ h => h), (fun _ _ _ _ h => h), (fun _ _ _ _ h => h), (fun _ _ _ _ h => h), (fun _ _ _ _ h => h), (fun _ _ _ _ h => h), (fun _ _ _ _ h => h), (fun _ _ _ _ h => h), (fun _ _ _ _ h => h), (fun _ _ _ _ h => h), (fun _ _ _ _ h => h), (fun _ _ _ _ h => h), (fun _ _ _ _ h => h), (fun _ _ _ _ h => h), (fun _ _ _ _ h => h), (fun _ _ _ _ h => h), (fun _ _ _ _ h => h), (fun _ _ _ _ h => h), (fun _ _ _ _ h => h), (fun _ _ _ _ h => h), (fun _ _ _ _ h => h), (fun _ _ _ _ h => h), (fun _ _ _ _ h => h), (fun _ _ _ _ h => h), (fun _ _ _ _ h => h), (fun _ _ _ _ h => h), (fun _ _ _ _ h => h), (fun _ _ _ _ h => h), trivial⟩) ⟨?_, ?_, ?_, ?_, ?_, ?_, ?_, ?_, ?_, ?_, ?_, ?_, ?_, ?_, ?_, ?_, ?_, ?_, ?_, ?_, ?_, ?_, ?_, ?_, ?_, ?_, ?_, ?_, ?_, ?_, ?_, ?_, ?_, ?_, ?_, ?_, ?_, ?_, ?_, ?_, ?_, ?_, ?_, ?_, ?_, ?_, ?_, ?_, trivial⟩ ?_
                        · intro f355 wd356 he357 hout358 hphi359
                          have hS360 : St w wd356 [(Ty.sl (Ty.i .i64)).at u215 x214] := St.extend hS352 he357
                          have e361 : f355 0 = v_t := (hout358 0 rfl).trans hf345
                          exact OpY.val v_t wd356 rfl (op_move e361) (Ext.refl _) rfl
                        · intro f362 wd363 he364 hout365 hphi366
                          have hS367 : St w wd363 [(Ty.sl (Ty.i .i64)).at u215 x214] := St.extend hS352 he364
                          have e368 : f362 10 = (Value.int .i64 (k297 : Int)) := (hout365 10 rfl).trans hf348
                          exact OpY.val (Value.int .i64 (k297 : Int)) wd363 rfl (op_move e368) (Ext.refl _) ⟨rfl, hr310⟩
                        · intro f369 wd370 he371 hout372 hphi373
                          have hS374 : St w wd370 [(Ty.sl (Ty.i .i64)).at u215 x214] := St.extend hS352 he371
                          have e375 : f369 112 = v_t := hphi373 0 112 _ rfl rfl rfl
                          obtain ⟨e376, hr377⟩ : f369 113 = (Value.int .i64 (k297 : Int)) ∧ InR .i64 (k297 : Int) := hphi373 1 113 _ rfl rfl rfl
                          exact OpY.val (Value.pointer (some (elA v_t ((k297 : Int)).toNat))) wd370 rfl (op_idx sl_22 (Ty.lift _ hS374.ext r_t) e375 e376 ha379 hb380) (Ext.refl _) rfl
                        · intro f382 wd383 he384 hout385 hphi386
                          have hS387 : St w wd383 [(Ty.sl (Ty.i .i64)).at u215 x214] := St.extend hS352 he384
                          have e388 : f382 114 = (Value.pointer (some (elA v_t ((k297 : Int)).toNat))) := hphi386 2 114 _ rfl rfl rfl
                          exact OpY.val u389 wd383 rfl (op_load one_65 e388 (Ext.cell hS387.ext hc390)) (Ext.refl _) rfl
                        · intro f392 wd393 he394 hout395 hphi396
                          have hS397 : St w wd393 [(Ty.sl (Ty.i .i64)).at u215 x214] := St.extend hS352 he394
                          have e398 : f392 11 = (Value.int .i64 (k316 : Int)) := (hout395 11 rfl).trans hf349
                          exact OpY.val (Value.int .i64 (k316 : Int)) wd393 rfl (op_move e398) (Ext.refl _) ⟨rfl, hr330⟩
                        · intro f399 wd400 he401 hout402 hphi403
                          have hS404 : St w wd400 [(Ty.sl (Ty.i .i64)).at u215 x214] := St.extend hS352 he401
                          have e405 : f399 115 = u389 := hphi403 3 115 _ rfl rfl rfl
                          obtain ⟨e406, hr407⟩ : f399 116 = (Value.int .i64 (k316 : Int)) ∧ InR .i64 (k316 : Int) := hphi403 4 116 _ rfl rfl rfl
                          exact OpY.val (Value.pointer (some (elA u389 ((k316 : Int)).toNat))) wd400 rfl (op_idx sl_65 (Ty.lift _ hS404.ext hr391) e405 e406 ha409 hb410) (Ext.refl _) rfl
                        · intro f412 wd413 he414 hout415 hphi416
                          have hS417 : St w wd413 [(Ty.sl (Ty.i .i64)).at u215 x214] := St.extend hS352 he414
                          have e418 : f412 117 = (Value.pointer (some (elA u389 ((k316 : Int)).toNat))) := hphi416 5 117 _ rfl rfl rfl
                          exact OpY.val u419 wd413 rfl (op_load one_25 e418 (Ext.cell hS417.ext hc420)) (Ext.refl _) rfl
                        · intro f422 wd423 he424 hout425 hphi426
                          have hS427 : St w wd423 [(Ty.sl (Ty.i .i64)).at u215 x214] := St.extend hS352 he424
                          have e428 : f422 12 = (Value.int .i64 (k336 : Int)) := (hout425 12 rfl).trans hf350
                          exact OpY.val (Value.int .i64 (k336 : Int)) wd423 rfl (op_move e428) (Ext.refl _) ⟨rfl, hr351⟩
                        · intro f429 wd430 he431 hout432 hphi433
                          have hS434 : St w wd430 [(Ty.sl (Ty.i .i64)).at u215 x214] := St.extend hS352 he431
                          have e435 : f429 118 = u419 := hphi433 6 118 _ rfl rfl rfl
                          obtain ⟨e436, hr437⟩ : f429 119 = (Value.int .i64 (k336 : Int)) ∧ InR .i64 (k336 : Int) := hphi433 7 119 _ rfl rfl rfl
                          exact OpY.val (Value.pointer (some (elA u419 ((k336 : Int)).toNat))) wd430 rfl (op_idx sl_25 (Ty.lift _ hS434.ext hr421) e435 e436 ha439 hb440) (Ext.refl _) rfl
                        · intro f442 wd443 he444 hout445 hphi446
                          have hS447 : St w wd443 [(Ty.sl (Ty.i .i64)).at u215 x214] := St.extend hS352 he444
                          have e448 : f442 120 = (Value.pointer (some (elA u419 ((k336 : Int)).toNat))) := hphi446 8 120 _ rfl rfl rfl
                          exact OpY.val (Value.int .i64 x438) wd443 rfl (op_load one_2 e448 (Ext.cell hS447.ext hc450)) (Ext.refl _) ⟨rfl, hr451⟩
                        · intro f452 wd453 he454 hout455 hphi456
                          have hS457 : St w wd453 [(Ty.sl (Ty.i .i64)).at u215 x214] := St.extend hS352 he454
                          have e458 : f452 0 = v_t := (hout455 0 rfl).trans hf345
                          exact OpY.val v_t wd453 rfl (op_move e458) (Ext.refl _) rfl
                        · intro f459 wd460 he461 hout462 hphi463
                          have hS464 : St w wd460 [(Ty.sl (Ty.i .i64)).at u215 x214] := St.extend hS352 he461
                          have e465 : f459 7 = u215 := (hout462 7 rfl).trans hf347
                          exact OpY.val u215 wd460 rfl (op_move e465) (Ext.refl _) rfl
                        · intro f466 wd467 he468 hout469 hphi470
                          have hS471 : St w wd467 [(Ty.sl (Ty.i .i64)).at u215 x214] := St.extend hS352 he468
                          have e472 : f466 10 = (Value.int .i64 (k297 : Int)) := (hout469 10 rfl).trans hf348
                          exact OpY.val (Value.int .i64 (k297 : Int)) wd467 rfl (op_move e472) (Ext.refl _) ⟨rfl, hr310⟩
                        · intro f473 wd474 he475 hout476 hphi477
                          have hS478 : St w wd474 [(Ty.sl (Ty.i .i64)).at u215 x214] := St.extend hS352 he475
                          have e479 : f473 123 = u215 := hphi477 11 123 _ rfl rfl rfl
                          obtain ⟨e480, hr481⟩ : f473 124 = (Value.int .i64 (k297 : Int)) ∧ InR .i64 (k297 : Int) := hphi477 12 124 _ rfl rfl rfl
                          exact OpY.val (Value.pointer (some (elA u215 ((k297 : Int)).toNat))) wd474 rfl (op_idx sl_25 (St.rep (t := (Ty.sl (Ty.i .i64))) hS478 0 rfl) e479 e480 ha483 hb484) (Ext.refl _) rfl
                        · intro f486 wd487 he488 hout489 hphi490
                          have hS491 : St w wd487 [(Ty.sl (Ty.i .i64)).at u215 x214] := St.extend hS352 he488
                          have e492 : f486 125 = (Value.pointer (some (elA u215 ((k297 : Int)).toNat))) := hphi490 13 125 _ rfl rfl rfl
                          exact OpY.val (Value.int .i64 x482) wd487 rfl (op_load one_2 e492 (Ext.cell he488 hc494)) (Ext.refl _) ⟨rfl, hr495⟩
                        · intro f496 wd497 he498 hout499 hphi500
                          have hS501 : St w wd497 [(Ty.sl (Ty.i .i64)).at u215 x214] := St.extend hS352 he498
                          have e502 : f496 122 = v_t := hphi500 10 122 _ rfl rfl rfl
                          obtain ⟨e503, hr504⟩ : f496 126 = (Value.int .i64 x482) ∧ InR .i64 x482 := hphi500 14 126 _ rfl rfl rfl
                          exact OpY.val (Value.pointer (some (elA v_t (x482).toNat))) wd497 rfl (op_idx sl_22 (Ty.lift _ hS501.ext r_t) e502 e503 ha506 hb507) (Ext.refl _) rfl
                        · intro f509 wd510 he511 hout512 hphi513
                          have hS514 : St w wd510 [(Ty.sl (Ty.i .i64)).at u215 x214] := St.extend hS352 he511
                          have e515 : f509 127 = (Value.pointer (some (elA v_t (x482).toNat))) := hphi513 15 127 _ rfl rfl rfl
                          exact OpY.val u516 wd510 rfl (op_load one_65 e515 (Ext.cell hS514.ext hc517)) (Ext.refl _) rfl
                        · intro f519 wd520 he521 hout522 hphi523
                          have hS524 : St w wd520 [(Ty.sl (Ty.i .i64)).at u215 x214] := St.extend hS352 he521
                          have e525 : f519 12 = (Value.int .i64 (k336 : Int)) := (hout522 12 rfl).trans hf350
                          exact OpY.val (Value.int .i64 (k336 : Int)) wd520 rfl (op_move e525) (Ext.refl _) ⟨rfl, hr351⟩
                        · intro f526 wd527 he528 hout529 hphi530
                          have hS531 : St w wd527 [(Ty.sl (Ty.i .i64)).at u215 x214] := St.extend hS352 he528
                          have e532 : f526 128 = u516 := hphi530 16 128 _ rfl rfl rfl
                          obtain ⟨e533, hr534⟩ : f526 129 = (Value.int .i64 (k336 : Int)) ∧ InR .i64 (k336 : Int) := hphi530 17 129 _ rfl rfl rfl
                          exact OpY.val (Value.pointer (some (elA u516 ((k336 : Int)).toNat))) wd527 rfl (op_idx sl_65 (Ty.lift _ hS531.ext hr518) e532 e533 ha536 hb537) (Ext.refl _) rfl
                        · intro f539 wd540 he541 hout542 hphi543
                          have hS544 : St w wd540 [(Ty.sl (Ty.i .i64)).at u215 x214] := St.extend hS352 he541
                          have e545 : f539 130 = (Value.pointer (some (elA u516 ((k336 : Int)).toNat))) := hphi543 18 130 _ rfl rfl rfl
                          exact OpY.val u546 wd540 rfl (op_load one_25 e545 (Ext.cell hS544.ext hc547)) (Ext.refl _) rfl
                        · intro f549 wd550 he551 hout552 hphi553
                          have hS554 : St w wd550 [(Ty.sl (Ty.i .i64)).at u215 x214] := St.extend hS352 he551
                          have e555 : f549 11 = (Value.int .i64 (k316 : Int)) := (hout552 11 rfl).trans hf349
                          exact OpY.val (Value.int .i64 (k316 : Int)) wd550 rfl (op_move e555) (Ext.refl _) ⟨rfl, hr330⟩
                        · intro f556 wd557 he558 hout559 hphi560
                          have hS561 : St w wd557 [(Ty.sl (Ty.i .i64)).at u215 x214] := St.extend hS352 he558
                          have e562 : f556 131 = u546 := hphi560 19 131 _ rfl rfl rfl
                          obtain ⟨e563, hr564⟩ : f556 132 = (Value.int .i64 (k316 : Int)) ∧ InR .i64 (k316 : Int) := hphi560 20 132 _ rfl rfl rfl
                          exact OpY.val (Value.pointer (some (elA u546 ((k316 : Int)).toNat))) wd557 rfl (op_idx sl_25 (Ty.lift _ hS561.ext hr548) e562 e563 ha566 hb567) (Ext.refl _) rfl
                        · intro f569 wd570 he571 hout572 hphi573
                          have hS574 : St w wd570 [(Ty.sl (Ty.i .i64)).at u215 x214] := St.extend hS352 he571
                          have e575 : f569 133 = (Value.pointer (some (elA u546 ((k316 : Int)).toNat))) := hphi573 21 133 _ rfl rfl rfl
                          exact OpY.val (Value.int .i64 x565) wd570 rfl (op_load one_2 e575 (Ext.cell hS574.ext hc577)) (Ext.refl _) ⟨rfl, hr578⟩
                        · intro f579 wd580 he581 hout582 hphi583
                          have hS584 : St w wd580 [(Ty.sl (Ty.i .i64)).at u215 x214] := St.extend hS352 he581
                          obtain ⟨e585, hr586⟩ : f579 121 = (Value.int .i64 x438) ∧ InR .i64 x438 := hphi583 9 121 _ rfl rfl rfl
                          obtain ⟨e587, hr588⟩ : f579 134 = (Value.int .i64 x565) ∧ InR .i64 x565 := hphi583 22 134 _ rfl rfl rfl
                          exact OpY.val (Value.bool (x438 != x565)) wd580 rfl (op_neq e585 e587) (Ext.refl _) rfl
                        · intro f589 wd590 he591 hout592 hphi593
                          have hS594 : St w wd590 [(Ty.sl (Ty.i .i64)).at u215 x214] := St.extend hS352 he591
                          have e595 : f589 135 = (Value.bool (x438 != x565)) := hphi593 23 135 _ rfl rfl rfl
                          exact OpY.val (Value.bool (x438 != x565)) wd590 rfl (op_move e595) (Ext.refl _) rfl
                        · intro f599 wd600 he601 hout602 hphi603
                          have e604 : f599 136 = (Value.bool (x438 != x565)) := hphi603 24 136 _ rfl rfl rfl
                          exact OpY.skip (wanted_skip rfl rfl e604 hc598) rfl
                        · intro f605 wd606 he607 hout608 hphi609
                          have e610 : f605 136 = (Value.bool (x438 != x565)) := hphi609 24 136 _ rfl rfl rfl
                          exact OpY.skip (wanted_skip rfl rfl e610 hc598) rfl
                        · intro f611 wd612 he613 hout614 hphi615
                          have e616 : f611 136 = (Value.bool (x438 != x565)) := hphi615 24 136 _ rfl rfl rfl
                          exact OpY.skip (wanted_skip rfl rfl e616 hc598) rfl
                        · intro f617 wd618 he619 hout620 hphi621
                          have e622 : f617 136 = (Value.bool (x438 != x565)) := hphi621 24 136 _ rfl rfl rfl
                          exact OpY.skip (wanted_skip rfl rfl e622 hc598) rfl
                        · intro f623 wd624 he625 hout626 hphi627
                          have e628 : f623 136 = (Value.bool (x438 != x565)) := hphi627 24 136 _ rfl rfl rfl
                          exact OpY.skip (wanted_skip rfl rfl e628 hc598) rfl
                        · intro f629 wd630 he631 hout632 hphi633
                          have e634 : f629 136 = (Value.bool (x438 != x565)) := hphi633 24 136 _ rfl rfl rfl
                          exact OpY.skip (wanted_skip rfl rfl e634 hc598) rfl
                        · intro f635 wd636 he637 hout638 hphi639
                          have e640 : f635 136 = (Value.bool (x438 != x565)) := hphi639 24 136 _ rfl rfl rfl
                          exact OpY.skip (wanted_skip rfl rfl e640 hc598) rfl
                        · intro f641 wd642 he643 hout644 hphi645
                          have e646 : f641 136 = (Value.bool (x438 != x565)) := hphi645 24 136 _ rfl rfl rfl
                          exact OpY.skip (wanted_skip rfl rfl e646 hc598) rfl
                        · intro f647 wd648 he649 hout650 hphi651
                          have e652 : f647 136 = (Value.bool (x438 != x565)) := hphi651 24 136 _ rfl rfl rfl
                          exact OpY.skip (wanted_skip rfl rfl e652 hc598) rfl
                        · intro f653 wd654 he655 hout656 hphi657
                          have e658 : f653 136 = (Value.bool (x438 != x565)) := hphi657 24 136 _ rfl rfl rfl
                          exact OpY.skip (wanted_skip rfl rfl e658 hc598) rfl
                        · intro f659 wd660 he661 hout662 hphi663
                          have e664 : f659 136 = (Value.bool (x438 != x565)) := hphi663 24 136 _ rfl rfl rfl
                          exact OpY.skip (wanted_skip rfl rfl e664 hc598) rfl
                        · intro f665 wd666 he667 hout668 hphi669
                          have e670 : f665 136 = (Value.bool (x438 != x565)) := hphi669 24 136 _ rfl rfl rfl
                          exact OpY.skip (wanted_skip rfl rfl e670 hc598) rfl
                        · intro f671 wd672 he673 hout674 hphi675
                          have e676 : f671 136 = (Value.bool (x438 != x565)) := hphi675 24 136 _ rfl rfl rfl
                          exact OpY.skip (wanted_skip rfl rfl e676 hc598) rfl
                        · intro f677 wd678 he679 hout680 hphi681
                          have e682 : f677 136 = (Value.bool (x438 != x565)) := hphi681 24 136 _ rfl rfl rfl
                          exact OpY.skip (wanted_skip rfl rfl e682 hc598) rfl
                        · intro f683 wd684 he685 hout686 hphi687
                          have e688 : f683 136 = (Value.bool (x438 != x565)) := hphi687 24 136 _ rfl rfl rfl
                          exact OpY.skip (wanted_skip rfl rfl e688 hc598) rfl
                        · intro f689 wd690 he691 hout692 hphi693
                          have e694 : f689 136 = (Value.bool (x438 != x565)) := hphi693 24 136 _ rfl rfl rfl
                          exact OpY.skip (wanted_skip rfl rfl e694 hc598) rfl
                        · intro f695 wd696 he697 hout698 hphi699
                          have e700 : f695 136 = (Value.bool (x438 != x565)) := hphi699 24 136 _ rfl rfl rfl
                          exact OpY.skip (wanted_skip rfl rfl e700 hc598) rfl
                        · intro f701 wd702 he703 hout704 hphi705
                          have e706 : f701 136 = (Value.bool (x438 != x565)) := hphi705 24 136 _ rfl rfl rfl
                          exact OpY.skip (wanted_skip rfl rfl e706 hc598) rfl
                        · intro f707 wd708 he709 hout710 hphi711
                          have e712 : f707 136 = (Value.bool (x438 != x565)) := hphi711 24 136 _ rfl rfl rfl
                          exact OpY.skip (wanted_skip rfl rfl e712 hc598) rfl
                        · intro f713 wd714 he715 hout716 hphi717
                          have e718 : f713 136 = (Value.bool (x438 != x565)) := hphi717 24 136 _ rfl rfl rfl
                          exact OpY.skip (wanted_skip rfl rfl e718 hc598) rfl
                        · intro f719 wd720 he721 hout722 hphi723
                          have e724 : f719 136 = (Value.bool (x438 != x565)) := hphi723 24 136 _ rfl rfl rfl
                          exact OpY.skip (wanted_skip rfl rfl e724 hc598) rfl
                        · intro f725 wd726 he727 hout728 hphi729
                          have e730 : f725 136 = (Value.bool (x438 != x565)) := hphi729 24 136 _ rfl rfl rfl
                          exact OpY.skip (wanted_skip rfl rfl e730 hc598) rfl
                        · intro f731 wd732 he733 hout734 hphi735
                          have e736 : f731 136 = (Value.bool (x438 != x565)) := hphi735 24 136 _ rfl rfl rfl
                          exact OpY.skip (wanted_skip rfl rfl e736 hc598) rfl
                        · intro f737 wd738 he739 hout740 hphi741
                          show WL _ _ _ _ _ _ _
                          have hS742 : St w wd738 [(Ty.sl (Ty.i .i64)).at u215 x214] := St.extend hS352 he739
                          have e743 : f737 136 = (Value.bool (x438 != x565)) := hphi741 24 136 _ (by decide) rfl rfl
                          have e744 : f737 137 = undef := hphi741 25 137 _ (by decide) rfl rfl
                          have e745 : f737 138 = undef := hphi741 26 138 _ (by decide) rfl rfl
                          have e746 : f737 139 = undef := hphi741 27 139 _ (by decide) rfl rfl
                          have e747 : f737 140 = undef := hphi741 28 140 _ (by decide) rfl rfl
                          have e748 : f737 141 = undef := hphi741 29 141 _ (by decide) rfl rfl
                          have e749 : f737 142 = undef := hphi741 30 142 _ (by decide) rfl rfl
                          have e750 : f737 143 = undef := hphi741 31 143 _ (by decide) rfl rfl
                          have e751 : f737 144 = undef := hphi741 32 144 _ (by decide) rfl rfl
                          have e752 : f737 145 = undef := hphi741 33 145 _ (by decide) rfl rfl
                          have e753 : f737 146 = undef := hphi741 34 146 _ (by decide) rfl rfl
                          have e754 : f737 147 = undef := hphi741 35 147 _ (by decide) rfl rfl
                          have e755 : f737 148 = undef := hphi741 36 148 _ (by decide) rfl rfl
                          have e756 : f737 149 = undef := hphi741 37 149 _ (by decide) rfl rfl
                          have e757 : f737 150 = undef := hphi741 38 150 _ (by decide) rfl rfl
                          have e758 : f737 151 = undef := hphi741 39 151 _ (by decide) rfl rfl
                          have e759 : f737 152 = undef := hphi741 40 152 _ (by decide) rfl rfl
                          have e760 : f737 153 = undef := hphi741 41 153 _ (by decide) rfl rfl
                          have e761 : f737 154 = undef := hphi741 42 154 _ (by decide) rfl rfl
                          have e762 : f737 155 = undef := hphi741 43 155 _ (by decide) rfl rfl
                          have e763 : f737 156 = undef := hphi741 44 156 _ (by decide) rfl rfl
                          have e764 : f737 157 = undef := hphi741 45 157 _ (by decide) rfl rfl
                          have e765 : f737 158 = undef := hphi741 46 158 _ (by decide) rfl rfl
                          have e766 : f737 159 = undef := hphi741 47 159 _ (by decide) rfl rfl
                          have e767 : f737 0 = v_t := (hout740 0 rfl).trans hf345
                          have e768 : f737 3 = (Value.int .i64 ((t).length : Int)) := (hout740 3 rfl).trans hf346
                          have e769 : f737 7 = u215 := (hout740 7 rfl).trans hf347
                          have e770 : f737 10 = (Value.int .i64 (k297 : Int)) := (hout740 10 rfl).trans hf348
                          have e771 : f737 11 = (Value.int .i64 (k316 : Int)) := (hout740 11 rfl).trans hf349
                          have e772 : f737 12 = (Value.int .i64 (k336 : Int)) := (hout740 12 rfl).trans hf350
                          refine WL.gskip rfl (bool_of e743 hc598) rfl ?_
                          refine WL.val (Value.bool true) _ (op_pick_t (evb_of e743 hc598) rfl) rfl ?_
                          refine WL.nil ?_
                          obtain rfl := Option.some.inj hj597
                          exact ⟨e767, e768, e769, e770, e771, e772, rfl, hS742⟩
                      · replace hj597 := inegb hj597 hc598
                        obtain ⟨u807, hc808, hr809⟩ := repSl.el r_t hx381
                        obtain ⟨u836, hc837, hr838⟩ := repSl.el hr809 hx411
                        obtain ⟨u865, hc866, hr867⟩ := repSl.el hr838 hx441
                        obtain ⟨rfl, hr867⟩ := hr867
                        obtain ⟨x894, hx897, hj597⟩ := bs hj597
                        obtain ⟨ha895, hb896, hx897⟩ := idx_some hx897
                        obtain ⟨u906, hc907, hr908⟩ := repSl.el r_t hx897
                        obtain ⟨x935, hx938, hj597⟩ := bs hj597
                        obtain ⟨ha936, hb937, hx938⟩ := idx_some hx938
                        obtain ⟨u947, hc948, hr949⟩ := repSl.el (St.rep (t := (Ty.sl (Ty.i .i64))) hS352 0 rfl) hx938
                        obtain ⟨rfl, hr949⟩ := hr949
                        obtain ⟨x960, hx963, hj597⟩ := bs hj597
                        obtain ⟨ha961, hb962, hx963⟩ := idx_some hx963
                        obtain ⟨u972, hc973, hr974⟩ := repSl.el hr908 hx963
                        obtain ⟨x993, hx996, hj597⟩ := bs hj597
                        obtain ⟨ha994, hb995, hx996⟩ := idx_some hx996
                        obtain ⟨u1005, hc1006, hr1007⟩ := repSl.el hr974 hx996
                        obtain ⟨rfl, hr1007⟩ := hr1007
                        refine W.draw mixo 48 [fun v _ => v = v_t, fun v _ => v = (Value.int .i64 (k297 : Int)) ∧ InR .i64 (k297 : Int), fun v _ => v = (Value.pointer (some (elA v_t ((k297 : Int)).toNat))), fun v _ => v = u389, fun v _ => v = (Value.int .i64 (k316 : Int)) ∧ InR .i64 (k316 : Int), fun v _ => v = (Value.pointer (some (elA u389 ((k316 : Int)).toNat))), fun v _ => v = u419, fun v _ => v = (Value.int .i64 (k336 : Int)) ∧ InR .i64 (k336 : Int), fun v _ => v = (Value.pointer (some (elA u419 ((k336 : Int)).toNat))), fun v _ => v = (Value.int .i64 x438) ∧ InR .i64 x438, fun v _ => v = v_t, fun v _ => v = u215, fun v _ => v = (Value.int .i64 (k297 : Int)) ∧ InR .i64 (k297 : Int), fun v _ => v = (Value.pointer (some (elA u215 ((k297 : Int)).toNat))), fun v _ => v = (Value.int .i64 x482) ∧ InR .i64 x482, fun v _ => v = (Value.pointer (some (elA v_t (x482).toNat))), fun v _ => v = u516, fun v _ => v = (Value.int .i64 (k336 : Int)) ∧ InR .i64 (k336 : Int), fun v _ => v = (Value.pointer (some (elA u516 ((k336 : Int)).toNat))), fun v _ => v = u546, fun v _ => v = (Value.int .i64 (k316 : Int)) ∧ InR .i64 (k316 : Int), fun v _ => v = (Value.pointer (some (elA u546 ((k316 : Int)).toNat))), fun v _ => v = (Value.int .i64 x565) ∧ InR .i64 x565, fun v _ => v = (Value.bool (x438 != x565)), fun v _ => v = (Value.bool (x438 != x565)), fun v _ => v = v_t, fun v _ => v = (Value.int .i64 (k297 : Int)) ∧ InR .i64 (k297 : Int), fun v _ => v = (Value.pointer (some (elA v_t ((k297 : Int)).toNat))), fun v _ => v = u807, fun v _ => v = (Value.int .i64 (k316 : Int)) ∧ InR .i64 (k316 : Int), fun v _ => v = (Value.pointer (some (elA u807 ((k316 : Int)).toNat))), fun v _ => v = u836, fun v _ => v = (Value.int .i64 (k336 : Int)) ∧ InR .i64 (k336 : Int), fun v _ => v = (Value.pointer (some (elA u836 ((k336 : Int)).toNat))), fun v _ => v = (Value.int .i64 x438) ∧ InR .i64 x438, fun v _ => v = v_t, fun v _ => v = (Value.int .i64 (k336 : Int)) ∧ InR .i64 (k336 : Int), fun v _ => v = (Value.pointer (some (elA v_t ((k336 : Int)).toNat))), fun v _ => v = u906, fun v _ => v = u215, fun v _ => v = (Value.int .i64 (k316 : Int)) ∧ InR .i64 (k316 : Int), fun v _ => v = (Value.pointer (some (elA u215 ((k316 : Int)).toNat))), fun v _ => v = (Value.int .i64 x935) ∧ InR .i64 x935, fun v _ => v = (Value.pointer (some (elA u906 (x935).toNat))), fun v _ => v = u972, fun v _ => v = (Value.int .i64 (k297 : Int)) ∧ InR .i64 (k297 : Int), fun v _ => v = (Value.pointer (some (elA u972 ((k297 : Int)).toNat))), fun v _ => v = (Value.int .i64 x993) ∧ InR .i64 x993] (by kernel_rfl) (by kernel_rfl) (stabL ⟨(fun _ _ _ _ h => h), (fun _ _ _ _ h => h), (fun _ _ _ _ h => h), (fun _ _ _ _ h => h), (fun _ _ _ _ h => h), (fun _ _ _ _ h => h), (fun _ _ _ _ h => h), (fun _ _ _ _ h => h), (fun _ _ _ _ h => h), (fun _ _ _ _ h => h), (fun _ _ _ _ h => h), (fun _ _ _ _ h => h), (fun _ _ _ _ h => h), (fun _ _ _ _ h => h), (fun _ _ _ _ h => h), (fun _ _ _ _ h => h), (fun _ _ _ _ h => h), (fun _ _ _ _ h => h), (fun _ _ _ _ h => h), (fun _ _ _ _ h => h), (fun _ _ _ _ h => h), (fun _ _ _ _ h => h), (fun _ _ _ _ h => h), (fun _ _ _ _ h => h), (fun _ _ _ _ h => h), (fun _ _ _ _ h => h), (fun _ _ _ _ h => h), (fun _ _ _ _ h => h), (fun _ _ _ _ h => h), (fun _ _ _ _ h => h), (fun _ _ _ _ h => h), (fun _ _ _ _ h => h), (fun _ _ _ _ h => h), (fun _ _ _ _ h => h), (fun _ _ _ _ h => h), (fun _ _ _ _ h => h), (fun _ _ _ _ h => h), (fun _ _ _ _ h => h), (fun _ _ _ _ h => h), (fun _ _ _ _ h => h), (fun _ _ _ _ h => h), (fun _ _ _ _ h => h), (fun _ _ _ _ h => h), (fun _ _ _ _ h => h), (fun _ _ _ _ h => h), (fun _ _ _ _ h => h), (fun _ _ _ _ h => h), (fun _ _ _ _ h => h), trivial⟩) ⟨?_, ?_, ?_, ?_, ?_, ?_, ?_, ?_, ?_, ?_, ?_, ?_, ?_, ?_, ?_, ?_, ?_, ?_, ?_, ?_, ?_, ?_, ?_, ?_, ?_, ?_, ?_, ?_, ?_, ?_, ?_, ?_, ?_, ?_, ?_, ?_, ?_, ?_, ?_, ?_, ?_, ?_, ?_, ?_, ?_, ?_, ?_, ?_, trivial⟩ ?_
                        · intro f355 wd356 he357 hout358 hphi359
                          have hS360 : St w wd356 [(Ty.sl (Ty.i .i64)).at u215 x214] := St.extend hS352 he357
                          have e361 : f355 0 = v_t := (hout358 0 rfl).trans hf345
                          exact OpY.val v_t wd356 rfl (op_move e361) (Ext.refl _) rfl
                        · intro f362 wd363 he364 hout365 hphi366
                          have hS367 : St w wd363 [(Ty.sl (Ty.i .i64)).at u215 x214] := St.extend hS352 he364
                          have e368 : f362 10 = (Value.int .i64 (k297 : Int)) := (hout365 10 rfl).trans hf348
                          exact OpY.val (Value.int .i64 (k297 : Int)) wd363 rfl (op_move e368) (Ext.refl _) ⟨rfl, hr310⟩
                        · intro f369 wd370 he371 hout372 hphi373
                          have hS374 : St w wd370 [(Ty.sl (Ty.i .i64)).at u215 x214] := St.extend hS352 he371
                          have e375 : f369 112 = v_t := hphi373 0 112 _ rfl rfl rfl
                          obtain ⟨e376, hr377⟩ : f369 113 = (Value.int .i64 (k297 : Int)) ∧ InR .i64 (k297 : Int) := hphi373 1 113 _ rfl rfl rfl
                          exact OpY.val (Value.pointer (some (elA v_t ((k297 : Int)).toNat))) wd370 rfl (op_idx sl_22 (Ty.lift _ hS374.ext r_t) e375 e376 ha379 hb380) (Ext.refl _) rfl
                        · intro f382 wd383 he384 hout385 hphi386
                          have hS387 : St w wd383 [(Ty.sl (Ty.i .i64)).at u215 x214] := St.extend hS352 he384
                          have e388 : f382 114 = (Value.pointer (some (elA v_t ((k297 : Int)).toNat))) := hphi386 2 114 _ rfl rfl rfl
                          exact OpY.val u389 wd383 rfl (op_load one_65 e388 (Ext.cell hS387.ext hc390)) (Ext.refl _) rfl
                        · intro f392 wd393 he394 hout395 hphi396
                          have hS397 : St w wd393 [(Ty.sl (Ty.i .i64)).at u215 x214] := St.extend hS352 he394
                          have e398 : f392 11 = (Value.int .i64 (k316 : Int)) := (hout395 11 rfl).trans hf349
                          exact OpY.val (Value.int .i64 (k316 : Int)) wd393 rfl (op_move e398) (Ext.refl _) ⟨rfl, hr330⟩
                        · intro f399 wd400 he401 hout402 hphi403
                          have hS404 : St w wd400 [(Ty.sl (Ty.i .i64)).at u215 x214] := St.extend hS352 he401
                          have e405 : f399 115 = u389 := hphi403 3 115 _ rfl rfl rfl
                          obtain ⟨e406, hr407⟩ : f399 116 = (Value.int .i64 (k316 : Int)) ∧ InR .i64 (k316 : Int) := hphi403 4 116 _ rfl rfl rfl
                          exact OpY.val (Value.pointer (some (elA u389 ((k316 : Int)).toNat))) wd400 rfl (op_idx sl_65 (Ty.lift _ hS404.ext hr391) e405 e406 ha409 hb410) (Ext.refl _) rfl
                        · intro f412 wd413 he414 hout415 hphi416
                          have hS417 : St w wd413 [(Ty.sl (Ty.i .i64)).at u215 x214] := St.extend hS352 he414
                          have e418 : f412 117 = (Value.pointer (some (elA u389 ((k316 : Int)).toNat))) := hphi416 5 117 _ rfl rfl rfl
                          exact OpY.val u419 wd413 rfl (op_load one_25 e418 (Ext.cell hS417.ext hc420)) (Ext.refl _) rfl
                        · intro f422 wd423 he424 hout425 hphi426
                          have hS427 : St w wd423 [(Ty.sl (Ty.i .i64)).at u215 x214] := St.extend hS352 he424
                          have e428 : f422 12 = (Value.int .i64 (k336 : Int)) := (hout425 12 rfl).trans hf350
                          exact OpY.val (Value.int .i64 (k336 : Int)) wd423 rfl (op_move e428) (Ext.refl _) ⟨rfl, hr351⟩
                        · intro f429 wd430 he431 hout432 hphi433
                          have hS434 : St w wd430 [(Ty.sl (Ty.i .i64)).at u215 x214] := St.extend hS352 he431
                          have e435 : f429 118 = u419 := hphi433 6 118 _ rfl rfl rfl
                          obtain ⟨e436, hr437⟩ : f429 119 = (Value.int .i64 (k336 : Int)) ∧ InR .i64 (k336 : Int) := hphi433 7 119 _ rfl rfl rfl
                          exact OpY.val (Value.pointer (some (elA u419 ((k336 : Int)).toNat))) wd430 rfl (op_idx sl_25 (Ty.lift _ hS434.ext hr421) e435 e436 ha439 hb440) (Ext.refl _) rfl
                        · intro f442 wd443 he444 hout445 hphi446
                          have hS447 : St w wd443 [(Ty.sl (Ty.i .i64)).at u215 x214] := St.extend hS352 he444
                          have e448 : f442 120 = (Value.pointer (some (elA u419 ((k336 : Int)).toNat))) := hphi446 8 120 _ rfl rfl rfl
                          exact OpY.val (Value.int .i64 x438) wd443 rfl (op_load one_2 e448 (Ext.cell hS447.ext hc450)) (Ext.refl _) ⟨rfl, hr451⟩
                        · intro f452 wd453 he454 hout455 hphi456
                          have hS457 : St w wd453 [(Ty.sl (Ty.i .i64)).at u215 x214] := St.extend hS352 he454
                          have e458 : f452 0 = v_t := (hout455 0 rfl).trans hf345
                          exact OpY.val v_t wd453 rfl (op_move e458) (Ext.refl _) rfl
                        · intro f459 wd460 he461 hout462 hphi463
                          have hS464 : St w wd460 [(Ty.sl (Ty.i .i64)).at u215 x214] := St.extend hS352 he461
                          have e465 : f459 7 = u215 := (hout462 7 rfl).trans hf347
                          exact OpY.val u215 wd460 rfl (op_move e465) (Ext.refl _) rfl
                        · intro f466 wd467 he468 hout469 hphi470
                          have hS471 : St w wd467 [(Ty.sl (Ty.i .i64)).at u215 x214] := St.extend hS352 he468
                          have e472 : f466 10 = (Value.int .i64 (k297 : Int)) := (hout469 10 rfl).trans hf348
                          exact OpY.val (Value.int .i64 (k297 : Int)) wd467 rfl (op_move e472) (Ext.refl _) ⟨rfl, hr310⟩
                        · intro f473 wd474 he475 hout476 hphi477
                          have hS478 : St w wd474 [(Ty.sl (Ty.i .i64)).at u215 x214] := St.extend hS352 he475
                          have e479 : f473 123 = u215 := hphi477 11 123 _ rfl rfl rfl
                          obtain ⟨e480, hr481⟩ : f473 124 = (Value.int .i64 (k297 : Int)) ∧ InR .i64 (k297 : Int) := hphi477 12 124 _ rfl rfl rfl
                          exact OpY.val (Value.pointer (some (elA u215 ((k297 : Int)).toNat))) wd474 rfl (op_idx sl_25 (St.rep (t := (Ty.sl (Ty.i .i64))) hS478 0 rfl) e479 e480 ha483 hb484) (Ext.refl _) rfl
                        · intro f486 wd487 he488 hout489 hphi490
                          have hS491 : St w wd487 [(Ty.sl (Ty.i .i64)).at u215 x214] := St.extend hS352 he488
                          have e492 : f486 125 = (Value.pointer (some (elA u215 ((k297 : Int)).toNat))) := hphi490 13 125 _ rfl rfl rfl
                          exact OpY.val (Value.int .i64 x482) wd487 rfl (op_load one_2 e492 (Ext.cell he488 hc494)) (Ext.refl _) ⟨rfl, hr495⟩
                        · intro f496 wd497 he498 hout499 hphi500
                          have hS501 : St w wd497 [(Ty.sl (Ty.i .i64)).at u215 x214] := St.extend hS352 he498
                          have e502 : f496 122 = v_t := hphi500 10 122 _ rfl rfl rfl
                          obtain ⟨e503, hr504⟩ : f496 126 = (Value.int .i64 x482) ∧ InR .i64 x482 := hphi500 14 126 _ rfl rfl rfl
                          exact OpY.val (Value.pointer (some (elA v_t (x482).toNat))) wd497 rfl (op_idx sl_22 (Ty.lift _ hS501.ext r_t) e502 e503 ha506 hb507) (Ext.refl _) rfl
                        · intro f509 wd510 he511 hout512 hphi513
                          have hS514 : St w wd510 [(Ty.sl (Ty.i .i64)).at u215 x214] := St.extend hS352 he511
                          have e515 : f509 127 = (Value.pointer (some (elA v_t (x482).toNat))) := hphi513 15 127 _ rfl rfl rfl
                          exact OpY.val u516 wd510 rfl (op_load one_65 e515 (Ext.cell hS514.ext hc517)) (Ext.refl _) rfl
                        · intro f519 wd520 he521 hout522 hphi523
                          have hS524 : St w wd520 [(Ty.sl (Ty.i .i64)).at u215 x214] := St.extend hS352 he521
                          have e525 : f519 12 = (Value.int .i64 (k336 : Int)) := (hout522 12 rfl).trans hf350
                          exact OpY.val (Value.int .i64 (k336 : Int)) wd520 rfl (op_move e525) (Ext.refl _) ⟨rfl, hr351⟩
                        · intro f526 wd527 he528 hout529 hphi530
                          have hS531 : St w wd527 [(Ty.sl (Ty.i .i64)).at u215 x214] := St.extend hS352 he528
                          have e532 : f526 128 = u516 := hphi530 16 128 _ rfl rfl rfl
                          obtain ⟨e533, hr534⟩ : f526 129 = (Value.int .i64 (k336 : Int)) ∧ InR .i64 (k336 : Int) := hphi530 17 129 _ rfl rfl rfl
                          exact OpY.val (Value.pointer (some (elA u516 ((k336 : Int)).toNat))) wd527 rfl (op_idx sl_65 (Ty.lift _ hS531.ext hr518) e532 e533 ha536 hb537) (Ext.refl _) rfl
                        · intro f539 wd540 he541 hout542 hphi543
                          have hS544 : St w wd540 [(Ty.sl (Ty.i .i64)).at u215 x214] := St.extend hS352 he541
                          have e545 : f539 130 = (Value.pointer (some (elA u516 ((k336 : Int)).toNat))) := hphi543 18 130 _ rfl rfl rfl
                          exact OpY.val u546 wd540 rfl (op_load one_25 e545 (Ext.cell hS544.ext hc547)) (Ext.refl _) rfl
                        · intro f549 wd550 he551 hout552 hphi553
                          have hS554 : St w wd550 [(Ty.sl (Ty.i .i64)).at u215 x214] := St.extend hS352 he551
                          have e555 : f549 11 = (Value.int .i64 (k316 : Int)) := (hout552 11 rfl).trans hf349
                          exact OpY.val (Value.int .i64 (k316 : Int)) wd550 rfl (op_move e555) (Ext.refl _) ⟨rfl, hr330⟩
                        · intro f556 wd557 he558 hout559 hphi560
                          have hS561 : St w wd557 [(Ty.sl (Ty.i .i64)).at u215 x214] := St.extend hS352 he558
                          have e562 : f556 131 = u546 := hphi560 19 131 _ rfl rfl rfl
                          obtain ⟨e563, hr564⟩ : f556 132 = (Value.int .i64 (k316 : Int)) ∧ InR .i64 (k316 : Int) := hphi560 20 132 _ rfl rfl rfl
                          exact OpY.val (Value.pointer (some (elA u546 ((k316 : Int)).toNat))) wd557 rfl (op_idx sl_25 (Ty.lift _ hS561.ext hr548) e562 e563 ha566 hb567) (Ext.refl _) rfl
                        · intro f569 wd570 he571 hout572 hphi573
                          have hS574 : St w wd570 [(Ty.sl (Ty.i .i64)).at u215 x214] := St.extend hS352 he571
                          have e575 : f569 133 = (Value.pointer (some (elA u546 ((k316 : Int)).toNat))) := hphi573 21 133 _ rfl rfl rfl
                          exact OpY.val (Value.int .i64 x565) wd570 rfl (op_load one_2 e575 (Ext.cell hS574.ext hc577)) (Ext.refl _) ⟨rfl, hr578⟩
                        · intro f579 wd580 he581 hout582 hphi583
                          have hS584 : St w wd580 [(Ty.sl (Ty.i .i64)).at u215 x214] := St.extend hS352 he581
                          obtain ⟨e585, hr586⟩ : f579 121 = (Value.int .i64 x438) ∧ InR .i64 x438 := hphi583 9 121 _ rfl rfl rfl
                          obtain ⟨e587, hr588⟩ : f579 134 = (Value.int .i64 x565) ∧ InR .i64 x565 := hphi583 22 134 _ rfl rfl rfl
                          exact OpY.val (Value.bool (x438 != x565)) wd580 rfl (op_neq e585 e587) (Ext.refl _) rfl
                        · intro f589 wd590 he591 hout592 hphi593
                          have hS594 : St w wd590 [(Ty.sl (Ty.i .i64)).at u215 x214] := St.extend hS352 he591
                          have e595 : f589 135 = (Value.bool (x438 != x565)) := hphi593 23 135 _ rfl rfl rfl
                          exact OpY.val (Value.bool (x438 != x565)) wd590 rfl (op_move e595) (Ext.refl _) rfl
                        · intro f773 wd774 he775 hout776 hphi777
                          have hS778 : St w wd774 [(Ty.sl (Ty.i .i64)).at u215 x214] := St.extend hS352 he775
                          have e779 : f773 0 = v_t := (hout776 0 rfl).trans hf345
                          have e780 : f773 136 = (Value.bool (x438 != x565)) := hphi777 24 136 _ rfl rfl rfl
                          exact OpY.val v_t wd774 (wanted_run rfl rfl e780 hc598) (op_move e779) (Ext.refl _) rfl
                        · intro f781 wd782 he783 hout784 hphi785
                          have hS786 : St w wd782 [(Ty.sl (Ty.i .i64)).at u215 x214] := St.extend hS352 he783
                          have e787 : f781 10 = (Value.int .i64 (k297 : Int)) := (hout784 10 rfl).trans hf348
                          have e788 : f781 136 = (Value.bool (x438 != x565)) := hphi785 24 136 _ rfl rfl rfl
                          exact OpY.val (Value.int .i64 (k297 : Int)) wd782 (wanted_run rfl rfl e788 hc598) (op_move e787) (Ext.refl _) ⟨rfl, hr310⟩
                        · intro f789 wd790 he791 hout792 hphi793
                          have hS794 : St w wd790 [(Ty.sl (Ty.i .i64)).at u215 x214] := St.extend hS352 he791
                          have e795 : f789 136 = (Value.bool (x438 != x565)) := hphi793 24 136 _ rfl rfl rfl
                          have e796 : f789 137 = v_t := hphi793 25 137 _ rfl rfl rfl
                          obtain ⟨e797, hr798⟩ : f789 138 = (Value.int .i64 (k297 : Int)) ∧ InR .i64 (k297 : Int) := hphi793 26 138 _ rfl rfl rfl
                          exact OpY.val (Value.pointer (some (elA v_t ((k297 : Int)).toNat))) wd790 (wanted_run rfl rfl e795 hc598) (op_idx sl_22 (Ty.lift _ hS794.ext r_t) e796 e797 ha379 hb380) (Ext.refl _) rfl
                        · intro f799 wd800 he801 hout802 hphi803
                          have hS804 : St w wd800 [(Ty.sl (Ty.i .i64)).at u215 x214] := St.extend hS352 he801
                          have e805 : f799 136 = (Value.bool (x438 != x565)) := hphi803 24 136 _ rfl rfl rfl
                          have e806 : f799 139 = (Value.pointer (some (elA v_t ((k297 : Int)).toNat))) := hphi803 27 139 _ rfl rfl rfl
                          exact OpY.val u807 wd800 (wanted_run rfl rfl e805 hc598) (op_load one_65 e806 (Ext.cell hS804.ext hc808)) (Ext.refl _) rfl
                        · intro f810 wd811 he812 hout813 hphi814
                          have hS815 : St w wd811 [(Ty.sl (Ty.i .i64)).at u215 x214] := St.extend hS352 he812
                          have e816 : f810 11 = (Value.int .i64 (k316 : Int)) := (hout813 11 rfl).trans hf349
                          have e817 : f810 136 = (Value.bool (x438 != x565)) := hphi814 24 136 _ rfl rfl rfl
                          exact OpY.val (Value.int .i64 (k316 : Int)) wd811 (wanted_run rfl rfl e817 hc598) (op_move e816) (Ext.refl _) ⟨rfl, hr330⟩
                        · intro f818 wd819 he820 hout821 hphi822
                          have hS823 : St w wd819 [(Ty.sl (Ty.i .i64)).at u215 x214] := St.extend hS352 he820
                          have e824 : f818 136 = (Value.bool (x438 != x565)) := hphi822 24 136 _ rfl rfl rfl
                          have e825 : f818 140 = u807 := hphi822 28 140 _ rfl rfl rfl
                          obtain ⟨e826, hr827⟩ : f818 141 = (Value.int .i64 (k316 : Int)) ∧ InR .i64 (k316 : Int) := hphi822 29 141 _ rfl rfl rfl
                          exact OpY.val (Value.pointer (some (elA u807 ((k316 : Int)).toNat))) wd819 (wanted_run rfl rfl e824 hc598) (op_idx sl_65 (Ty.lift _ hS823.ext hr809) e825 e826 ha409 hb410) (Ext.refl _) rfl
                        · intro f828 wd829 he830 hout831 hphi832
                          have hS833 : St w wd829 [(Ty.sl (Ty.i .i64)).at u215 x214] := St.extend hS352 he830
                          have e834 : f828 136 = (Value.bool (x438 != x565)) := hphi832 24 136 _ rfl rfl rfl
                          have e835 : f828 142 = (Value.pointer (some (elA u807 ((k316 : Int)).toNat))) := hphi832 30 142 _ rfl rfl rfl
                          exact OpY.val u836 wd829 (wanted_run rfl rfl e834 hc598) (op_load one_25 e835 (Ext.cell hS833.ext hc837)) (Ext.refl _) rfl
                        · intro f839 wd840 he841 hout842 hphi843
                          have hS844 : St w wd840 [(Ty.sl (Ty.i .i64)).at u215 x214] := St.extend hS352 he841
                          have e845 : f839 12 = (Value.int .i64 (k336 : Int)) := (hout842 12 rfl).trans hf350
                          have e846 : f839 136 = (Value.bool (x438 != x565)) := hphi843 24 136 _ rfl rfl rfl
                          exact OpY.val (Value.int .i64 (k336 : Int)) wd840 (wanted_run rfl rfl e846 hc598) (op_move e845) (Ext.refl _) ⟨rfl, hr351⟩
                        · intro f847 wd848 he849 hout850 hphi851
                          have hS852 : St w wd848 [(Ty.sl (Ty.i .i64)).at u215 x214] := St.extend hS352 he849
                          have e853 : f847 136 = (Value.bool (x438 != x565)) := hphi851 24 136 _ rfl rfl rfl
                          have e854 : f847 143 = u836 := hphi851 31 143 _ rfl rfl rfl
                          obtain ⟨e855, hr856⟩ : f847 144 = (Value.int .i64 (k336 : Int)) ∧ InR .i64 (k336 : Int) := hphi851 32 144 _ rfl rfl rfl
                          exact OpY.val (Value.pointer (some (elA u836 ((k336 : Int)).toNat))) wd848 (wanted_run rfl rfl e853 hc598) (op_idx sl_25 (Ty.lift _ hS852.ext hr838) e854 e855 ha439 hb440) (Ext.refl _) rfl
                        · intro f857 wd858 he859 hout860 hphi861
                          have hS862 : St w wd858 [(Ty.sl (Ty.i .i64)).at u215 x214] := St.extend hS352 he859
                          have e863 : f857 136 = (Value.bool (x438 != x565)) := hphi861 24 136 _ rfl rfl rfl
                          have e864 : f857 145 = (Value.pointer (some (elA u836 ((k336 : Int)).toNat))) := hphi861 33 145 _ rfl rfl rfl
                          exact OpY.val (Value.int .i64 x438) wd858 (wanted_run rfl rfl e863 hc598) (op_load one_2 e864 (Ext.cell hS862.ext hc866)) (Ext.refl _) ⟨rfl, hr867⟩
                        · intro f868 wd869 he870 hout871 hphi872
                          have hS873 : St w wd869 [(Ty.sl (Ty.i .i64)).at u215 x214] := St.extend hS352 he870
                          have e874 : f868 0 = v_t := (hout871 0 rfl).trans hf345
                          have e875 : f868 136 = (Value.bool (x438 != x565)) := hphi872 24 136 _ rfl rfl rfl
                          exact OpY.val v_t wd869 (wanted_run rfl rfl e875 hc598) (op_move e874) (Ext.refl _) rfl
                        · intro f876 wd877 he878 hout879 hphi880
                          have hS881 : St w wd877 [(Ty.sl (Ty.i .i64)).at u215 x214] := St.extend hS352 he878
                          have e882 : f876 12 = (Value.int .i64 (k336 : Int)) := (hout879 12 rfl).trans hf350
                          have e883 : f876 136 = (Value.bool (x438 != x565)) := hphi880 24 136 _ rfl rfl rfl
                          exact OpY.val (Value.int .i64 (k336 : Int)) wd877 (wanted_run rfl rfl e883 hc598) (op_move e882) (Ext.refl _) ⟨rfl, hr351⟩
                        · intro f884 wd885 he886 hout887 hphi888
                          have hS889 : St w wd885 [(Ty.sl (Ty.i .i64)).at u215 x214] := St.extend hS352 he886
                          have e890 : f884 136 = (Value.bool (x438 != x565)) := hphi888 24 136 _ rfl rfl rfl
                          have e891 : f884 147 = v_t := hphi888 35 147 _ rfl rfl rfl
                          obtain ⟨e892, hr893⟩ : f884 148 = (Value.int .i64 (k336 : Int)) ∧ InR .i64 (k336 : Int) := hphi888 36 148 _ rfl rfl rfl
                          exact OpY.val (Value.pointer (some (elA v_t ((k336 : Int)).toNat))) wd885 (wanted_run rfl rfl e890 hc598) (op_idx sl_22 (Ty.lift _ hS889.ext r_t) e891 e892 ha895 hb896) (Ext.refl _) rfl
                        · intro f898 wd899 he900 hout901 hphi902
                          have hS903 : St w wd899 [(Ty.sl (Ty.i .i64)).at u215 x214] := St.extend hS352 he900
                          have e904 : f898 136 = (Value.bool (x438 != x565)) := hphi902 24 136 _ rfl rfl rfl
                          have e905 : f898 149 = (Value.pointer (some (elA v_t ((k336 : Int)).toNat))) := hphi902 37 149 _ rfl rfl rfl
                          exact OpY.val u906 wd899 (wanted_run rfl rfl e904 hc598) (op_load one_65 e905 (Ext.cell hS903.ext hc907)) (Ext.refl _) rfl
                        · intro f909 wd910 he911 hout912 hphi913
                          have hS914 : St w wd910 [(Ty.sl (Ty.i .i64)).at u215 x214] := St.extend hS352 he911
                          have e915 : f909 7 = u215 := (hout912 7 rfl).trans hf347
                          have e916 : f909 136 = (Value.bool (x438 != x565)) := hphi913 24 136 _ rfl rfl rfl
                          exact OpY.val u215 wd910 (wanted_run rfl rfl e916 hc598) (op_move e915) (Ext.refl _) rfl
                        · intro f917 wd918 he919 hout920 hphi921
                          have hS922 : St w wd918 [(Ty.sl (Ty.i .i64)).at u215 x214] := St.extend hS352 he919
                          have e923 : f917 11 = (Value.int .i64 (k316 : Int)) := (hout920 11 rfl).trans hf349
                          have e924 : f917 136 = (Value.bool (x438 != x565)) := hphi921 24 136 _ rfl rfl rfl
                          exact OpY.val (Value.int .i64 (k316 : Int)) wd918 (wanted_run rfl rfl e924 hc598) (op_move e923) (Ext.refl _) ⟨rfl, hr330⟩
                        · intro f925 wd926 he927 hout928 hphi929
                          have hS930 : St w wd926 [(Ty.sl (Ty.i .i64)).at u215 x214] := St.extend hS352 he927
                          have e931 : f925 136 = (Value.bool (x438 != x565)) := hphi929 24 136 _ rfl rfl rfl
                          have e932 : f925 151 = u215 := hphi929 39 151 _ rfl rfl rfl
                          obtain ⟨e933, hr934⟩ : f925 152 = (Value.int .i64 (k316 : Int)) ∧ InR .i64 (k316 : Int) := hphi929 40 152 _ rfl rfl rfl
                          exact OpY.val (Value.pointer (some (elA u215 ((k316 : Int)).toNat))) wd926 (wanted_run rfl rfl e931 hc598) (op_idx sl_25 (St.rep (t := (Ty.sl (Ty.i .i64))) hS930 0 rfl) e932 e933 ha936 hb937) (Ext.refl _) rfl
                        · intro f939 wd940 he941 hout942 hphi943
                          have hS944 : St w wd940 [(Ty.sl (Ty.i .i64)).at u215 x214] := St.extend hS352 he941
                          have e945 : f939 136 = (Value.bool (x438 != x565)) := hphi943 24 136 _ rfl rfl rfl
                          have e946 : f939 153 = (Value.pointer (some (elA u215 ((k316 : Int)).toNat))) := hphi943 41 153 _ rfl rfl rfl
                          exact OpY.val (Value.int .i64 x935) wd940 (wanted_run rfl rfl e945 hc598) (op_load one_2 e946 (Ext.cell he941 hc948)) (Ext.refl _) ⟨rfl, hr949⟩
                        · intro f950 wd951 he952 hout953 hphi954
                          have hS955 : St w wd951 [(Ty.sl (Ty.i .i64)).at u215 x214] := St.extend hS352 he952
                          have e956 : f950 136 = (Value.bool (x438 != x565)) := hphi954 24 136 _ rfl rfl rfl
                          have e957 : f950 150 = u906 := hphi954 38 150 _ rfl rfl rfl
                          obtain ⟨e958, hr959⟩ : f950 154 = (Value.int .i64 x935) ∧ InR .i64 x935 := hphi954 42 154 _ rfl rfl rfl
                          exact OpY.val (Value.pointer (some (elA u906 (x935).toNat))) wd951 (wanted_run rfl rfl e956 hc598) (op_idx sl_65 (Ty.lift _ hS955.ext hr908) e957 e958 ha961 hb962) (Ext.refl _) rfl
                        · intro f964 wd965 he966 hout967 hphi968
                          have hS969 : St w wd965 [(Ty.sl (Ty.i .i64)).at u215 x214] := St.extend hS352 he966
                          have e970 : f964 136 = (Value.bool (x438 != x565)) := hphi968 24 136 _ rfl rfl rfl
                          have e971 : f964 155 = (Value.pointer (some (elA u906 (x935).toNat))) := hphi968 43 155 _ rfl rfl rfl
                          exact OpY.val u972 wd965 (wanted_run rfl rfl e970 hc598) (op_load one_25 e971 (Ext.cell hS969.ext hc973)) (Ext.refl _) rfl
                        · intro f975 wd976 he977 hout978 hphi979
                          have hS980 : St w wd976 [(Ty.sl (Ty.i .i64)).at u215 x214] := St.extend hS352 he977
                          have e981 : f975 10 = (Value.int .i64 (k297 : Int)) := (hout978 10 rfl).trans hf348
                          have e982 : f975 136 = (Value.bool (x438 != x565)) := hphi979 24 136 _ rfl rfl rfl
                          exact OpY.val (Value.int .i64 (k297 : Int)) wd976 (wanted_run rfl rfl e982 hc598) (op_move e981) (Ext.refl _) ⟨rfl, hr310⟩
                        · intro f983 wd984 he985 hout986 hphi987
                          have hS988 : St w wd984 [(Ty.sl (Ty.i .i64)).at u215 x214] := St.extend hS352 he985
                          have e989 : f983 136 = (Value.bool (x438 != x565)) := hphi987 24 136 _ rfl rfl rfl
                          have e990 : f983 156 = u972 := hphi987 44 156 _ rfl rfl rfl
                          obtain ⟨e991, hr992⟩ : f983 157 = (Value.int .i64 (k297 : Int)) ∧ InR .i64 (k297 : Int) := hphi987 45 157 _ rfl rfl rfl
                          exact OpY.val (Value.pointer (some (elA u972 ((k297 : Int)).toNat))) wd984 (wanted_run rfl rfl e989 hc598) (op_idx sl_25 (Ty.lift _ hS988.ext hr974) e990 e991 ha994 hb995) (Ext.refl _) rfl
                        · intro f997 wd998 he999 hout1000 hphi1001
                          have hS1002 : St w wd998 [(Ty.sl (Ty.i .i64)).at u215 x214] := St.extend hS352 he999
                          have e1003 : f997 136 = (Value.bool (x438 != x565)) := hphi1001 24 136 _ rfl rfl rfl
                          have e1004 : f997 158 = (Value.pointer (some (elA u972 ((k297 : Int)).toNat))) := hphi1001 46 158 _ rfl rfl rfl
                          exact OpY.val (Value.int .i64 x993) wd998 (wanted_run rfl rfl e1003 hc598) (op_load one_2 e1004 (Ext.cell hS1002.ext hc1006)) (Ext.refl _) ⟨rfl, hr1007⟩
                        · intro f1008 wd1009 he1010 hout1011 hphi1012
                          show WL _ _ _ _ _ _ _
                          have hS1013 : St w wd1009 [(Ty.sl (Ty.i .i64)).at u215 x214] := St.extend hS352 he1010
                          have e1014 : f1008 136 = (Value.bool (x438 != x565)) := hphi1012 24 136 _ (by decide) rfl rfl
                          have e1015 : f1008 137 = v_t := hphi1012 25 137 _ (by decide) rfl rfl
                          obtain ⟨e1016, hr1017⟩ : f1008 138 = (Value.int .i64 (k297 : Int)) ∧ InR .i64 (k297 : Int) := hphi1012 26 138 _ (by decide) rfl rfl
                          have e1018 : f1008 139 = (Value.pointer (some (elA v_t ((k297 : Int)).toNat))) := hphi1012 27 139 _ (by decide) rfl rfl
                          have e1019 : f1008 140 = u807 := hphi1012 28 140 _ (by decide) rfl rfl
                          obtain ⟨e1020, hr1021⟩ : f1008 141 = (Value.int .i64 (k316 : Int)) ∧ InR .i64 (k316 : Int) := hphi1012 29 141 _ (by decide) rfl rfl
                          have e1022 : f1008 142 = (Value.pointer (some (elA u807 ((k316 : Int)).toNat))) := hphi1012 30 142 _ (by decide) rfl rfl
                          have e1023 : f1008 143 = u836 := hphi1012 31 143 _ (by decide) rfl rfl
                          obtain ⟨e1024, hr1025⟩ : f1008 144 = (Value.int .i64 (k336 : Int)) ∧ InR .i64 (k336 : Int) := hphi1012 32 144 _ (by decide) rfl rfl
                          have e1026 : f1008 145 = (Value.pointer (some (elA u836 ((k336 : Int)).toNat))) := hphi1012 33 145 _ (by decide) rfl rfl
                          obtain ⟨e1027, hr1028⟩ : f1008 146 = (Value.int .i64 x438) ∧ InR .i64 x438 := hphi1012 34 146 _ (by decide) rfl rfl
                          have e1029 : f1008 147 = v_t := hphi1012 35 147 _ (by decide) rfl rfl
                          obtain ⟨e1030, hr1031⟩ : f1008 148 = (Value.int .i64 (k336 : Int)) ∧ InR .i64 (k336 : Int) := hphi1012 36 148 _ (by decide) rfl rfl
                          have e1032 : f1008 149 = (Value.pointer (some (elA v_t ((k336 : Int)).toNat))) := hphi1012 37 149 _ (by decide) rfl rfl
                          have e1033 : f1008 150 = u906 := hphi1012 38 150 _ (by decide) rfl rfl
                          have e1034 : f1008 151 = u215 := hphi1012 39 151 _ (by decide) rfl rfl
                          obtain ⟨e1035, hr1036⟩ : f1008 152 = (Value.int .i64 (k316 : Int)) ∧ InR .i64 (k316 : Int) := hphi1012 40 152 _ (by decide) rfl rfl
                          have e1037 : f1008 153 = (Value.pointer (some (elA u215 ((k316 : Int)).toNat))) := hphi1012 41 153 _ (by decide) rfl rfl
                          obtain ⟨e1038, hr1039⟩ : f1008 154 = (Value.int .i64 x935) ∧ InR .i64 x935 := hphi1012 42 154 _ (by decide) rfl rfl
                          have e1040 : f1008 155 = (Value.pointer (some (elA u906 (x935).toNat))) := hphi1012 43 155 _ (by decide) rfl rfl
                          have e1041 : f1008 156 = u972 := hphi1012 44 156 _ (by decide) rfl rfl
                          obtain ⟨e1042, hr1043⟩ : f1008 157 = (Value.int .i64 (k297 : Int)) ∧ InR .i64 (k297 : Int) := hphi1012 45 157 _ (by decide) rfl rfl
                          have e1044 : f1008 158 = (Value.pointer (some (elA u972 ((k297 : Int)).toNat))) := hphi1012 46 158 _ (by decide) rfl rfl
                          obtain ⟨e1045, hr1046⟩ : f1008 159 = (Value.int .i64 x993) ∧ InR .i64 x993 := hphi1012 47 159 _ (by decide) rfl rfl
                          have e1047 : f1008 0 = v_t := (hout1011 0 rfl).trans hf345
                          have e1048 : f1008 3 = (Value.int .i64 ((t).length : Int)) := (hout1011 3 rfl).trans hf346
                          have e1049 : f1008 7 = u215 := (hout1011 7 rfl).trans hf347
                          have e1050 : f1008 10 = (Value.int .i64 (k297 : Int)) := (hout1011 10 rfl).trans hf348
                          have e1051 : f1008 11 = (Value.int .i64 (k316 : Int)) := (hout1011 11 rfl).trans hf349
                          have e1052 : f1008 12 = (Value.int .i64 (k336 : Int)) := (hout1011 12 rfl).trans hf350
                          refine WL.grun rfl (bool_of e1014 hc598) ?_
                          refine WL.val (Value.bool (x438 != x993)) _ (op_neq e1027 e1045) rfl ?_
                          refine WL.val (Value.bool (x438 != x993)) _ (op_pick_f (evb_of e1014 hc598) rfl) rfl ?_
                          refine WL.nil ?_
                          obtain rfl := Option.some.inj hj597
                          exact ⟨e1047, e1048, e1049, e1050, e1051, e1052, rfl, hS1013⟩
                    · intro f1053 wd1054 hq1055
                      obtain ⟨hf1056, hf1057, hf1058, hf1059, hf1060, hf1061, hf1062, hS1063⟩ := hq1055
                      show W _ _ _ _ _ _
                      refine W.cond x596 hf1062 (fun hc1064 => ?_) (fun hc1064 => ?_)
                      · replace hb341 := ip hb341 hc1064
                        refine W.seq ?_
                        refine W.region ?_
                        refine WL.val (Value.int .i64 (k297 : Int)) _ (op_move hf1059) rfl ?_
                        refine WL.val (Value.int .i64 (k316 : Int)) _ (op_move hf1060) rfl ?_
                        refine WL.val (Value.int .i64 (k336 : Int)) _ (op_move hf1061) rfl ?_
                        refine WL.litFlat (t := (Ty.i .i64)) (flat_i .i64) [(Value.int .i64 (2 : Int)), (Value.int .i64 (k297 : Int)), (Value.int .i64 (k316 : Int)), (Value.int .i64 (k336 : Int))] [(2 : Int), (k297 : Int), (k316 : Int), (k336 : Int)] hS1063 sl_25 rfl rfl (fillL rfl ⟨rfl, rfl, rfl, rfl, rfl, rfl, rfl, rfl, rfl, rfl, rfl, rfl, trivial⟩) rfl rfl (litL ⟨⟨rfl, (inR_i64.2 (show (-9223372036854775808 : Int) ≤ 2 ∧ (2 : Int) ≤ 9223372036854775807 from by decide))⟩, ⟨rfl, hr310⟩, ⟨rfl, hr330⟩, ⟨rfl, hr351⟩, trivial⟩) rfl ?_
                        intro u1066 wd1067 hS1068 he1069
                        replace hS1068 : St w wd1067 [(Ty.sl (Ty.i .i64)).at u215 x214, (Ty.sl (Ty.i .i64)).at u1066 ([(2 : Int), (k297 : Int), (k316 : Int), (k336 : Int)] : (List Int))] := hS1068
                        refine WL.val u1066 _ (op_assign rfl) rfl ?_
                        refine WL.nil ?_
                        show W _ _ _ _ _ _
                        refine W.ret ?_
                        obtain rfl := Option.some.inj hb341
                        obtain rfl := hret344 _ rfl
                        replace hb321 := onRes_ret hb321
                        obtain rfl := Option.some.inj hb321
                        obtain rfl := hret324 _ rfl
                        replace hb302 := onRes_ret hb302
                        obtain rfl := Option.some.inj hb302
                        obtain rfl := hret305 _ rfl
                        replace h := onRes_ret h
                        obtain rfl := Option.some.inj h
                        show FinP _ _ _ _ _ _ _
                        exact FinP.ret _ (res1 rfl rfl) ⟨u1066, rfl, hS1068.ext, (St.out (St.pick hS1068 [1] rfl) (Ext.refl _))⟩
                      · replace hb341 := inegb hb341 hc1064
                        refine W.skip ?_
                        show W _ _ _ _ _ _
                        refine W.region ?_
                        refine WL.val (Value.int .i64 (k336 : Int)) _ (op_move hf1061) rfl ?_
                        refine WL.val (Value.int .i64 (w64 ((k336 : Int) + (1 : Int)))) _ (op_add rfl rfl) rfl ?_
                        refine WL.val (Value.int .i64 (w64 ((k336 : Int) + (1 : Int)))) _ (op_assign rfl) rfl ?_
                        refine WL.nil ?_
                        obtain rfl := Option.some.inj hb341
                        show ∃ s, _ = Ctl.next s ∧ _
                        exact ⟨_, rfl, hf1056, hf1057, hf1058, hf1059, hf1060, (ctr_next hl353 hr1), (ctr_rng hl353 hr1), hS1063⟩
                  · intro s1075 f1071 wd1072 hs1073 hI1074
                    obtain ⟨⟩ := s1075
                    replace hI1074 : f1071 0 = v_t ∧ f1071 3 = (Value.int .i64 ((t).length : Int)) ∧ f1071 7 = u215 ∧ f1071 10 = (Value.int .i64 (k297 : Int)) ∧ f1071 11 = (Value.int .i64 (k316 : Int)) ∧ f1071 12 = Value.int .i64 (((t).length : Nat) : Int) ∧ InR .i64 (((t).length : Nat) : Int) ∧ St w wd1072 [(Ty.sl (Ty.i .i64)).at u215 x214] := hI1074
                    obtain ⟨hf1076, hf1077, hf1078, hf1079, hf1080, hf1081, hr1082, hS1083⟩ := hI1074
                    refine W.seq ?_
                    refine W.seq ?_
                    refine W.region ?_
                    refine WL.val (Value.int .i64 (((t).length : Nat) : Int)) _ (op_move hf1081) rfl ?_
                    refine WL.val (Value.int .i64 ((t).length : Int)) _ (op_move hf1077) rfl ?_
                    refine WL.val (Value.bool (decide ((((t).length : Nat) : Int) < ((t).length : Int)))) _ (op_lss rfl rfl) rfl ?_
                    have hl1084 : ¬ (((t).length : Nat) : Int) < ((t).length : Int) := by omega
                    refine WL.nil ?_
                    show W _ _ _ _ _ _
                    refine W.condF (decide ((((t).length : Nat) : Int) < ((t).length : Int))) rfl (decide_eq_false hl1084) ?_
                    refine W.exit ?_
                    show _ = _ ∧ _
                    exact ⟨rfl, _, hs1073, hf1076, hf1077, hf1078, hf1079, hf1080, hS1083⟩
                · rintro f1085 wd1086 ⟨s1088, rfl, hq1087⟩
                  replace hb321 := onRes_fin hb321
                  obtain ⟨⟩ := s1088
                  replace hq1087 : f1085 0 = v_t ∧ f1085 3 = (Value.int .i64 ((t).length : Int)) ∧ f1085 7 = u215 ∧ f1085 10 = (Value.int .i64 (k297 : Int)) ∧ f1085 11 = (Value.int .i64 (k316 : Int)) ∧ St w wd1086 [(Ty.sl (Ty.i .i64)).at u215 x214] := hq1087
                  obtain ⟨hf1089, hf1090, hf1091, hf1092, hf1093, hS1094⟩ := hq1087
                  show W _ _ _ _ _ _
                  refine W.region ?_
                  refine WL.val (Value.int .i64 (k316 : Int)) _ (op_move hf1093) rfl ?_
                  refine WL.val (Value.int .i64 (w64 ((k316 : Int) + (1 : Int)))) _ (op_add rfl rfl) rfl ?_
                  refine WL.val (Value.int .i64 (w64 ((k316 : Int) + (1 : Int)))) _ (op_assign rfl) rfl ?_
                  refine WL.nil ?_
                  obtain rfl := Option.some.inj hb321
                  show ∃ s, _ = Ctl.next s ∧ _
                  exact ⟨_, rfl, hf1089, hf1090, hf1091, hf1092, (ctr_next hl332 hr1), (ctr_rng hl332 hr1), hS1094⟩
              · intro s1101 f1097 wd1098 hs1099 hI1100
                obtain ⟨⟩ := s1101
                replace hI1100 : f1097 0 = v_t ∧ f1097 3 = (Value.int .i64 ((t).length : Int)) ∧ f1097 7 = u215 ∧ f1097 10 = (Value.int .i64 (k297 : Int)) ∧ f1097 11 = Value.int .i64 (((t).length : Nat) : Int) ∧ InR .i64 (((t).length : Nat) : Int) ∧ St w wd1098 [(Ty.sl (Ty.i .i64)).at u215 x214] := hI1100
                obtain ⟨hf1102, hf1103, hf1104, hf1105, hf1106, hr1107, hS1108⟩ := hI1100
                refine W.seq ?_
                refine W.seq ?_
                refine W.region ?_
                refine WL.val (Value.int .i64 (((t).length : Nat) : Int)) _ (op_move hf1106) rfl ?_
                refine WL.val (Value.int .i64 ((t).length : Int)) _ (op_move hf1103) rfl ?_
                refine WL.val (Value.bool (decide ((((t).length : Nat) : Int) < ((t).length : Int)))) _ (op_lss rfl rfl) rfl ?_
                have hl1109 : ¬ (((t).length : Nat) : Int) < ((t).length : Int) := by omega
                refine WL.nil ?_
                show W _ _ _ _ _ _
                refine W.condF (decide ((((t).length : Nat) : Int) < ((t).length : Int))) rfl (decide_eq_false hl1109) ?_
                refine W.exit ?_
                show _ = _ ∧ _
                exact ⟨rfl, _, hs1099, hf1102, hf1103, hf1104, hf1105, hS1108⟩
            · rintro f1110 wd1111 ⟨s1113, rfl, hq1112⟩
              replace hb302 := onRes_fin hb302
              obtain ⟨⟩ := s1113
              replace hq1112 : f1110 0 = v_t ∧ f1110 3 = (Value.int .i64 ((t).length : Int)) ∧ f1110 7 = u215 ∧ f1110 10 = (Value.int .i64 (k297 : Int)) ∧ St w wd1111 [(Ty.sl (Ty.i .i64)).at u215 x214] := hq1112
              obtain ⟨hf1114, hf1115, hf1116, hf1117, hS1118⟩ := hq1112
              show W _ _ _ _ _ _
              refine W.region ?_
              refine WL.val (Value.int .i64 (k297 : Int)) _ (op_move hf1117) rfl ?_
              refine WL.val (Value.int .i64 (w64 ((k297 : Int) + (1 : Int)))) _ (op_add rfl rfl) rfl ?_
              refine WL.val (Value.int .i64 (w64 ((k297 : Int) + (1 : Int)))) _ (op_assign rfl) rfl ?_
              refine WL.nil ?_
              obtain rfl := Option.some.inj hb302
              show ∃ s, _ = Ctl.next s ∧ _
              exact ⟨_, rfl, hf1114, hf1115, hf1116, (ctr_next hl312 hr1), (ctr_rng hl312 hr1), hS1118⟩
          · intro s1125 f1121 wd1122 hs1123 hI1124
            obtain ⟨⟩ := s1125
            replace hI1124 : f1121 0 = v_t ∧ f1121 3 = (Value.int .i64 ((t).length : Int)) ∧ f1121 7 = u215 ∧ f1121 10 = Value.int .i64 (((t).length : Nat) : Int) ∧ InR .i64 (((t).length : Nat) : Int) ∧ St w wd1122 [(Ty.sl (Ty.i .i64)).at u215 x214] := hI1124
            obtain ⟨hf1126, hf1127, hf1128, hf1129, hr1130, hS1131⟩ := hI1124
            refine W.seq ?_
            refine W.seq ?_
            refine W.region ?_
            refine WL.val (Value.int .i64 (((t).length : Nat) : Int)) _ (op_move hf1129) rfl ?_
            refine WL.val (Value.int .i64 ((t).length : Int)) _ (op_move hf1127) rfl ?_
            refine WL.val (Value.bool (decide ((((t).length : Nat) : Int) < ((t).length : Int)))) _ (op_lss rfl rfl) rfl ?_
            have hl1132 : ¬ (((t).length : Nat) : Int) < ((t).length : Int) := by omega
            refine WL.nil ?_
            show W _ _ _ _ _ _
            refine W.condF (decide ((((t).length : Nat) : Int) < ((t).length : Int))) rfl (decide_eq_false hl1132) ?_
            refine W.exit ?_
            show _ = _ ∧ _
            exact ⟨rfl, _, hs1123, hf1126, hf1127, (St.pick hS1131 [] rfl)⟩
        · rintro f1133 wd1134 ⟨s1136, rfl, hq1135⟩
          replace h := onRes_fin h
          obtain ⟨⟩ := s1136
          replace hq1135 : f1133 0 = v_t ∧ f1133 3 = (Value.int .i64 ((t).length : Int)) ∧ St w wd1134 [] := hq1135
          obtain ⟨hf1137, hf1138, hS1139⟩ := hq1135
          show W _ _ _ _ _ _
          refine W.seq ?_
          refine W.seq ?_
          refine W.region ?_
          refine WL.val (Value.int .i64 (0 : Int)) _ (op_assign rfl) rfl ?_
          refine WL.nil ?_
          show W _ _ _ _ _ _
          obtain ⟨res1140, hres1141, h⟩ := bs h
          refine W.blockLoop (fun fq wq => ∃ s, res1140 = Res.fin s ∧ St w wq []) ?_ ?_
          · refine W.forN (fun k (s : Unit) fq wq => fq 0 = v_t ∧ fq 3 = (Value.int .i64 ((t).length : Int)) ∧ fq 13 = Value.int .i64 (k : Int) ∧ InR .i64 (k : Int) ∧ St w wq []) hres1141 ⟨hf1137, hf1138, rfl, (inR_i64.2 (show (-9223372036854775808 : Int) ≤ 0 ∧ (0 : Int) ≤ 9223372036854775807 from by decide)), hS1139⟩ ?_ ?_
            · intro k1142 s1818 ct1143 f1144 wd1145 hk1146 hb1147 hI1148 hbrk1149 hret1150
              obtain ⟨⟩ := s1818
              replace hI1148 : f1144 0 = v_t ∧ f1144 3 = (Value.int .i64 ((t).length : Int)) ∧ f1144 13 = Value.int .i64 (k1142 : Int) ∧ InR .i64 (k1142 : Int) ∧ St w wd1145 [] := hI1148
              replace hb1147 : p_spec_l03Fault_L8 t k1142  = some ct1143 := hb1147
              unfold p_spec_l03Fault_L8 at hb1147
              obtain ⟨hf1151, hf1152, hf1153, hr1154, hS1155⟩ := hI1148
              refine W.seq ?_
              refine W.seq ?_
              refine W.region ?_
              refine WL.val (Value.int .i64 (k1142 : Int)) _ (op_move hf1153) rfl ?_
              refine WL.val (Value.int .i64 ((t).length : Int)) _ (op_move hf1152) rfl ?_
              refine WL.val (Value.bool (decide ((k1142 : Int) < ((t).length : Int)))) _ (op_lss rfl rfl) rfl ?_
              have hl1156 : (k1142 : Int) < ((t).length : Int) := by omega
              refine WL.nil ?_
              show W _ _ _ _ _ _
              refine W.condT (decide ((k1142 : Int) < ((t).length : Int))) rfl (decide_eq_true hl1156) ?_
              refine W.skip ?_
              show W _ _ _ _ _ _
              refine W.seq ?_
              refine W.block ?_
              refine W.seq ?_
              refine W.region ?_
              refine WL.val (Value.int .i64 (0 : Int)) _ (op_assign rfl) rfl ?_
              refine WL.nil ?_
              show W _ _ _ _ _ _
              obtain ⟨res1158, hres1159, hb1147⟩ := bs hb1147
              refine W.blockLoop (fun fq wq => ∃ s, res1158 = Res.fin s ∧ fq 0 = v_t ∧ fq 3 = (Value.int .i64 ((t).length : Int)) ∧ fq 13 = (Value.int .i64 (k1142 : Int)) ∧ St w wq []) ?_ ?_
              · refine W.forN (fun k (s : Unit) fq wq => fq 0 = v_t ∧ fq 3 = (Value.int .i64 ((t).length : Int)) ∧ fq 13 = (Value.int .i64 (k1142 : Int)) ∧ fq 14 = Value.int .i64 (k : Int) ∧ InR .i64 (k : Int) ∧ St w wq []) hres1159 ⟨hf1151, hf1152, hf1153, rfl, (inR_i64.2 (show (-9223372036854775808 : Int) ≤ 0 ∧ (0 : Int) ≤ 9223372036854775807 from by decide)), hS1155⟩ ?_ ?_
                · intro k1160 s1796 ct1161 f1162 wd1163 hk1164 hb1165 hI1166 hbrk1167 hret1168
                  obtain ⟨⟩ := s1796
                  replace hI1166 : f1162 0 = v_t ∧ f1162 3 = (Value.int .i64 ((t).length : Int)) ∧ f1162 13 = (Value.int .i64 (k1142 : Int)) ∧ f1162 14 = Value.int .i64 (k1160 : Int) ∧ InR .i64 (k1160 : Int) ∧ St w wd1163 [] := hI1166
                  replace hb1165 : p_spec_l03Fault_L9 t k1142 k1160  = some ct1161 := hb1165
                  unfold p_spec_l03Fault_L9 at hb1165
                  obtain ⟨hf1169, hf1170, hf1171, hf1172, hr1173, hS1174⟩ := hI1166
                  refine W.seq ?_
                  refine W.seq ?_
                  refine W.region ?_
                  refine WL.val (Value.int .i64 (k1160 : Int)) _ (op_move hf1172) rfl ?_
                  refine WL.val (Value.int .i64 ((t).length : Int)) _ (op_move hf1170) rfl ?_
                  refine WL.val (Value.bool (decide ((k1160 : Int) < ((t).length : Int)))) _ (op_lss rfl rfl) rfl ?_
                  have hl1175 : (k1160 : Int) < ((t).length : Int) := by omega
                  refine WL.nil ?_
                  show W _ _ _ _ _ _
                  refine W.condT (decide ((k1160 : Int) < ((t).length : Int))) rfl (decide_eq_true hl1175) ?_
                  refine W.skip ?_
                  show W _ _ _ _ _ _
                  refine W.seq ?_
                  refine W.block ?_
                  refine W.seq ?_
                  refine W.region ?_
                  refine WL.val (Value.int .i64 (0 : Int)) _ (op_assign rfl) rfl ?_
                  refine WL.nil ?_
                  show W _ _ _ _ _ _
                  obtain ⟨res1177, hres1178, hb1165⟩ := bs hb1165
                  refine W.blockLoop (fun fq wq => ∃ s, res1177 = Res.fin s ∧ fq 0 = v_t ∧ fq 3 = (Value.int .i64 ((t).length : Int)) ∧ fq 13 = (Value.int .i64 (k1142 : Int)) ∧ fq 14 = (Value.int .i64 (k1160 : Int)) ∧ St w wq []) ?_ ?_
                  · refine W.forN (fun k (s : Unit) fq wq => fq 0 = v_t ∧ fq 3 = (Value.int .i64 ((t).length : Int)) ∧ fq 13 = (Value.int .i64 (k1142 : Int)) ∧ fq 14 = (Value.int .i64 (k1160 : Int)) ∧ fq 15 = Value.int .i64 (k : Int) ∧ InR .i64 (k : Int) ∧ St w wq []) hres1178 ⟨hf1169, hf1170, hf1171, hf1172, rfl, (inR_i64.2 (show (-9223372036854775808 : Int) ≤ 0 ∧ (0 : Int) ≤ 9223372036854775807 from by decide)), hS1174⟩ ?_ ?_
                    · intro k1179 s1772 ct1180 f1181 wd1182 hk1183 hb1184 hI1185 hbrk1186 hret1187
                      obtain ⟨⟩ := s1772
                      replace hI1185 : f1181 0 = v_t ∧ f1181 3 = (Value.int .i64 ((t).length : Int)) ∧ f1181 13 = (Value.int .i64 (k1142 : Int)) ∧ f1181 14 = (Value.int .i64 (k1160 : Int)) ∧ f1181 15 = Value.int .i64 (k1179 : Int) ∧ InR .i64 (k1179 : Int) ∧ St w wd1182 [] := hI1185
                      replace hb1184 : p_spec_l03Fault_L10 t k1142 k1160 k1179  = some ct1180 := hb1184
                      unfold p_spec_l03Fault_L10 at hb1184
                      obtain ⟨hf1188, hf1189, hf1190, hf1191, hf1192, hr1193, hS1194⟩ := hI1185
                      refine W.seq ?_
                      refine W.seq ?_
                      refine W.region ?_
                      refine WL.val (Value.int .i64 (k1179 : Int)) _ (op_move hf1192) rfl ?_
                      refine WL.val (Value.int .i64 ((t).length : Int)) _ (op_move hf1189) rfl ?_
                      refine WL.val (Value.bool (decide ((k1179 : Int) < ((t).length : Int)))) _ (op_lss rfl rfl) rfl ?_
                      have hl1195 : (k1179 : Int) < ((t).length : Int) := by omega
                      refine WL.nil ?_
                      show W _ _ _ _ _ _
                      refine W.condT (decide ((k1179 : Int) < ((t).length : Int))) rfl (decide_eq_true hl1195) ?_
                      refine W.skip ?_
                      show W _ _ _ _ _ _
                      refine W.seq ?_
                      refine W.block ?_
                      refine W.seq ?_
                      refine W.region ?_
                      refine WL.val (Value.int .i64 (0 : Int)) _ (op_assign rfl) rfl ?_
                      refine WL.nil ?_
                      show W _ _ _ _ _ _
                      obtain ⟨res1197, hres1198, hb1184⟩ := bs hb1184
                      refine W.blockLoop (fun fq wq => ∃ s, res1197 = Res.fin s ∧ fq 0 = v_t ∧ fq 3 = (Value.int .i64 ((t).length : Int)) ∧ fq 13 = (Value.int .i64 (k1142 : Int)) ∧ fq 14 = (Value.int .i64 (k1160 : Int)) ∧ fq 15 = (Value.int .i64 (k1179 : Int)) ∧ St w wq []) ?_ ?_
                      · refine W.forN (fun k (s : Unit) fq wq => fq 0 = v_t ∧ fq 3 = (Value.int .i64 ((t).length : Int)) ∧ fq 13 = (Value.int .i64 (k1142 : Int)) ∧ fq 14 = (Value.int .i64 (k1160 : Int)) ∧ fq 15 = (Value.int .i64 (k1179 : Int)) ∧ fq 16 = Value.int .i64 (k : Int) ∧ InR .i64 (k : Int) ∧ St w wq []) hres1198 ⟨hf1188, hf1189, hf1190, hf1191, hf1192, rfl, (inR_i64.2 (show (-9223372036854775808 : Int) ≤ 0 ∧ (0 : Int) ≤ 9223372036854775807 from by decide)), hS1194⟩ ?_ ?_
                        · intro k1199 s1746 ct1200 f1201 wd1202 hk1203 hb1204 hI1205 hbrk1206 hret1207
                          obtain ⟨⟩ := s1746
                          replace hI1205 : f1201 0 = v_t ∧ f1201 3 = (Value.int .i64 ((t).length : Int)) ∧ f1201 13 = (Value.int .i64 (k1142 : Int)) ∧ f1201 14 = (Value.int .i64 (k1160 : Int)) ∧ f1201 15 = (Value.int .i64 (k1179 : Int)) ∧ f1201 16 = Value.int .i64 (k1199 : Int) ∧ InR .i64 (k1199 : Int) ∧ St w wd1202 [] := hI1205
                          replace hb1204 : p_spec_l03Fault_L11 t k1142 k1160 k1179 k1199  = some ct1200 := hb1204
                          unfold p_spec_l03Fault_L11 at hb1204
                          obtain ⟨hf1208, hf1209, hf1210, hf1211, hf1212, hf1213, hr1214, hS1215⟩ := hI1205
                          refine W.seq ?_
                          refine W.seq ?_
                          refine W.region ?_
                          refine WL.val (Value.int .i64 (k1199 : Int)) _ (op_move hf1213) rfl ?_
                          refine WL.val (Value.int .i64 ((t).length : Int)) _ (op_move hf1209) rfl ?_
                          refine WL.val (Value.bool (decide ((k1199 : Int) < ((t).length : Int)))) _ (op_lss rfl rfl) rfl ?_
                          have hl1216 : (k1199 : Int) < ((t).length : Int) := by omega
                          refine WL.nil ?_
                          show W _ _ _ _ _ _
                          refine W.condT (decide ((k1199 : Int) < ((t).length : Int))) rfl (decide_eq_true hl1216) ?_
                          refine W.skip ?_
                          show W _ _ _ _ _ _
                          refine W.seq ?_
                          refine W.block ?_
                          refine W.seq ?_
                          refine W.region ?_
                          refine WL.val (Value.int .i64 (0 : Int)) _ (op_assign rfl) rfl ?_
                          refine WL.val (Value.int .i64 (0 : Int)) _ (op_assign rfl) rfl ?_
                          refine WL.nil ?_
                          show W _ _ _ _ _ _
                          refine W.seq ?_
                          refine W.seq ?_
                          refine W.region ?_
                          refine WL.val (Value.int .i64 (0 : Int)) _ (op_assign rfl) rfl ?_
                          refine WL.nil ?_
                          show W _ _ _ _ _ _
                          obtain ⟨res1218, hres1219, hb1204⟩ := bs hb1204
                          refine W.blockLoop (fun fq wq => ∃ s, res1218 = Res.fin s ∧ fq 0 = v_t ∧ fq 3 = (Value.int .i64 ((t).length : Int)) ∧ fq 13 = (Value.int .i64 (k1142 : Int)) ∧ fq 14 = (Value.int .i64 (k1160 : Int)) ∧ fq 15 = (Value.int .i64 (k1179 : Int)) ∧ fq 16 = (Value.int .i64 (k1199 : Int)) ∧ fq 17 = Value.int .i64 s.1 ∧ InR .i64 s.1 ∧ fq 18 = Value.int .i64 s.2 ∧ InR .i64 s.2 ∧ St w wq []) ?_ ?_
                          · refine W.forN (fun k (s : Int × Int) fq wq => fq 0 = v_t ∧ fq 3 = (Value.int .i64 ((t).length : Int)) ∧ fq 13 = (Value.int .i64 (k1142 : Int)) ∧ fq 14 = (Value.int .i64 (k1160 : Int)) ∧ fq 15 = (Value.int .i64 (k1179 : Int)) ∧ fq 16 = (Value.int .i64 (k1199 : Int)) ∧ fq 17 = Value.int .i64 s.1 ∧ InR .i64 s.1 ∧ fq 18 = Value.int .i64 s.2 ∧ InR .i64 s.2 ∧ fq 19 = Value.int .i64 (k : Int) ∧ InR .i64 (k : Int) ∧ St w wq []) hres1219 ⟨hf1208, hf1209, hf1210, hf1211, hf1212, hf1213, rfl, (inR_i64.2 (show (-9223372036854775808 : Int) ≤ 0 ∧ (0 : Int) ≤ 9223372036854775807 from by decide)), rfl, (inR_i64.2 (show (-9223372036854775808 : Int) ≤ 0 ∧ (0 : Int) ≤ 9223372036854775807 from by decide)), rfl, (inR_i64.2 (show (-9223372036854775808 : Int) ≤ 0 ∧ (0 : Int) ≤ 9223372036854775807 from by decide)), hS1215⟩ ?_ ?_
                            · intro k1220 s1700 ct1223 f1224 wd1225 hk1226 hb1227 hI1228 hbrk1229 hret1230
                              obtain ⟨x1221, x1222⟩ := s1700
                              replace hI1228 : f1224 0 = v_t ∧ f1224 3 = (Value.int .i64 ((t).length : Int)) ∧ f1224 13 = (Value.int .i64 (k1142 : Int)) ∧ f1224 14 = (Value.int .i64 (k1160 : Int)) ∧ f1224 15 = (Value.int .i64 (k1179 : Int)) ∧ f1224 16 = (Value.int .i64 (k1199 : Int)) ∧ f1224 17 = Value.int .i64 x1221 ∧ InR .i64 x1221 ∧ f1224 18 = Value.int .i64 x1222 ∧ InR .i64 x1222 ∧ f1224 19 = Value.int .i64 (k1220 : Int) ∧ InR .i64 (k1220 : Int) ∧ St w wd1225 [] := hI1228
                              replace hb1227 : p_spec_l03Fault_L12 t k1142 k1160 k1179 k1199 k1220 x1221 x1222 = some ct1223 := hb1227
                              unfold p_spec_l03Fault_L12 at hb1227
                              obtain ⟨hf1231, hf1232, hf1233, hf1234, hf1235, hf1236, hf1237, hr1238, hf1239, hr1240, hf1241, hr1242, hS1243⟩ := hI1228
                              refine W.seq ?_
                              refine W.seq ?_
                              refine W.region ?_
                              refine WL.val (Value.int .i64 (k1220 : Int)) _ (op_move hf1241) rfl ?_
                              refine WL.val (Value.int .i64 ((t).length : Int)) _ (op_move hf1232) rfl ?_
                              refine WL.val (Value.bool (decide ((k1220 : Int) < ((t).length : Int)))) _ (op_lss rfl rfl) rfl ?_
                              have hl1244 : (k1220 : Int) < ((t).length : Int) := by omega
                              refine WL.nil ?_
                              show W _ _ _ _ _ _
                              refine W.condT (decide ((k1220 : Int) < ((t).length : Int))) rfl (decide_eq_true hl1244) ?_
                              refine W.skip ?_
                              show W _ _ _ _ _ _
                              refine W.seq ?_
                              refine W.block ?_
                              refine W.seq ?_
                              obtain ⟨x1276, hx1279, hb1227⟩ := bs hb1227
                              obtain ⟨ha1277, hb1278, hx1279⟩ := idx_some hx1279
                              obtain ⟨u1287, hc1288, hr1289⟩ := repSl.el r_t hx1279
                              obtain ⟨x1306, hx1309, hb1227⟩ := bs hb1227
                              obtain ⟨ha1307, hb1308, hx1309⟩ := idx_some hx1309
                              obtain ⟨u1317, hc1318, hr1319⟩ := repSl.el hr1289 hx1309
                              obtain ⟨x1336, hx1339, hb1227⟩ := bs hb1227
                              obtain ⟨ha1337, hb1338, hx1339⟩ := idx_some hx1339
                              obtain ⟨u1347, hc1348, hr1349⟩ := repSl.el hr1319 hx1339
                              obtain ⟨rfl, hr1349⟩ := hr1349
                              obtain ⟨x1373, hx1376, hb1227⟩ := bs hb1227
                              obtain ⟨ha1374, hb1375, hx1376⟩ := idx_some hx1376
                              obtain ⟨u1384, hc1385, hr1386⟩ := repSl.el r_t hx1376
                              obtain ⟨x1403, hx1406, hb1227⟩ := bs hb1227
                              obtain ⟨ha1404, hb1405, hx1406⟩ := idx_some hx1406
                              obtain ⟨u1414, hc1415, hr1416⟩ := repSl.el hr1386 hx1406
                              obtain ⟨x1433, hx1436, hb1227⟩ := bs hb1227
                              obtain ⟨ha1434, hb1435, hx1436⟩ := idx_some hx1436
                              obtain ⟨u1444, hc1445, hr1446⟩ := repSl.el hr1416 hx1436
                              obtain ⟨rfl, hr1446⟩ := hr1446
                              refine W.draw mixo 22 [fun v _ => v = (Value.int .i64 x1221) ∧ InR .i64 x1221, fun v _ => v = v_t, fun v _ => v = (Value.int .i64 (k1142 : Int)) ∧ InR .i64 (k1142 : Int), fun v _ => v = (Value.pointer (some (elA v_t ((k1142 : Int)).toNat))), fun v _ => v = u1287, fun v _ => v = (Value.int .i64 (k1160 : Int)) ∧ InR .i64 (k1160 : Int), fun v _ => v = (Value.pointer (some (elA u1287 ((k1160 : Int)).toNat))), fun v _ => v = u1317, fun v _ => v = (Value.int .i64 (k1220 : Int)) ∧ InR .i64 (k1220 : Int), fun v _ => v = (Value.pointer (some (elA u1317 ((k1220 : Int)).toNat))), fun v _ => v = (Value.int .i64 x1336) ∧ InR .i64 x1336, fun v _ => v = v_t, fun v _ => v = (Value.int .i64 (k1220 : Int)) ∧ InR .i64 (k1220 : Int), fun v _ => v = (Value.pointer (some (elA v_t ((k1220 : Int)).toNat))), fun v _ => v = u1384, fun v _ => v = (Value.int .i64 (k1179 : Int)) ∧ InR .i64 (k1179 : Int), fun v _ => v = (Value.pointer (some (elA u1384 ((k1179 : Int)).toNat))), fun v _ => v = u1414, fun v _ => v = (Value.int .i64 (k1199 : Int)) ∧ InR .i64 (k1199 : Int), fun v _ => v = (Value.pointer (some (elA u1414 ((k1199 : Int)).toNat))), fun v _ => v = (Value.int .i64 x1433) ∧ InR .i64 x1433, fun v _ => v = (Value.int .i64 (w64 (x1336 * x1433))) ∧ InR .i64 (w64 (x1336 * x1433))] (by kernel_rfl) (by kernel_rfl) (stabL ⟨(fun _ _ _ _ h => h), (fun _ _ _ _ h => h), (fun _ _ _ _ h => h), (fun _ _ _ _ h => h), (fun _ _ _ _ h => h), (fun _ _ _ _ h => h), (fun _ _ _ _ h => h), (fun _ _ _ _ h => h), (fun _ _ _ _ h => h), (fun _ _ _ _ h => h), (fun _ _ _ _ h => h), (fun _ _ _ _ h => h), (fun _ _ _ _ h => h), (fun _ _ _ _ h => h), (fun _ _ _ _ h => h), (fun _ _ _ _ h => h), (fun _ _ _ _ h => h), (fun _ _ _ _ h => h), (fun _ _ _ _ h => h), (fun _ _ _ _ h => h), (fun _ _ _ _ h => h), (fun _ _ _ _ h => h), trivial⟩) ⟨?_, ?_, ?_, ?_, ?_, ?_, ?_, ?_, ?_, ?_, ?_, ?_, ?_, ?_, ?_, ?_, ?_, ?_, ?_, ?_, ?_, ?_, trivial⟩ ?_
                              · intro f1246 wd1247 he1248 hout1249 hphi1250
                                have hS1251 : St w wd1247 [] := St.extend hS1243 he1248
                                have e1252 : f1246 17 = (Value.int .i64 x1221) := (hout1249 17 rfl).trans hf1237
                                exact OpY.val (Value.int .i64 x1221) wd1247 rfl (op_move e1252) (Ext.refl _) ⟨rfl, hr1238⟩
                              · intro f1253 wd1254 he1255 hout1256 hphi1257
                                have hS1258 : St w wd1254 [] := St.extend hS1243 he1255
                                have e1259 : f1253 0 = v_t := (hout1256 0 rfl).trans hf1231
                                exact OpY.val v_t wd1254 rfl (op_move e1259) (Ext.refl _) rfl
                              · intro f1260 wd1261 he1262 hout1263 hphi1264
                                have hS1265 : St w wd1261 [] := St.extend hS1243 he1262
                                have e1266 : f1260 13 = (Value.int .i64 (k1142 : Int)) := (hout1263 13 rfl).trans hf1233
                                exact OpY.val (Value.int .i64 (k1142 : Int)) wd1261 rfl (op_move e1266) (Ext.refl _) ⟨rfl, hr1154⟩
                              · intro f1267 wd1268 he1269 hout1270 hphi1271
                                have hS1272 : St w wd1268 [] := St.extend hS1243 he1269
                                have e1273 : f1267 192 = v_t := hphi1271 1 192 _ rfl rfl rfl
                                obtain ⟨e1274, hr1275⟩ : f1267 193 = (Value.int .i64 (k1142 : Int)) ∧ InR .i64 (k1142 : Int) := hphi1271 2 193 _ rfl rfl rfl
                                exact OpY.val (Value.pointer (some (elA v_t ((k1142 : Int)).toNat))) wd1268 rfl (op_idx sl_22 (Ty.lift _ hS1272.ext r_t) e1273 e1274 ha1277 hb1278) (Ext.refl _) rfl
                              · intro f1280 wd1281 he1282 hout1283 hphi1284
                                have hS1285 : St w wd1281 [] := St.extend hS1243 he1282
                                have e1286 : f1280 194 = (Value.pointer (some (elA v_t ((k1142 : Int)).toNat))) := hphi1284 3 194 _ rfl rfl rfl
                                exact OpY.val u1287 wd1281 rfl (op_load one_65 e1286 (Ext.cell hS1285.ext hc1288)) (Ext.refl _) rfl
                              · intro f1290 wd1291 he1292 hout1293 hphi1294
                                have hS1295 : St w wd1291 [] := St.extend hS1243 he1292
                                have e1296 : f1290 14 = (Value.int .i64 (k1160 : Int)) := (hout1293 14 rfl).trans hf1234
                                exact OpY.val (Value.int .i64 (k1160 : Int)) wd1291 rfl (op_move e1296) (Ext.refl _) ⟨rfl, hr1173⟩
                              · intro f1297 wd1298 he1299 hout1300 hphi1301
                                have hS1302 : St w wd1298 [] := St.extend hS1243 he1299
                                have e1303 : f1297 195 = u1287 := hphi1301 4 195 _ rfl rfl rfl
                                obtain ⟨e1304, hr1305⟩ : f1297 196 = (Value.int .i64 (k1160 : Int)) ∧ InR .i64 (k1160 : Int) := hphi1301 5 196 _ rfl rfl rfl
                                exact OpY.val (Value.pointer (some (elA u1287 ((k1160 : Int)).toNat))) wd1298 rfl (op_idx sl_65 (Ty.lift _ hS1302.ext hr1289) e1303 e1304 ha1307 hb1308) (Ext.refl _) rfl
                              · intro f1310 wd1311 he1312 hout1313 hphi1314
                                have hS1315 : St w wd1311 [] := St.extend hS1243 he1312
                                have e1316 : f1310 197 = (Value.pointer (some (elA u1287 ((k1160 : Int)).toNat))) := hphi1314 6 197 _ rfl rfl rfl
                                exact OpY.val u1317 wd1311 rfl (op_load one_25 e1316 (Ext.cell hS1315.ext hc1318)) (Ext.refl _) rfl
                              · intro f1320 wd1321 he1322 hout1323 hphi1324
                                have hS1325 : St w wd1321 [] := St.extend hS1243 he1322
                                have e1326 : f1320 19 = (Value.int .i64 (k1220 : Int)) := (hout1323 19 rfl).trans hf1241
                                exact OpY.val (Value.int .i64 (k1220 : Int)) wd1321 rfl (op_move e1326) (Ext.refl _) ⟨rfl, hr1242⟩
                              · intro f1327 wd1328 he1329 hout1330 hphi1331
                                have hS1332 : St w wd1328 [] := St.extend hS1243 he1329
                                have e1333 : f1327 198 = u1317 := hphi1331 7 198 _ rfl rfl rfl
                                obtain ⟨e1334, hr1335⟩ : f1327 199 = (Value.int .i64 (k1220 : Int)) ∧ InR .i64 (k1220 : Int) := hphi1331 8 199 _ rfl rfl rfl
                                exact OpY.val (Value.pointer (some (elA u1317 ((k1220 : Int)).toNat))) wd1328 rfl (op_idx sl_25 (Ty.lift _ hS1332.ext hr1319) e1333 e1334 ha1337 hb1338) (Ext.refl _) rfl
                              · intro f1340 wd1341 he1342 hout1343 hphi1344
                                have hS1345 : St w wd1341 [] := St.extend hS1243 he1342
                                have e1346 : f1340 200 = (Value.pointer (some (elA u1317 ((k1220 : Int)).toNat))) := hphi1344 9 200 _ rfl rfl rfl
                                exact OpY.val (Value.int .i64 x1336) wd1341 rfl (op_load one_2 e1346 (Ext.cell hS1345.ext hc1348)) (Ext.refl _) ⟨rfl, hr1349⟩
                              · intro f1350 wd1351 he1352 hout1353 hphi1354
                                have hS1355 : St w wd1351 [] := St.extend hS1243 he1352
                                have e1356 : f1350 0 = v_t := (hout1353 0 rfl).trans hf1231
                                exact OpY.val v_t wd1351 rfl (op_move e1356) (Ext.refl _) rfl
                              · intro f1357 wd1358 he1359 hout1360 hphi1361
                                have hS1362 : St w wd1358 [] := St.extend hS1243 he1359
                                have e1363 : f1357 19 = (Value.int .i64 (k1220 : Int)) := (hout1360 19 rfl).trans hf1241
                                exact OpY.val (Value.int .i64 (k1220 : Int)) wd1358 rfl (op_move e1363) (Ext.refl _) ⟨rfl, hr1242⟩
                              · intro f1364 wd1365 he1366 hout1367 hphi1368
                                have hS1369 : St w wd1365 [] := St.extend hS1243 he1366
                                have e1370 : f1364 202 = v_t := hphi1368 11 202 _ rfl rfl rfl
                                obtain ⟨e1371, hr1372⟩ : f1364 203 = (Value.int .i64 (k1220 : Int)) ∧ InR .i64 (k1220 : Int) := hphi1368 12 203 _ rfl rfl rfl
                                exact OpY.val (Value.pointer (some (elA v_t ((k1220 : Int)).toNat))) wd1365 rfl (op_idx sl_22 (Ty.lift _ hS1369.ext r_t) e1370 e1371 ha1374 hb1375) (Ext.refl _) rfl
                              · intro f1377 wd1378 he1379 hout1380 hphi1381
                                have hS1382 : St w wd1378 [] := St.extend hS1243 he1379
                                have e1383 : f1377 204 = (Value.pointer (some (elA v_t ((k1220 : Int)).toNat))) := hphi1381 13 204 _ rfl rfl rfl
                                exact OpY.val u1384 wd1378 rfl (op_load one_65 e1383 (Ext.cell hS1382.ext hc1385)) (Ext.refl _) rfl
                              · intro f1387 wd1388 he1389 hout1390 hphi1391
                                have hS1392 : St w wd1388 [] := St.extend hS1243 he1389
                                have e1393 : f1387 15 = (Value.int .i64 (k1179 : Int)) := (hout1390 15 rfl).trans hf1235
                                exact OpY.val (Value.int .i64 (k1179 : Int)) wd1388 rfl (op_move e1393) (Ext.refl _) ⟨rfl, hr1193⟩
                              · intro f1394 wd1395 he1396 hout1397 hphi1398
                                have hS1399 : St w wd1395 [] := St.extend hS1243 he1396
                                have e1400 : f1394 205 = u1384 := hphi1398 14 205 _ rfl rfl rfl
                                obtain ⟨e1401, hr1402⟩ : f1394 206 = (Value.int .i64 (k1179 : Int)) ∧ InR .i64 (k1179 : Int) := hphi1398 15 206 _ rfl rfl rfl
                                exact OpY.val (Value.pointer (some (elA u1384 ((k1179 : Int)).toNat))) wd1395 rfl (op_idx sl_65 (Ty.lift _ hS1399.ext hr1386) e1400 e1401 ha1404 hb1405) (Ext.refl _) rfl
                              · intro f1407 wd1408 he1409 hout1410 hphi1411
                                have hS1412 : St w wd1408 [] := St.extend hS1243 he1409
                                have e1413 : f1407 207 = (Value.pointer (some (elA u1384 ((k1179 : Int)).toNat))) := hphi1411 16 207 _ rfl rfl rfl
                                exact OpY.val u1414 wd1408 rfl (op_load one_25 e1413 (Ext.cell hS1412.ext hc1415)) (Ext.refl _) rfl
                              · intro f1417 wd1418 he1419 hout1420 hphi1421
                                have hS1422 : St w wd1418 [] := St.extend hS1243 he1419
                                have e1423 : f1417 16 = (Value.int .i64 (k1199 : Int)) := (hout1420 16 rfl).trans hf1236
                                exact OpY.val (Value.int .i64 (k1199 : Int)) wd1418 rfl (op_move e1423) (Ext.refl _) ⟨rfl, hr1214⟩
                              · intro f1424 wd1425 he1426 hout1427 hphi1428
                                have hS1429 : St w wd1425 [] := St.extend hS1243 he1426
                                have e1430 : f1424 208 = u1414 := hphi1428 17 208 _ rfl rfl rfl
                                obtain ⟨e1431, hr1432⟩ : f1424 209 = (Value.int .i64 (k1199 : Int)) ∧ InR .i64 (k1199 : Int) := hphi1428 18 209 _ rfl rfl rfl
                                exact OpY.val (Value.pointer (some (elA u1414 ((k1199 : Int)).toNat))) wd1425 rfl (op_idx sl_25 (Ty.lift _ hS1429.ext hr1416) e1430 e1431 ha1434 hb1435) (Ext.refl _) rfl
                              · intro f1437 wd1438 he1439 hout1440 hphi1441
                                have hS1442 : St w wd1438 [] := St.extend hS1243 he1439
                                have e1443 : f1437 210 = (Value.pointer (some (elA u1414 ((k1199 : Int)).toNat))) := hphi1441 19 210 _ rfl rfl rfl
                                exact OpY.val (Value.int .i64 x1433) wd1438 rfl (op_load one_2 e1443 (Ext.cell hS1442.ext hc1445)) (Ext.refl _) ⟨rfl, hr1446⟩
                              · intro f1447 wd1448 he1449 hout1450 hphi1451
                                have hS1452 : St w wd1448 [] := St.extend hS1243 he1449
                                obtain ⟨e1453, hr1454⟩ : f1447 201 = (Value.int .i64 x1336) ∧ InR .i64 x1336 := hphi1451 10 201 _ rfl rfl rfl
                                obtain ⟨e1455, hr1456⟩ : f1447 211 = (Value.int .i64 x1433) ∧ InR .i64 x1433 := hphi1451 20 211 _ rfl rfl rfl
                                exact OpY.val (Value.int .i64 (w64 (x1336 * x1433))) wd1448 rfl (op_mul e1453 e1455) (Ext.refl _) ⟨rfl, (inR_wrap _ _)⟩
                              · intro f1457 wd1458 he1459 hout1460 hphi1461
                                show WL _ _ _ _ _ _ _
                                have hS1462 : St w wd1458 [] := St.extend hS1243 he1459
                                obtain ⟨e1463, hr1464⟩ : f1457 191 = (Value.int .i64 x1221) ∧ InR .i64 x1221 := hphi1461 0 191 _ (by decide) rfl rfl
                                obtain ⟨e1465, hr1466⟩ : f1457 212 = (Value.int .i64 (w64 (x1336 * x1433))) ∧ InR .i64 (w64 (x1336 * x1433)) := hphi1461 21 212 _ (by decide) rfl rfl
                                have e1467 : f1457 0 = v_t := (hout1460 0 rfl).trans hf1231
                                have e1468 : f1457 3 = (Value.int .i64 ((t).length : Int)) := (hout1460 3 rfl).trans hf1232
                                have e1469 : f1457 13 = (Value.int .i64 (k1142 : Int)) := (hout1460 13 rfl).trans hf1233
                                have e1470 : f1457 14 = (Value.int .i64 (k1160 : Int)) := (hout1460 14 rfl).trans hf1234
                                have e1471 : f1457 15 = (Value.int .i64 (k1179 : Int)) := (hout1460 15 rfl).trans hf1235
                                have e1472 : f1457 16 = (Value.int .i64 (k1199 : Int)) := (hout1460 16 rfl).trans hf1236
                                have e1473 : f1457 18 = (Value.int .i64 x1222) := (hout1460 18 rfl).trans hf1239
                                have e1474 : f1457 19 = (Value.int .i64 (k1220 : Int)) := (hout1460 19 rfl).trans hf1241
                                refine WL.val (Value.int .i64 (w64 (x1221 + (w64 (x1336 * x1433))))) _ (op_add e1463 e1465) rfl ?_
                                refine WL.val (Value.int .i64 (w64 (x1221 + (w64 (x1336 * x1433))))) _ (op_assign rfl) rfl ?_
                                refine WL.nil ?_
                                show W _ _ _ _ _ _
                                obtain ⟨x1505, hx1508, hb1227⟩ := bs hb1227
                                obtain ⟨ha1506, hb1507, hx1508⟩ := idx_some hx1508
                                obtain ⟨u1516, hc1517, hr1518⟩ := repSl.el r_t hx1508
                                obtain ⟨x1535, hx1538, hb1227⟩ := bs hb1227
                                obtain ⟨ha1536, hb1537, hx1538⟩ := idx_some hx1538
                                obtain ⟨u1546, hc1547, hr1548⟩ := repSl.el hr1518 hx1538
                                obtain ⟨x1565, hx1568, hb1227⟩ := bs hb1227
                                obtain ⟨ha1566, hb1567, hx1568⟩ := idx_some hx1568
                                obtain ⟨u1576, hc1577, hr1578⟩ := repSl.el hr1548 hx1568
                                obtain ⟨rfl, hr1578⟩ := hr1578
                                obtain ⟨u1609, hc1610, hr1611⟩ := repSl.el r_t hx1279
                                obtain ⟨x1628, hx1631, hb1227⟩ := bs hb1227
                                obtain ⟨ha1629, hb1630, hx1631⟩ := idx_some hx1631
                                obtain ⟨u1639, hc1640, hr1641⟩ := repSl.el hr1611 hx1631
                                obtain ⟨x1658, hx1661, hb1227⟩ := bs hb1227
                                obtain ⟨ha1659, hb1660, hx1661⟩ := idx_some hx1661
                                obtain ⟨u1669, hc1670, hr1671⟩ := repSl.el hr1641 hx1661
                                obtain ⟨rfl, hr1671⟩ := hr1671
                                refine W.draw mixo 22 [fun v _ => v = (Value.int .i64 x1222) ∧ InR .i64 x1222, fun v _ => v = v_t, fun v _ => v = (Value.int .i64 (k1160 : Int)) ∧ InR .i64 (k1160 : Int), fun v _ => v = (Value.pointer (some (elA v_t ((k1160 : Int)).toNat))), fun v _ => v = u1516, fun v _ => v = (Value.int .i64 (k1179 : Int)) ∧ InR .i64 (k1179 : Int), fun v _ => v = (Value.pointer (some (elA u1516 ((k1179 : Int)).toNat))), fun v _ => v = u1546, fun v _ => v = (Value.int .i64 (k1220 : Int)) ∧ InR .i64 (k1220 : Int), fun v _ => v = (Value.pointer (some (elA u1546 ((k1220 : Int)).toNat))), fun v _ => v = (Value.int .i64 x1565) ∧ InR .i64 x1565, fun v _ => v = v_t, fun v _ => v = (Value.int .i64 (k1142 : Int)) ∧ InR .i64 (k1142 : Int), fun v _ => v = (Value.pointer (some (elA v_t ((k1142 : Int)).toNat))), fun v _ => v = u1609, fun v _ => v = (Value.int .i64 (k1220 : Int)) ∧ InR .i64 (k1220 : Int), fun v _ => v = (Value.pointer (some (elA u1609 ((k1220 : Int)).toNat))), fun v _ => v = u1639, fun v _ => v = (Value.int .i64 (k1199 : Int)) ∧ InR .i64 (k1199 : Int), fun v _ => v = (Value.pointer (some (elA u1639 ((k1199 : Int)).toNat))), fun v _ => v = (Value.int .i64 x1658) ∧ InR .i64 x1658, fun v _ => v = (Value.int .i64 (w64 (x1565 * x1658))) ∧ InR .i64 (w64 (x1565 * x1658))] (by kernel_rfl) (by kernel_rfl) (stabL ⟨(fun _ _ _ _ h => h), (fun _ _ _ _ h => h), (fun _ _ _ _ h => h), (fun _ _ _ _ h => h), (fun _ _ _ _ h => h), (fun _ _ _ _ h => h), (fun _ _ _ _ h => h), (fun _ _ _ _ h => h), (fun _ _ _ _ h => h), (fun _ _ _ _ h => h), (fun _ _ _ _ h => h), (fun _ _ _ _ h => h), (fun _ _ _ _ h => h), (fun _ _ _ _ h => h), (fun _ _ _ _ h => h), (fun _ _ _ _ h => h), (fun _ _ _ _ h => h), (fun _ _ _ _ h => h), (fun _ _ _ _ h => h), (fun _ _ _ _ h => h), (fun _ _ _ _ h => h), (fun _ _ _ _ h => h), trivial⟩) ⟨?_, ?_, ?_, ?_, ?_, ?_, ?_, ?_, ?_, ?_, ?_, ?_, ?_, ?_, ?_, ?_, ?_, ?_, ?_, ?_, ?_, ?_, trivial⟩ ?_
                                · intro f1475 wd1476 he1477 hout1478 hphi1479
                                  have hS1480 : St w wd1476 [] := St.extend hS1462 he1477
                                  have e1481 : f1475 18 = (Value.int .i64 x1222) := (hout1478 18 rfl).trans e1473
                                  exact OpY.val (Value.int .i64 x1222) wd1476 rfl (op_move e1481) (Ext.refl _) ⟨rfl, hr1240⟩
                                · intro f1482 wd1483 he1484 hout1485 hphi1486
                                  have hS1487 : St w wd1483 [] := St.extend hS1462 he1484
                                  have e1488 : f1482 0 = v_t := (hout1485 0 rfl).trans e1467
                                  exact OpY.val v_t wd1483 rfl (op_move e1488) (Ext.refl _) rfl
                                · intro f1489 wd1490 he1491 hout1492 hphi1493
                                  have hS1494 : St w wd1490 [] := St.extend hS1462 he1491
                                  have e1495 : f1489 14 = (Value.int .i64 (k1160 : Int)) := (hout1492 14 rfl).trans e1470
                                  exact OpY.val (Value.int .i64 (k1160 : Int)) wd1490 rfl (op_move e1495) (Ext.refl _) ⟨rfl, hr1173⟩
                                · intro f1496 wd1497 he1498 hout1499 hphi1500
                                  have hS1501 : St w wd1497 [] := St.extend hS1462 he1498
                                  have e1502 : f1496 215 = v_t := hphi1500 1 215 _ rfl rfl rfl
                                  obtain ⟨e1503, hr1504⟩ : f1496 216 = (Value.int .i64 (k1160 : Int)) ∧ InR .i64 (k1160 : Int) := hphi1500 2 216 _ rfl rfl rfl
                                  exact OpY.val (Value.pointer (some (elA v_t ((k1160 : Int)).toNat))) wd1497 rfl (op_idx sl_22 (Ty.lift _ hS1501.ext r_t) e1502 e1503 ha1506 hb1507) (Ext.refl _) rfl
                                · intro f1509 wd1510 he1511 hout1512 hphi1513
                                  have hS1514 : St w wd1510 [] := St.extend hS1462 he1511
                                  have e1515 : f1509 217 = (Value.pointer (some (elA v_t ((k1160 : Int)).toNat))) := hphi1513 3 217 _ rfl rfl rfl
                                  exact OpY.val u1516 wd1510 rfl (op_load one_65 e1515 (Ext.cell hS1514.ext hc1517)) (Ext.refl _) rfl
                                · intro f1519 wd1520 he1521 hout1522 hphi1523
                                  have hS1524 : St w wd1520 [] := St.extend hS1462 he1521
                                  have e1525 : f1519 15 = (Value.int .i64 (k1179 : Int)) := (hout1522 15 rfl).trans e1471
                                  exact OpY.val (Value.int .i64 (k1179 : Int)) wd1520 rfl (op_move e1525) (Ext.refl _) ⟨rfl, hr1193⟩
                                · intro f1526 wd1527 he1528 hout1529 hphi1530
                                  have hS1531 : St w wd1527 [] := St.extend hS1462 he1528
                                  have e1532 : f1526 218 = u1516 := hphi1530 4 218 _ rfl rfl rfl
                                  obtain ⟨e1533, hr1534⟩ : f1526 219 = (Value.int .i64 (k1179 : Int)) ∧ InR .i64 (k1179 : Int) := hphi1530 5 219 _ rfl rfl rfl
                                  exact OpY.val (Value.pointer (some (elA u1516 ((k1179 : Int)).toNat))) wd1527 rfl (op_idx sl_65 (Ty.lift _ hS1531.ext hr1518) e1532 e1533 ha1536 hb1537) (Ext.refl _) rfl
                                · intro f1539 wd1540 he1541 hout1542 hphi1543
                                  have hS1544 : St w wd1540 [] := St.extend hS1462 he1541
                                  have e1545 : f1539 220 = (Value.pointer (some (elA u1516 ((k1179 : Int)).toNat))) := hphi1543 6 220 _ rfl rfl rfl
                                  exact OpY.val u1546 wd1540 rfl (op_load one_25 e1545 (Ext.cell hS1544.ext hc1547)) (Ext.refl _) rfl
                                · intro f1549 wd1550 he1551 hout1552 hphi1553
                                  have hS1554 : St w wd1550 [] := St.extend hS1462 he1551
                                  have e1555 : f1549 19 = (Value.int .i64 (k1220 : Int)) := (hout1552 19 rfl).trans e1474
                                  exact OpY.val (Value.int .i64 (k1220 : Int)) wd1550 rfl (op_move e1555) (Ext.refl _) ⟨rfl, hr1242⟩
                                · intro f1556 wd1557 he1558 hout1559 hphi1560
                                  have hS1561 : St w wd1557 [] := St.extend hS1462 he1558
                                  have e1562 : f1556 221 = u1546 := hphi1560 7 221 _ rfl rfl rfl
                                  obtain ⟨e1563, hr1564⟩ : f1556 222 = (Value.int .i64 (k1220 : Int)) ∧ InR .i64 (k1220 : Int) := hphi1560 8 222 _ rfl rfl rfl
                                  exact OpY.val (Value.pointer (some (elA u1546 ((k1220 : Int)).toNat))) wd1557 rfl (op_idx sl_25 (Ty.lift _ hS1561.ext hr1548) e1562 e1563 ha1566 hb1567) (Ext.refl _) rfl
                                · intro f1569 wd1570 he1571 hout1572 hphi1573
                                  have hS1574 : St w wd1570 [] := St.extend hS1462 he1571
                                  have e1575 : f1569 223 = (Value.pointer (some (elA u1546 ((k1220 : Int)).toNat))) := hphi1573 9 223 _ rfl rfl rfl
                                  exact OpY.val (Value.int .i64 x1565) wd1570 rfl (op_load one_2 e1575 (Ext.cell hS1574.ext hc1577)) (Ext.refl _) ⟨rfl, hr1578⟩
                                · intro f1579 wd1580 he1581 hout1582 hphi1583
                                  have hS1584 : St w wd1580 [] := St.extend hS1462 he1581
                                  have e1585 : f1579 0 = v_t := (hout1582 0 rfl).trans e1467
                                  exact OpY.val v_t wd1580 rfl (op_move e1585) (Ext.refl _) rfl
                                · intro f1586 wd1587 he1588 hout1589 hphi1590
                                  have hS1591 : St w wd1587 [] := St.extend hS1462 he1588
                                  have e1592 : f1586 13 = (Value.int .i64 (k1142 : Int)) := (hout1589 13 rfl).trans e1469
                                  exact OpY.val (Value.int .i64 (k1142 : Int)) wd1587 rfl (op_move e1592) (Ext.refl _) ⟨rfl, hr1154⟩
                                · intro f1593 wd1594 he1595 hout1596 hphi1597
                                  have hS1598 : St w wd1594 [] := St.extend hS1462 he1595
                                  have e1599 : f1593 225 = v_t := hphi1597 11 225 _ rfl rfl rfl
                                  obtain ⟨e1600, hr1601⟩ : f1593 226 = (Value.int .i64 (k1142 : Int)) ∧ InR .i64 (k1142 : Int) := hphi1597 12 226 _ rfl rfl rfl
                                  exact OpY.val (Value.pointer (some (elA v_t ((k1142 : Int)).toNat))) wd1594 rfl (op_idx sl_22 (Ty.lift _ hS1598.ext r_t) e1599 e1600 ha1277 hb1278) (Ext.refl _) rfl
                                · intro f1602 wd1603 he1604 hout1605 hphi1606
                                  have hS1607 : St w wd1603 [] := St.extend hS1462 he1604
                                  have e1608 : f1602 227 = (Value.pointer (some (elA v_t ((k1142 : Int)).toNat))) := hphi1606 13 227 _ rfl rfl rfl
                                  exact OpY.val u1609 wd1603 rfl (op_load one_65 e1608 (Ext.cell hS1607.ext hc1610)) (Ext.refl _) rfl
                                · intro f1612 wd1613 he1614 hout1615 hphi1616
                                  have hS1617 : St w wd1613 [] := St.extend hS1462 he1614
                                  have e1618 : f1612 19 = (Value.int .i64 (k1220 : Int)) := (hout1615 19 rfl).trans e1474
                                  exact OpY.val (Value.int .i64 (k1220 : Int)) wd1613 rfl (op_move e1618) (Ext.refl _) ⟨rfl, hr1242⟩
                                · intro f1619 wd1620 he1621 hout1622 hphi1623
                                  have hS1624 : St w wd1620 [] := St.extend hS1462 he1621
                                  have e1625 : f1619 228 = u1609 := hphi1623 14 228 _ rfl rfl rfl
                                  obtain ⟨e1626, hr1627⟩ : f1619 229 = (Value.int .i64 (k1220 : Int)) ∧ InR .i64 (k1220 : Int) := hphi1623 15 229 _ rfl rfl rfl
                                  exact OpY.val (Value.pointer (some (elA u1609 ((k1220 : Int)).toNat))) wd1620 rfl (op_idx sl_65 (Ty.lift _ hS1624.ext hr1611) e1625 e1626 ha1629 hb1630) (Ext.refl _) rfl
                                · intro f1632 wd1633 he1634 hout1635 hphi1636
                                  have hS1637 : St w wd1633 [] := St.extend hS1462 he1634
                                  have e1638 : f1632 230 = (Value.pointer (some (elA u1609 ((k1220 : Int)).toNat))) := hphi1636 16 230 _ rfl rfl rfl
                                  exact OpY.val u1639 wd1633 rfl (op_load one_25 e1638 (Ext.cell hS1637.ext hc1640)) (Ext.refl _) rfl
                                · intro f1642 wd1643 he1644 hout1645 hphi1646
                                  have hS1647 : St w wd1643 [] := St.extend hS1462 he1644
                                  have e1648 : f1642 16 = (Value.int .i64 (k1199 : Int)) := (hout1645 16 rfl).trans e1472
                                  exact OpY.val (Value.int .i64 (k1199 : Int)) wd1643 rfl (op_move e1648) (Ext.refl _) ⟨rfl, hr1214⟩
                                · intro f1649 wd1650 he1651 hout1652 hphi1653
                                  have hS1654 : St w wd1650 [] := St.extend hS1462 he1651
                                  have e1655 : f1649 231 = u1639 := hphi1653 17 231 _ rfl rfl rfl
                                  obtain ⟨e1656, hr1657⟩ : f1649 232 = (Value.int .i64 (k1199 : Int)) ∧ InR .i64 (k1199 : Int) := hphi1653 18 232 _ rfl rfl rfl
                                  exact OpY.val (Value.pointer (some (elA u1639 ((k1199 : Int)).toNat))) wd1650 rfl (op_idx sl_25 (Ty.lift _ hS1654.ext hr1641) e1655 e1656 ha1659 hb1660) (Ext.refl _) rfl
                                · intro f1662 wd1663 he1664 hout1665 hphi1666
                                  have hS1667 : St w wd1663 [] := St.extend hS1462 he1664
                                  have e1668 : f1662 233 = (Value.pointer (some (elA u1639 ((k1199 : Int)).toNat))) := hphi1666 19 233 _ rfl rfl rfl
                                  exact OpY.val (Value.int .i64 x1658) wd1663 rfl (op_load one_2 e1668 (Ext.cell hS1667.ext hc1670)) (Ext.refl _) ⟨rfl, hr1671⟩
                                · intro f1672 wd1673 he1674 hout1675 hphi1676
                                  have hS1677 : St w wd1673 [] := St.extend hS1462 he1674
                                  obtain ⟨e1678, hr1679⟩ : f1672 224 = (Value.int .i64 x1565) ∧ InR .i64 x1565 := hphi1676 10 224 _ rfl rfl rfl
                                  obtain ⟨e1680, hr1681⟩ : f1672 234 = (Value.int .i64 x1658) ∧ InR .i64 x1658 := hphi1676 20 234 _ rfl rfl rfl
                                  exact OpY.val (Value.int .i64 (w64 (x1565 * x1658))) wd1673 rfl (op_mul e1678 e1680) (Ext.refl _) ⟨rfl, (inR_wrap _ _)⟩
                                · intro f1682 wd1683 he1684 hout1685 hphi1686
                                  show WL _ _ _ _ _ _ _
                                  have hS1687 : St w wd1683 [] := St.extend hS1462 he1684
                                  obtain ⟨e1688, hr1689⟩ : f1682 214 = (Value.int .i64 x1222) ∧ InR .i64 x1222 := hphi1686 0 214 _ (by decide) rfl rfl
                                  obtain ⟨e1690, hr1691⟩ : f1682 235 = (Value.int .i64 (w64 (x1565 * x1658))) ∧ InR .i64 (w64 (x1565 * x1658)) := hphi1686 21 235 _ (by decide) rfl rfl
                                  have e1692 : f1682 0 = v_t := (hout1685 0 rfl).trans e1467
                                  have e1693 : f1682 3 = (Value.int .i64 ((t).length : Int)) := (hout1685 3 rfl).trans e1468
                                  have e1694 : f1682 13 = (Value.int .i64 (k1142 : Int)) := (hout1685 13 rfl).trans e1469
                                  have e1695 : f1682 14 = (Value.int .i64 (k1160 : Int)) := (hout1685 14 rfl).trans e1470
                                  have e1696 : f1682 15 = (Value.int .i64 (k1179 : Int)) := (hout1685 15 rfl).trans e1471
                                  have e1697 : f1682 16 = (Value.int .i64 (k1199 : Int)) := (hout1685 16 rfl).trans e1472
                                  have e1698 : f1682 17 = (Value.int .i64 (w64 (x1221 + (w64 (x1336 * x1433))))) := (hout1685 17 rfl).trans rfl
                                  have e1699 : f1682 19 = (Value.int .i64 (k1220 : Int)) := (hout1685 19 rfl).trans e1474
                                  refine WL.val (Value.int .i64 (w64 (x1222 + (w64 (x1565 * x1658))))) _ (op_add e1688 e1690) rfl ?_
                                  refine WL.val (Value.int .i64 (w64 (x1222 + (w64 (x1565 * x1658))))) _ (op_assign rfl) rfl ?_
                                  refine WL.nil ?_
                                  show W _ _ _ _ _ _
                                  refine W.region ?_
                                  refine WL.val (Value.int .i64 (k1220 : Int)) _ (op_move e1699) rfl ?_
                                  refine WL.val (Value.int .i64 (w64 ((k1220 : Int) + (1 : Int)))) _ (op_add rfl rfl) rfl ?_
                                  refine WL.val (Value.int .i64 (w64 ((k1220 : Int) + (1 : Int)))) _ (op_assign rfl) rfl ?_
                                  refine WL.nil ?_
                                  obtain rfl := Option.some.inj hb1227
                                  show ∃ s, _ = Ctl.next s ∧ _
                                  exact ⟨_, rfl, e1692, e1693, e1694, e1695, e1696, e1697, e1698, (inR_wrap _ _), rfl, (inR_wrap _ _), (ctr_next hl1244 hr1), (ctr_rng hl1244 hr1), hS1687⟩
                            · intro s1705 f1701 wd1702 hs1703 hI1704
                              obtain ⟨x1706, x1707⟩ := s1705
                              replace hI1704 : f1701 0 = v_t ∧ f1701 3 = (Value.int .i64 ((t).length : Int)) ∧ f1701 13 = (Value.int .i64 (k1142 : Int)) ∧ f1701 14 = (Value.int .i64 (k1160 : Int)) ∧ f1701 15 = (Value.int .i64 (k1179 : Int)) ∧ f1701 16 = (Value.int .i64 (k1199 : Int)) ∧ f1701 17 = Value.int .i64 x1706 ∧ InR .i64 x1706 ∧ f1701 18 = Value.int .i64 x1707 ∧ InR .i64 x1707 ∧ f1701 19 = Value.int .i64 (((t).length : Nat) : Int) ∧ InR .i64 (((t).length : Nat) : Int) ∧ St w wd1702 [] := hI1704
                              obtain ⟨hf1708, hf1709, hf1710, hf1711, hf1712, hf1713, hf1714, hr1715, hf1716, hr1717, hf1718, hr1719, hS1720⟩ := hI1704
                              refine W.seq ?_
                              refine W.seq ?_
                              refine W.region ?_
                              refine WL.val (Value.int .i64 (((t).length : Nat) : Int)) _ (op_move hf1718) rfl ?_
                              refine WL.val (Value.int .i64 ((t).length : Int)) _ (op_move hf1709) rfl ?_
                              refine WL.val (Value.bool (decide ((((t).length : Nat) : Int) < ((t).length : Int)))) _ (op_lss rfl rfl) rfl ?_
                              have hl1721 : ¬ (((t).length : Nat) : Int) < ((t).length : Int) := by omega
                              refine WL.nil ?_
                              show W _ _ _ _ _ _
                              refine W.condF (decide ((((t).length : Nat) : Int) < ((t).length : Int))) rfl (decide_eq_false hl1721) ?_
                              refine W.exit ?_
                              show _ = _ ∧ _
                              exact ⟨rfl, _, hs1703, hf1708, hf1709, hf1710, hf1711, hf1712, hf1713, hf1714, hr1715, hf1716, hr1717, hS1720⟩
                          · rintro f1722 wd1723 ⟨s1725, rfl, hq1724⟩
                            replace hb1204 := onRes_fin hb1204
                            obtain ⟨x1726, x1727⟩ := s1725
                            replace hq1724 : f1722 0 = v_t ∧ f1722 3 = (Value.int .i64 ((t).length : Int)) ∧ f1722 13 = (Value.int .i64 (k1142 : Int)) ∧ f1722 14 = (Value.int .i64 (k1160 : Int)) ∧ f1722 15 = (Value.int .i64 (k1179 : Int)) ∧ f1722 16 = (Value.int .i64 (k1199 : Int)) ∧ f1722 17 = Value.int .i64 x1726 ∧ InR .i64 x1726 ∧ f1722 18 = Value.int .i64 x1727 ∧ InR .i64 x1727 ∧ St w wd1723 [] := hq1724
                            replace hb1204 : (_ : Option _) = _ := hb1204
                            dsimp only at hb1204
                            obtain ⟨hf1728, hf1729, hf1730, hf1731, hf1732, hf1733, hf1734, hr1735, hf1736, hr1737, hS1738⟩ := hq1724
                            show W _ _ _ _ _ _
                            refine W.seq ?_
                            refine W.region ?_
                            refine WL.val (Value.int .i64 x1726) _ (op_move hf1734) rfl ?_
                            refine WL.val (Value.int .i64 x1727) _ (op_move hf1736) rfl ?_
                            refine WL.val (Value.bool (x1726 != x1727)) _ (op_neq rfl rfl) rfl ?_
                            refine WL.nil ?_
                            show W _ _ _ _ _ _
                            refine W.cond (x1726 != x1727) rfl (fun hc1739 => ?_) (fun hc1739 => ?_)
                            · replace hb1204 := ip hb1204 hc1739
                              refine W.seq ?_
                              refine W.region ?_
                              refine WL.val (Value.int .i64 (k1142 : Int)) _ (op_move hf1730) rfl ?_
                              refine WL.val (Value.int .i64 (k1160 : Int)) _ (op_move hf1731) rfl ?_
                              refine WL.val (Value.int .i64 (k1179 : Int)) _ (op_move hf1732) rfl ?_
                              refine WL.val (Value.int .i64 (k1199 : Int)) _ (op_move hf1733) rfl ?_
                              refine WL.litFlat (t := (Ty.i .i64)) (flat_i .i64) [(Value.int .i64 (3 : Int)), (Value.int .i64 (k1142 : Int)), (Value.int .i64 (k1160 : Int)), (Value.int .i64 (k1179 : Int)), (Value.int .i64 (k1199 : Int))] [(3 : Int), (k1142 : Int), (k1160 : Int), (k1179 : Int), (k1199 : Int)] hS1738 sl_25 rfl rfl (fillL rfl ⟨rfl, rfl, rfl, rfl, rfl, rfl, rfl, rfl, rfl, rfl, rfl, rfl, rfl, rfl, rfl, trivial⟩) rfl rfl (litL ⟨⟨rfl, (inR_i64.2 (show (-9223372036854775808 : Int) ≤ 3 ∧ (3 : Int) ≤ 9223372036854775807 from by decide))⟩, ⟨rfl, hr1154⟩, ⟨rfl, hr1173⟩, ⟨rfl, hr1193⟩, ⟨rfl, hr1214⟩, trivial⟩) rfl ?_
                              intro u1741 wd1742 hS1743 he1744
                              replace hS1743 : St w wd1742 [(Ty.sl (Ty.i .i64)).at u1741 ([(3 : Int), (k1142 : Int), (k1160 : Int), (k1179 : Int), (k1199 : Int)] : (List Int))] := hS1743
                              refine WL.val u1741 _ (op_assign rfl) rfl ?_
                              refine WL.nil ?_
                              show W _ _ _ _ _ _
                              refine W.ret ?_
                              obtain rfl := Option.some.inj hb1204
                              obtain rfl := hret1207 _ rfl
                              replace hb1184 := onRes_ret hb1184
                              obtain rfl := Option.some.inj hb1184
                              obtain rfl := hret1187 _ rfl
                              replace hb1165 := onRes_ret hb1165
                              obtain rfl := Option.some.inj hb1165
                              obtain rfl := hret1168 _ rfl
                              replace hb1147 := onRes_ret hb1147
                              obtain rfl := Option.some.inj hb1147
                              obtain rfl := hret1150 _ rfl
                              replace h := onRes_ret h
                              obtain rfl := Option.some.inj h
                              show FinP _ _ _ _ _ _ _
                              exact FinP.ret _ (res1 rfl rfl) ⟨u1741, rfl, hS1743.ext, (St.out (St.pick hS1743 [0] rfl) (Ext.refl _))⟩
                            · replace hb1204 := inegb hb1204 hc1739
                              refine W.skip ?_
                              show W _ _ _ _ _ _
                              refine W.region ?_
                              refine WL.val (Value.int .i64 (k1199 : Int)) _ (op_move hf1733) rfl ?_
                              refine WL.val (Value.int .i64 (w64 ((k1199 : Int) + (1 : Int)))) _ (op_add rfl rfl) rfl ?_
                              refine WL.val (Value.int .i64 (w64 ((k1199 : Int) + (1 : Int)))) _ (op_assign rfl) rfl ?_
                              refine WL.nil ?_
                              obtain rfl := Option.some.inj hb1204
                              show ∃ s, _ = Ctl.next s ∧ _
                              exact ⟨_, rfl, hf1728, hf1729, hf1730, hf1731, hf1732, (ctr_next hl1216 hr1), (ctr_rng hl1216 hr1), hS1738⟩
                        · intro s1751 f1747 wd1748 hs1749 hI1750
                          obtain ⟨⟩ := s1751
                          replace hI1750 : f1747 0 = v_t ∧ f1747 3 = (Value.int .i64 ((t).length : Int)) ∧ f1747 13 = (Value.int .i64 (k1142 : Int)) ∧ f1747 14 = (Value.int .i64 (k1160 : Int)) ∧ f1747 15 = (Value.int .i64 (k1179 : Int)) ∧ f1747 16 = Value.int .i64 (((t).length : Nat) : Int) ∧ InR .i64 (((t).length : Nat) : Int) ∧ St w wd1748 [] := hI1750
                          obtain ⟨hf1752, hf1753, hf1754, hf1755, hf1756, hf1757, hr1758, hS1759⟩ := hI1750
                          refine W.seq ?_
                          refine W.seq ?_
                          refine W.region ?_
                          refine WL.val (Value.int .i64 (((t).length : Nat) : Int)) _ (op_move hf1757) rfl ?_
                          refine WL.val (Value.int .i64 ((t).length : Int)) _ (op_move hf1753) rfl ?_
                          refine WL.val (Value.bool (decide ((((t).length : Nat) : Int) < ((t).length : Int)))) _ (op_lss rfl rfl) rfl ?_
                          have hl1760 : ¬ (((t).length : Nat) : Int) < ((t).length : Int) := by omega
                          refine WL.nil ?_
                          show W _ _ _ _ _ _
                          refine W.condF (decide ((((t).length : Nat) : Int) < ((t).length : Int))) rfl (decide_eq_false hl1760) ?_
                          refine W.exit ?_
                          show _ = _ ∧ _
                          exact ⟨rfl, _, hs1749, hf1752, hf1753, hf1754, hf1755, hf1756, hS1759⟩
                      · rintro f1761 wd1762 ⟨s1764, rfl, hq1763⟩
                        replace hb1184 := onRes_fin hb1184
                        obtain ⟨⟩ := s1764
                        replace hq1763 : f1761 0 = v_t ∧ f1761 3 = (Value.int .i64 ((t).length : Int)) ∧ f1761 13 = (Value.int .i64 (k1142 : Int)) ∧ f1761 14 = (Value.int .i64 (k1160 : Int)) ∧ f1761 15 = (Value.int .i64 (k1179 : Int)) ∧ St w wd1762 [] := hq1763
                        obtain ⟨hf1765, hf1766, hf1767, hf1768, hf1769, hS1770⟩ := hq1763
                        show W _ _ _ _ _ _
                        refine W.region ?_
                        refine WL.val (Value.int .i64 (k1179 : Int)) _ (op_move hf1769) rfl ?_
                        refine WL.val (Value.int .i64 (w64 ((k1179 : Int) + (1 : Int)))) _ (op_add rfl rfl) rfl ?_
                        refine WL.val (Value.int .i64 (w64 ((k1179 : Int) + (1 : Int)))) _ (op_assign rfl) rfl ?_
                        refine WL.nil ?_
                        obtain rfl := Option.some.inj hb1184
                        show ∃ s, _ = Ctl.next s ∧ _
                        exact ⟨_, rfl, hf1765, hf1766, hf1767, hf1768, (ctr_next hl1195 hr1), (ctr_rng hl1195 hr1), hS1770⟩
                    · intro s1777 f1773 wd1774 hs1775 hI1776
                      obtain ⟨⟩ := s1777
                      replace hI1776 : f1773 0 = v_t ∧ f1773 3 = (Value.int .i64 ((t).length : Int)) ∧ f1773 13 = (Value.int .i64 (k1142 : Int)) ∧ f1773 14 = (Value.int .i64 (k1160 : Int)) ∧ f1773 15 = Value.int .i64 (((t).length : Nat) : Int) ∧ InR .i64 (((t).length : Nat) : Int) ∧ St w wd1774 [] := hI1776
                      obtain ⟨hf1778, hf1779, hf1780, hf1781, hf1782, hr1783, hS1784⟩ := hI1776
                      refine W.seq ?_
                      refine W.seq ?_
                      refine W.region ?_
                      refine WL.val (Value.int .i64 (((t).length : Nat) : Int)) _ (op_move hf1782) rfl ?_
                      refine WL.val (Value.int .i64 ((t).length : Int)) _ (op_move hf1779) rfl ?_
                      refine WL.val (Value.bool (decide ((((t).length : Nat) : Int) < ((t).length : Int)))) _ (op_lss rfl rfl) rfl ?_
                      have hl1785 : ¬ (((t).length : Nat) : Int) < ((t).length : Int) := by omega
                      refine WL.nil ?_
                      show W _ _ _ _ _ _
                      refine W.condF (decide ((((t).length : Nat) : Int) < ((t).length : Int))) rfl (decide_eq_false hl1785) ?_
                      refine W.exit ?_
                      show _ = _ ∧ _
                      exact ⟨rfl, _, hs1775, hf1778, hf1779, hf1780, hf1781, hS1784⟩
                  · rintro f1786 wd1787 ⟨s1789, rfl, hq1788⟩
                    replace hb1165 := onRes_fin hb1165
                    obtain ⟨⟩ := s1789
                    replace hq1788 : f1786 0 = v_t ∧ f1786 3 = (Value.int .i64 ((t).length : Int)) ∧ f1786 13 = (Value.int .i64 (k1142 : Int)) ∧ f1786 14 = (Value.int .i64 (k1160 : Int)) ∧ St w wd1787 [] := hq1788
                    obtain ⟨hf1790, hf1791, hf1792, hf1793, hS1794⟩ := hq1788
                    show W _ _ _ _ _ _
                    refine W.region ?_
                    refine WL.val (Value.int .i64 (k1160 : Int)) _ (op_move hf1793) rfl ?_
                    refine WL.val (Value.int .i64 (w64 ((k1160 : Int) + (1 : Int)))) _ (op_add rfl rfl) rfl ?_
                    refine WL.val (Value.int .i64 (w64 ((k1160 : Int) + (1 : Int)))) _ (op_assign rfl) rfl ?_
                    refine WL.nil ?_
                    obtain rfl := Option.some.inj hb1165
                    show ∃ s, _ = Ctl.next s ∧ _
                    exact ⟨_, rfl, hf1790, hf1791, hf1792, (ctr_next hl1175 hr1), (ctr_rng hl1175 hr1), hS1794⟩
                · intro s1801 f1797 wd1798 hs1799 hI1800
                  obtain ⟨⟩ := s1801
                  replace hI1800 : f1797 0 = v_t ∧ f1797 3 = (Value.int .i64 ((t).length : Int)) ∧ f1797 13 = (Value.int .i64 (k1142 : Int)) ∧ f1797 14 = Value.int .i64 (((t).length : Nat) : Int) ∧ InR .i64 (((t).length : Nat) : Int) ∧ St w wd1798 [] := hI1800
                  obtain ⟨hf1802, hf1803, hf1804, hf1805, hr1806, hS1807⟩ := hI1800
                  refine W.seq ?_
                  refine W.seq ?_
                  refine W.region ?_
                  refine WL.val (Value.int .i64 (((t).length : Nat) : Int)) _ (op_move hf1805) rfl ?_
                  refine WL.val (Value.int .i64 ((t).length : Int)) _ (op_move hf1803) rfl ?_
                  refine WL.val (Value.bool (decide ((((t).length : Nat) : Int) < ((t).length : Int)))) _ (op_lss rfl rfl) rfl ?_
                  have hl1808 : ¬ (((t).length : Nat) : Int) < ((t).length : Int) := by omega
                  refine WL.nil ?_
                  show W _ _ _ _ _ _
                  refine W.condF (decide ((((t).length : Nat) : Int) < ((t).length : Int))) rfl (decide_eq_false hl1808) ?_
                  refine W.exit ?_
                  show _ = _ ∧ _
                  exact ⟨rfl, _, hs1799, hf1802, hf1803, hf1804, hS1807⟩
              · rintro f1809 wd1810 ⟨s1812, rfl, hq1811⟩
                replace hb1147 := onRes_fin hb1147
                obtain ⟨⟩ := s1812
                replace hq1811 : f1809 0 = v_t ∧ f1809 3 = (Value.int .i64 ((t).length : Int)) ∧ f1809 13 = (Value.int .i64 (k1142 : Int)) ∧ St w wd1810 [] := hq1811
                obtain ⟨hf1813, hf1814, hf1815, hS1816⟩ := hq1811
                show W _ _ _ _ _ _
                refine W.region ?_
                refine WL.val (Value.int .i64 (k1142 : Int)) _ (op_move hf1815) rfl ?_
                refine WL.val (Value.int .i64 (w64 ((k1142 : Int) + (1 : Int)))) _ (op_add rfl rfl) rfl ?_
                refine WL.val (Value.int .i64 (w64 ((k1142 : Int) + (1 : Int)))) _ (op_assign rfl) rfl ?_
                refine WL.nil ?_
                obtain rfl := Option.some.inj hb1147
                show ∃ s, _ = Ctl.next s ∧ _
                exact ⟨_, rfl, hf1813, hf1814, (ctr_next hl1156 hr1), (ctr_rng hl1156 hr1), hS1816⟩
            · intro s1823 f1819 wd1820 hs1821 hI1822
              obtain ⟨⟩ := s1823
              replace hI1822 : f1819 0 = v_t ∧ f1819 3 = (Value.int .i64 ((t).length : Int)) ∧ f1819 13 = Value.int .i64 (((t).length : Nat) : Int) ∧ InR .i64 (((t).length : Nat) : Int) ∧ St w wd1820 [] := hI1822
              obtain ⟨hf1824, hf1825, hf1826, hr1827, hS1828⟩ := hI1822
              refine W.seq ?_
              refine W.seq ?_
              refine W.region ?_
              refine WL.val (Value.int .i64 (((t).length : Nat) : Int)) _ (op_move hf1826) rfl ?_
              refine WL.val (Value.int .i64 ((t).length : Int)) _ (op_move hf1825) rfl ?_
              refine WL.val (Value.bool (decide ((((t).length : Nat) : Int) < ((t).length : Int)))) _ (op_lss rfl rfl) rfl ?_
              have hl1829 : ¬ (((t).length : Nat) : Int) < ((t).length : Int) := by omega
              refine WL.nil ?_
              show W _ _ _ _ _ _
              refine W.condF (decide ((((t).length : Nat) : Int) < ((t).length : Int))) rfl (decide_eq_false hl1829) ?_
              refine W.exit ?_
              show _ = _ ∧ _
              exact ⟨rfl, _, hs1821, hS1828⟩
          · rintro f1830 wd1831 ⟨s1833, rfl, hq1832⟩
            replace h := onRes_fin h
            obtain ⟨⟩ := s1833
            replace hq1832 : St w wd1831 [] := hq1832
            have hS1834 := hq1832
            show W _ _ _ _ _ _
            refine W.seq ?_
            refine W.region ?_
            refine WL.val (Value.slice none 0 0) _ (op_assign rfl) rfl ?_
            refine WL.nil ?_
            show W _ _ _ _ _ _
            refine W.ret ?_
            obtain rfl := Option.some.inj h
            show FinP _ _ _ _ _ _ _
            exact FinP.ret _ (res1 rfl rfl) ⟨(Value.slice none 0 0), rfl, hS1834.ext, (St.out (St.pick (St.addNil (Ty.i .i64) hS1834) [0] rfl) (Ext.refl _))⟩

theorem c_spec_l03Is {w : World} {r_Table : (List (List (List Int)))} {v_r_Table : Value} (r_r_Table : (Ty.sl (Ty.sl (Ty.sl (Ty.i .i64)))).rep w v_r_Table r_Table) {res : Bool} (h : p_spec_l03Is r_Table  = some res) :
    Ret Try.prog 60 #[(Value.agg #[v_r_Table])] w (fun v w' => v = Value.bool res ∧ Ext w w') := by
  unfold p_spec_l03Is at h
  have hS0 : St w w [] := St.start w
  refine Ret.start (fn := Try.f60) Try.func60 rfl 13 rfl rfl ?_
  refine W.seq ?_
  refine W.region ?_
  refine WL.box hS0 rfl (cs := [v_r_Table]) rfl rfl ?_
  intro b1 wd2 hS3 he4 hx5
  replace hS3 : St w wd2 [bx b1 [v_r_Table]] := hS3
  have hx6 := St.boxAt hS3 0 rfl
  have hE7 : Ext w wd2 := hS3.ext
  have hS8 : St wd2 wd2 [] := St.start wd2
  refine WL.val (Value.bool false) _ (op_assign rfl) rfl ?_
  refine WL.nil ?_
  show W _ _ _ _ _ _
  refine W.seq ?_
  refine W.region ?_
  refine WL.val (Value.pointer (some ⟨b1, 0, none⟩)) _ (op_fieldAddr fd_29_0 rfl) rfl ?_
  refine WL.val v_r_Table _ (op_load one_22 rfl (BoxAt.cell (BoxAt.lift hS8.ext hx6) rfl)) rfl ?_
  obtain ⟨x9, hx10, h⟩ := bs h
  refine WL.call _ (op_call fn_88 (args1 rfl)) (c_spec_l03Cube (Ty.lift _ (Ext.trans hE7 hS8.ext) r_r_Table) hx10) rfl ?_
  rintro _ wd11 ⟨rfl, he12⟩
  have hS14 := St.extend hS8 he12
  replace hS14 : St wd2 wd11 [] := hS14
  refine WL.val (Value.bool x9) _ (op_move rfl) rfl ?_
  obtain ⟨x16, hj17, h⟩ := bs h
  refine WL.cut 6 (fun fq wq => fq 12 = Value.bool x16 ∧ St wd2 wq []) ?_ ?_
  · rcases Bool.eq_false_or_eq_true x9 with hc15 | hc15
    · replace hj17 := ip hj17 hc15
      refine WL.grun rfl (bool_of rfl hc15) ?_
      refine WL.val (Value.pointer (some ⟨b1, 0, none⟩)) _ (op_fieldAddr fd_29_0 rfl) rfl ?_
      refine WL.grun rfl (bool_of rfl hc15) ?_
      refine WL.val v_r_Table _ (op_load one_22 rfl (BoxAt.cell (BoxAt.lift hS14.ext hx6) rfl)) rfl ?_
      refine WL.grun rfl (bool_of rfl hc15) ?_
      obtain ⟨x21, hx22, hj17⟩ := bs hj17
      refine WL.call _ (op_call fn_89 (args1 rfl)) (c_spec_l03Fault (Ty.lift _ (Ext.trans hE7 hS14.ext) r_r_Table) hx22) rfl ?_
      rintro u23 wd24 ⟨_, rfl, he25, hs26⟩
      have hS27 := St.join hS14 he25 hs26
      replace hS27 : St wd2 wd24 [(Ty.sl (Ty.i .i64)).at u23 x21] := hS27
      refine WL.grun rfl (bool_of rfl hc15) ?_
      have hr28 := inR_len (St.rep (t := (Ty.sl (Ty.i .i64))) hS27 0 rfl)
      refine WL.val (Value.int .i64 ((x21).length : Int)) _ (op_lenL sl_25 (St.rep (t := (Ty.sl (Ty.i .i64))) hS27 0 rfl) rfl) rfl ?_
      refine WL.grun rfl (bool_of rfl hc15) ?_
      refine WL.val (Value.bool (((x21).length : Int) == (0 : Int))) _ (op_eql rfl rfl) rfl ?_
      refine WL.val (Value.bool (((x21).length : Int) == (0 : Int))) _ (op_pick_t (evb_of rfl hc15) rfl) rfl ?_
      refine WL.nil ?_
      obtain rfl := Option.some.inj hj17
      exact ⟨rfl, rfl, (St.pick hS27 [] rfl)⟩
    · replace hj17 := inegb hj17 hc15
      refine WL.gskip rfl (bool_of rfl hc15) rfl ?_
      refine WL.gskip rfl (bool_of rfl hc15) rfl ?_
      refine WL.gskip rfl (bool_of rfl hc15) rfl ?_
      refine WL.gskip rfl (bool_of rfl hc15) rfl ?_
      refine WL.gskip rfl (bool_of rfl hc15) rfl ?_
      refine WL.val (Value.bool false) _ (op_pick_f (evb_of rfl hc15) rfl) rfl ?_
      refine WL.nil ?_
      obtain rfl := Option.some.inj hj17
      exact ⟨rfl, rfl, hS14⟩
  · intro f18 wd19 hq20
    obtain ⟨hf29, hS30⟩ := hq20
    refine WL.val (Value.bool x16) _ (op_assign hf29) rfl ?_
    refine WL.nil ?_
    show W _ _ _ _ _ _
    refine W.ret ?_
    obtain rfl := Option.some.inj h
    show FinP _ _ _ _ _ _ _
    exact FinP.ret _ (res1 rfl rfl) ⟨rfl, (Ext.trans hE7 hS30.ext)⟩

theorem c_spec_l01Same {w : World} {a : (List Int)} {v_a : Value} {b : (List Int)} {v_b : Value} (r_a : (Ty.sl (Ty.i .i64)).rep w v_a a) (r_b : (Ty.sl (Ty.i .i64)).rep w v_b b) {res : Bool} (h : p_spec_l01Same a b  = some res) :
    Ret Try.prog 51 #[v_a, v_b] w (fun v w' => v = Value.bool res ∧ Ext w w') := by
  unfold p_spec_l01Same at h
  have hS0 : St w w [] := St.start w
  refine Ret.start (fn := Try.f51) Try.func51 rfl 26 rfl rfl ?_
  refine W.seq ?_
  refine W.region ?_
  refine WL.val (Value.bool false) _ (op_assign rfl) rfl ?_
  refine WL.nil ?_
  show W _ _ _ _ _ _
  refine W.seq ?_
  refine W.seq ?_
  refine W.region ?_
  refine WL.val v_a _ (op_move rfl) rfl ?_
  have hr1 := inR_len (Ty.lift _ hS0.ext r_a)
  refine WL.val (Value.int .i64 ((a).length : Int)) _ (op_lenL sl_25 (Ty.lift _ hS0.ext r_a) rfl) rfl ?_
  refine WL.val v_b _ (op_move rfl) rfl ?_
  have hr2 := inR_len (Ty.lift _ hS0.ext r_b)
  refine WL.val (Value.int .i64 ((b).length : Int)) _ (op_lenL sl_25 (Ty.lift _ hS0.ext r_b) rfl) rfl ?_
  refine WL.val (Value.bool (((a).length : Int) != ((b).length : Int))) _ (op_neq rfl rfl) rfl ?_
  refine WL.nil ?_
  show W _ _ _ _ _ _
  refine W.cond (((a).length : Int) != ((b).length : Int)) rfl (fun hc3 => ?_) (fun hc3 => ?_)
  · replace h := ip h hc3
    refine W.seq ?_
    refine W.region ?_
    refine WL.val (Value.bool false) _ (op_assign rfl) rfl ?_
    refine WL.nil ?_
    show W _ _ _ _ _ _
    refine W.ret ?_
    obtain rfl := Option.some.inj h
    show FinP _ _ _ _ _ _ _
    exact FinP.ret _ (res1 rfl rfl) ⟨rfl, hS0.ext⟩
  · replace h := inegb h hc3
    refine W.skip ?_
    show W _ _ _ _ _ _
    refine W.seq ?_
    refine W.seq ?_
    refine W.region ?_
    refine WL.val (Value.int .i64 (0 : Int)) _ (op_assign rfl) rfl ?_
    refine WL.nil ?_
    show W _ _ _ _ _ _
    obtain ⟨res5, hres6, h⟩ := bs h
    refine W.blockLoop (fun fq wq => ∃ s, res5 = Res.fin s ∧ St w wq []) ?_ ?_
    · refine W.forN (fun k (s : Unit) fq wq => fq 0 = v_a ∧ fq 1 = v_b ∧ fq 5 = Value.int .i64 (k : Int) ∧ InR .i64 (k : Int) ∧ St w wq []) hres6 ⟨rfl, rfl, rfl, (inR_i64.2 (show (-9223372036854775808 : Int) ≤ 0 ∧ (0 : Int) ≤ 9223372036854775807 from by decide)), hS0⟩ ?_ ?_
      · intro k7 s113 ct8 f9 wd10 hk11 hb12 hI13 hbrk14 hret15
        obtain ⟨⟩ := s113
        replace hI13 : f9 0 = v_a ∧ f9 1 = v_b ∧ f9 5 = Value.int .i64 (k7 : Int) ∧ InR .i64 (k7 : Int) ∧ St w wd10 [] := hI13
        replace hb12 : p_spec_l01Same_L1 a b k7  = some ct8 := hb12
        unfold p_spec_l01Same_L1 at hb12
        obtain ⟨hf16, hf17, hf18, hr19, hS20⟩ := hI13
        refine W.seq ?_
        refine W.seq ?_
        refine W.region ?_
        refine WL.val (Value.int .i64 (k7 : Int)) _ (op_move hf18) rfl ?_
        refine WL.val v_a _ (op_move hf16) rfl ?_
        have hr21 := inR_len (Ty.lift _ hS20.ext r_a)
        refine WL.val (Value.int .i64 ((a).length : Int)) _ (op_lenL sl_25 (Ty.lift _ hS20.ext r_a) rfl) rfl ?_
        refine WL.val (Value.bool (decide ((k7 : Int) < ((a).length : Int)))) _ (op_lss rfl rfl) rfl ?_
        have hl22 : (k7 : Int) < ((a).length : Int) := by omega
        refine WL.nil ?_
        show W _ _ _ _ _ _
        refine W.condT (decide ((k7 : Int) < ((a).length : Int))) rfl (decide_eq_true hl22) ?_
        refine W.skip ?_
        show W _ _ _ _ _ _
        refine W.seq ?_
        refine W.block ?_
        refine W.seq ?_
        obtain ⟨x47, hx50, hb12⟩ := bs hb12
        obtain ⟨ha48, hb49, hx50⟩ := idx_some hx50
        obtain ⟨u58, hc59, hr60⟩ := repSl.el r_a hx50
        obtain ⟨rfl, hr60⟩ := hr60
        obtain ⟨x84, hx87, hb12⟩ := bs hb12
        obtain ⟨ha85, hb86, hx87⟩ := idx_some hx87
        obtain ⟨u95, hc96, hr97⟩ := repSl.el r_b hx87
        obtain ⟨rfl, hr97⟩ := hr97
        refine W.draw mixo 8 [fun v _ => v = v_a, fun v _ => v = (Value.int .i64 (k7 : Int)) ∧ InR .i64 (k7 : Int), fun v _ => v = (Value.pointer (some (elA v_a ((k7 : Int)).toNat))), fun v _ => v = (Value.int .i64 x47) ∧ InR .i64 x47, fun v _ => v = v_b, fun v _ => v = (Value.int .i64 (k7 : Int)) ∧ InR .i64 (k7 : Int), fun v _ => v = (Value.pointer (some (elA v_b ((k7 : Int)).toNat))), fun v _ => v = (Value.int .i64 x84) ∧ InR .i64 x84] (by kernel_rfl) (by kernel_rfl) (stabL ⟨(fun _ _ _ _ h => h), (fun _ _ _ _ h => h), (fun _ _ _ _ h => h), (fun _ _ _ _ h => h), (fun _ _ _ _ h => h), (fun _ _ _ _ h => h), (fun _ _ _ _ h => h), (fun _ _ _ _ h => h), trivial⟩) ⟨?_, ?_, ?_, ?_, ?_, ?_, ?_, ?_, trivial⟩ ?_
        · intro f24 wd25 he26 hout27 hphi28
          have hS29 : St w wd25 [] := St.extend hS20 he26
          have e30 : f24 0 = v_a := (hout27 0 rfl).trans hf16
          exact OpY.val v_a wd25 rfl (op_move e30) (Ext.refl _) rfl
        · intro f31 wd32 he33 hout34 hphi35
          have hS36 : St w wd32 [] := St.extend hS20 he33
          have e37 : f31 5 = (Value.int .i64 (k7 : Int)) := (hout34 5 rfl).trans hf18
          exact OpY.val (Value.int .i64 (k7 : Int)) wd32 rfl (op_move e37) (Ext.refl _) ⟨rfl, hr19⟩
        · intro f38 wd39 he40 hout41 hphi42
          have hS43 : St w wd39 [] := St.extend hS20 he40
          have e44 : f38 17 = v_a := hphi42 0 17 _ rfl rfl rfl
          obtain ⟨e45, hr46⟩ : f38 18 = (Value.int .i64 (k7 : Int)) ∧ InR .i64 (k7 : Int) := hphi42 1 18 _ rfl rfl rfl
          exact OpY.val (Value.pointer (some (elA v_a ((k7 : Int)).toNat))) wd39 rfl (op_idx sl_25 (Ty.lift _ hS43.ext r_a) e44 e45 ha48 hb49) (Ext.refl _) rfl
        · intro f51 wd52 he53 hout54 hphi55
          have hS56 : St w wd52 [] := St.extend hS20 he53
          have e57 : f51 19 = (Value.pointer (some (elA v_a ((k7 : Int)).toNat))) := hphi55 2 19 _ rfl rfl rfl
          exact OpY.val (Value.int .i64 x47) wd52 rfl (op_load one_2 e57 (Ext.cell hS56.ext hc59)) (Ext.refl _) ⟨rfl, hr60⟩
        · intro f61 wd62 he63 hout64 hphi65
          have hS66 : St w wd62 [] := St.extend hS20 he63
          have e67 : f61 1 = v_b := (hout64 1 rfl).trans hf17
          exact OpY.val v_b wd62 rfl (op_move e67) (Ext.refl _) rfl
        · intro f68 wd69 he70 hout71 hphi72
          have hS73 : St w wd69 [] := St.extend hS20 he70
          have e74 : f68 5 = (Value.int .i64 (k7 : Int)) := (hout71 5 rfl).trans hf18
          exact OpY.val (Value.int .i64 (k7 : Int)) wd69 rfl (op_move e74) (Ext.refl _) ⟨rfl, hr19⟩
        · intro f75 wd76 he77 hout78 hphi79
          have hS80 : St w wd76 [] := St.extend hS20 he77
          have e81 : f75 21 = v_b := hphi79 4 21 _ rfl rfl rfl
          obtain ⟨e82, hr83⟩ : f75 22 = (Value.int .i64 (k7 : Int)) ∧ InR .i64 (k7 : Int) := hphi79 5 22 _ rfl rfl rfl
          exact OpY.val (Value.pointer (some (elA v_b ((k7 : Int)).toNat))) wd76 rfl (op_idx sl_25 (Ty.lift _ hS80.ext r_b) e81 e82 ha85 hb86) (Ext.refl _) rfl
        · intro f88 wd89 he90 hout91 hphi92
          have hS93 : St w wd89 [] := St.extend hS20 he90
          have e94 : f88 23 = (Value.pointer (some (elA v_b ((k7 : Int)).toNat))) := hphi92 6 23 _ rfl rfl rfl
          exact OpY.val (Value.int .i64 x84) wd89 rfl (op_load one_2 e94 (Ext.cell hS93.ext hc96)) (Ext.refl _) ⟨rfl, hr97⟩
        · intro f98 wd99 he100 hout101 hphi102
          show WL _ _ _ _ _ _ _
          have hS103 : St w wd99 [] := St.extend hS20 he100
          obtain ⟨e104, hr105⟩ : f98 20 = (Value.int .i64 x47) ∧ InR .i64 x47 := hphi102 3 20 _ (by decide) rfl rfl
          obtain ⟨e106, hr107⟩ : f98 24 = (Value.int .i64 x84) ∧ InR .i64 x84 := hphi102 7 24 _ (by decide) rfl rfl
          have e108 : f98 0 = v_a := (hout101 0 rfl).trans hf16
          have e109 : f98 1 = v_b := (hout101 1 rfl).trans hf17
          have e110 : f98 5 = (Value.int .i64 (k7 : Int)) := (hout101 5 rfl).trans hf18
          refine WL.val (Value.bool (x47 != x84)) _ (op_neq e104 e106) rfl ?_
          refine WL.nil ?_
          show W _ _ _ _ _ _
          refine W.cond (x47 != x84) rfl (fun hc111 => ?_) (fun hc111 => ?_)
          · replace hb12 := ip hb12 hc111
            refine W.seq ?_
            refine W.region ?_
            refine WL.val (Value.bool false) _ (op_assign rfl) rfl ?_
            refine WL.nil ?_
            show W _ _ _ _ _ _
            refine W.ret ?_
            obtain rfl := Option.some.inj hb12
            obtain rfl := hret15 _ rfl
            replace h := onRes_ret h
            obtain rfl := Option.some.inj h
            show FinP _ _ _ _ _ _ _
            exact FinP.ret _ (res1 rfl rfl) ⟨rfl, hS103.ext⟩
          · replace hb12 := inegb hb12 hc111
            refine W.skip ?_
            show W _ _ _ _ _ _
            refine W.region ?_
            refine WL.val (Value.int .i64 (k7 : Int)) _ (op_move e110) rfl ?_
            refine WL.val (Value.int .i64 (w64 ((k7 : Int) + (1 : Int)))) _ (op_add rfl rfl) rfl ?_
            refine WL.val (Value.int .i64 (w64 ((k7 : Int) + (1 : Int)))) _ (op_assign rfl) rfl ?_
            refine WL.nil ?_
            obtain rfl := Option.some.inj hb12
            show ∃ s, _ = Ctl.next s ∧ _
            exact ⟨_, rfl, e108, e109, (ctr_next hl22 hr21), (ctr_rng hl22 hr21), hS103⟩
      · intro s118 f114 wd115 hs116 hI117
        obtain ⟨⟩ := s118
        replace hI117 : f114 0 = v_a ∧ f114 1 = v_b ∧ f114 5 = Value.int .i64 (((a).length : Nat) : Int) ∧ InR .i64 (((a).length : Nat) : Int) ∧ St w wd115 [] := hI117
        obtain ⟨hf119, hf120, hf121, hr122, hS123⟩ := hI117
        refine W.seq ?_
        refine W.seq ?_
        refine W.region ?_
        refine WL.val (Value.int .i64 (((a).length : Nat) : Int)) _ (op_move hf121) rfl ?_
        refine WL.val v_a _ (op_move hf119) rfl ?_
        have hr124 := inR_len (Ty.lift _ hS123.ext r_a)
        refine WL.val (Value.int .i64 ((a).length : Int)) _ (op_lenL sl_25 (Ty.lift _ hS123.ext r_a) rfl) rfl ?_
        refine WL.val (Value.bool (decide ((((a).length : Nat) : Int) < ((a).length : Int)))) _ (op_lss rfl rfl) rfl ?_
        have hl125 : ¬ (((a).length : Nat) : Int) < ((a).length : Int) := by omega
        refine WL.nil ?_
        show W _ _ _ _ _ _
        refine W.condF (decide ((((a).length : Nat) : Int) < ((a).length : Int))) rfl (decide_eq_false hl125) ?_
        refine W.exit ?_
        show _ = _ ∧ _
        exact ⟨rfl, _, hs116, hS123⟩
    · rintro f126 wd127 ⟨s129, rfl, hq128⟩
      replace h := onRes_fin h
      obtain ⟨⟩ := s129
      replace hq128 : St w wd127 [] := hq128
      have hS130 := hq128
      show W _ _ _ _ _ _
      refine W.seq ?_
      refine W.region ?_
      refine WL.val (Value.bool true) _ (op_assign rfl) rfl ?_
      refine WL.nil ?_
      show W _ _ _ _ _ _
      refine W.ret ?_
      obtain rfl := Option.some.inj h
      show FinP _ _ _ _ _ _ _
      exact FinP.ret _ (res1 rfl rfl) ⟨rfl, hS130.ext⟩

end Go.VG
