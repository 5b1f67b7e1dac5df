/- The walks, part 1: each Go function returns what its plain twin returns. No condition beyond what each names. -/
import Derived.Test.YtmofhdohclbidaaGPure
import Derived.Test.YtmofhdohclbidaaGFacts
set_option linter.all false
namespace Go.VG
open Go.Proofs
attribute [local irreducible] W WL Sep FinP

theorem c_laws_szInt64S {w : World} {a : (List Int)} {v_a : Value} {left : Int} (r_a : (Ty.sl (Ty.i .i64)).rep w v_a a) (r_left : InR .i64 left) {res : Int} (h : p_laws_szInt64S a left  = some res) :
    Ret Try.prog 9 #[v_a, (Value.int .i64 left)] w (fun v w' => v = Value.int .i64 res ∧ InR .i64 res ∧ Ext w w') := by
  unfold p_laws_szInt64S at h
  have hS0 : St w w [] := St.start w
  refine Ret.start (fn := Try.f9) Try.func9 rfl 12 rfl rfl ?_
  refine W.seq (W.region ?_)
  refine WL.val (Value.int .i64 (0 : Int)) _ (op_assign rfl) rfl ?_
  refine WL.nil ?_
  refine W.seq (W.region ?_)
  refine WL.val (Value.int .i64 left) _ (op_move rfl) rfl ?_
  refine WL.val v_a _ (op_move rfl) rfl ?_
  have hr1 := inR_len (Ty.lift _ hS0.ext r_a)
  refine WL.val (Value.int .i64 ((a).length : Int)) _ (op_lenL sl_22 (Ty.lift _ hS0.ext r_a) rfl) rfl ?_
  refine WL.val (Value.int .i64 (w64 (left - ((a).length : Int)))) _ (op_sub rfl rfl) rfl ?_
  refine WL.val (Value.int .i64 (w64 (left - ((a).length : Int)))) _ (op_assign rfl) rfl ?_
  refine WL.nil ?_
  refine W.seq (W.seq (W.region ?_))
  refine WL.val (Value.int .i64 (w64 (left - ((a).length : Int)))) _ (op_move rfl) rfl ?_
  refine WL.val (Value.bool (decide ((w64 (left - ((a).length : Int))) < (0 : Int)))) _ (op_lss rfl rfl) rfl ?_
  refine WL.nil ?_
  refine W.cond (decide ((w64 (left - ((a).length : Int))) < (0 : Int))) rfl (fun hc2 => ?_) (fun hc2 => ?_)
  · replace h := ip h hc2
    refine W.seq (W.region ?_)
    refine WL.val (Value.int .i64 (-1 : Int)) _ (op_assign rfl) rfl ?_
    refine WL.nil ?_
    refine W.ret ?_
    obtain rfl := Option.some.inj h
    show FinP _ _ _ _ _ _ _
    exact FinP.ret _ (res1 rfl rfl) ⟨rfl, (inR_i64.2 (show (-9223372036854775808 : Int) ≤ -1 ∧ (-1 : Int) ≤ 9223372036854775807 from by decide)), hS0.ext⟩
  · replace h := inegb h hc2
    refine W.skip ?_
    refine W.seq (W.region ?_)
    refine WL.val (Value.int .i64 (w64 (left - ((a).length : Int)))) _ (op_move rfl) rfl ?_
    refine WL.val (Value.int .i64 (w64 (left - ((a).length : Int)))) _ (op_assign rfl) rfl ?_
    refine WL.nil ?_
    refine W.ret ?_
    obtain rfl := Option.some.inj h
    show FinP _ _ _ _ _ _ _
    exact FinP.ret _ (res1 rfl rfl) ⟨rfl, (inR_wrap _ _), hS0.ext⟩

theorem c_laws_szInt64SS {w : World} {a : (List (List Int))} {v_a : Value} {left : Int} (r_a : (Ty.sl (Ty.sl (Ty.i .i64))).rep w v_a a) (r_left : InR .i64 left) {res : Int} (h : p_laws_szInt64SS a left  = some res) :
    Ret Try.prog 25 #[v_a, (Value.int .i64 left)] w (fun v w' => v = Value.int .i64 res ∧ InR .i64 res ∧ Ext w w') := by
  unfold p_laws_szInt64SS at h
  have hS0 : St w w [] := St.start w
  refine Ret.start (fn := Try.f25) Try.func25 rfl 27 rfl rfl ?_
  refine W.seq (W.region ?_)
  refine WL.val (Value.int .i64 (0 : Int)) _ (op_assign rfl) rfl ?_
  refine WL.nil ?_
  refine W.seq (W.region ?_)
  refine WL.val (Value.int .i64 left) _ (op_move rfl) rfl ?_
  refine WL.val v_a _ (op_move rfl) rfl ?_
  have hr1 := inR_len (Ty.lift _ hS0.ext r_a)
  refine WL.val (Value.int .i64 ((a).length : Int)) _ (op_lenL sl_37 (Ty.lift _ hS0.ext r_a) rfl) rfl ?_
  refine WL.val (Value.int .i64 (w64 (left - ((a).length : Int)))) _ (op_sub rfl rfl) rfl ?_
  refine WL.val (Value.int .i64 (w64 (left - ((a).length : Int)))) _ (op_assign rfl) rfl ?_
  refine WL.nil ?_
  refine W.seq (W.seq (W.region ?_))
  refine WL.val (Value.int .i64 (w64 (left - ((a).length : Int)))) _ (op_move rfl) rfl ?_
  refine WL.val (Value.bool (decide ((w64 (left - ((a).length : Int))) < (0 : Int)))) _ (op_lss rfl rfl) rfl ?_
  refine WL.nil ?_
  refine W.cond (decide ((w64 (left - ((a).length : Int))) < (0 : Int))) rfl (fun hc2 => ?_) (fun hc2 => ?_)
  · replace h := ip h hc2
    refine W.seq (W.region ?_)
    refine WL.val (Value.int .i64 (-1 : Int)) _ (op_assign rfl) rfl ?_
    refine WL.nil ?_
    refine W.ret ?_
    obtain rfl := Option.some.inj h
    show FinP _ _ _ _ _ _ _
    exact FinP.ret _ (res1 rfl rfl) ⟨rfl, (inR_i64.2 (show (-9223372036854775808 : Int) ≤ -1 ∧ (-1 : Int) ≤ 9223372036854775807 from by decide)), hS0.ext⟩
  · replace h := inegb h hc2
    refine W.skip ?_
    refine W.seq (W.seq (W.region ?_))
    refine WL.val (Value.int .i64 (0 : Int)) _ (op_assign rfl) rfl ?_
    refine WL.nil ?_
    show W _ _ _ _ _ _
    obtain ⟨res4, hres5, h⟩ := bs h
    refine W.blockLoop (fun fq wq => ∃ s, res4 = Res.fin s ∧ fq 1 = Value.int .i64 s ∧ InR .i64 s ∧ St w wq []) ?_ ?_
    · refine W.forN (fun k (s : Int) fq wq => fq 0 = v_a ∧ fq 1 = Value.int .i64 s ∧ InR .i64 s ∧ fq 5 = Value.int .i64 (k : Int) ∧ InR .i64 (k : Int) ∧ St w wq []) hres5 ⟨rfl, rfl, (inR_wrap _ _), rfl, (inL rfl), hS0⟩ ?_ ?_
      · intro k6 x7 ct8 f9 wd10 hk11 hb12 hI13 hbrk14 hret15
        replace hI13 : f9 0 = v_a ∧ f9 1 = Value.int .i64 x7 ∧ InR .i64 x7 ∧ f9 5 = Value.int .i64 (k6 : Int) ∧ InR .i64 (k6 : Int) ∧ St w wd10 [] := hI13
        replace hb12 : p_laws_szInt64SS_L1 a k6 x7 = some ct8 := hb12
        unfold p_laws_szInt64SS_L1 at hb12
        obtain ⟨hf16, hf17, hr18, hf19, hr20, hS21⟩ := hI13
        refine W.seq (W.seq (W.region ?_))
        refine WL.val (Value.int .i64 (k6 : Int)) _ (op_move hf19) rfl ?_
        refine WL.val v_a _ (op_move hf16) rfl ?_
        have hr22 := inR_len (Ty.lift _ hS21.ext r_a)
        refine WL.val (Value.int .i64 ((a).length : Int)) _ (op_lenL sl_37 (Ty.lift _ hS21.ext r_a) rfl) rfl ?_
        refine WL.val (Value.bool (decide ((k6 : Int) < ((a).length : Int)))) _ (op_lss rfl rfl) rfl ?_
        have hl23 : (k6 : Int) < ((a).length : Int) := by omega
        refine WL.nil ?_
        refine W.condT (decide ((k6 : Int) < ((a).length : Int))) rfl (decide_eq_true hl23) ?_
        refine W.skip ?_
        refine W.seq ?_
        refine W.block ?_
        refine W.seq (W.region ?_)
        refine WL.val v_a _ (op_move hf16) rfl ?_
        refine WL.val (Value.int .i64 (k6 : Int)) _ (op_move hf19) rfl ?_
        obtain ⟨x25, hx28, hb12⟩ := bs hb12
        obtain ⟨ha26, hb27, hx28⟩ := idx_some hx28
        refine WL.val (Value.pointer (some (elA v_a ((k6 : Int)).toNat))) _ (op_idx sl_37 (Ty.lift _ hS21.ext r_a) rfl rfl ha26 hb27) rfl ?_
        obtain ⟨u29, hc30, hr31⟩ := repSl.el r_a hx28
        refine WL.val u29 _ (op_load one_22 rfl (Ext.cell hS21.ext hc30)) rfl ?_
        refine WL.val (Value.int .i64 x7) _ (op_move hf17) rfl ?_
        obtain ⟨x32, hx33, hb12⟩ := bs hb12
        refine WL.call _ (op_call fn_9 (args2 rfl rfl)) (c_laws_szInt64S (Ty.lift _ hS21.ext hr31) hr18 hx33) rfl ?_
        rintro _ wd35 ⟨rfl, hr34, he36⟩
        have hS38 := St.extend hS21 he36
        replace hS38 : St w wd35 [] := hS38
        refine WL.val (Value.int .i64 x32) _ (op_assign rfl) rfl ?_
        refine WL.nil ?_
        refine W.seq (W.region ?_)
        refine WL.val (Value.int .i64 x32) _ (op_move rfl) rfl ?_
        refine WL.val (Value.bool (decide (x32 < (0 : Int)))) _ (op_lss rfl rfl) rfl ?_
        refine WL.nil ?_
        refine W.cond (decide (x32 < (0 : Int))) rfl (fun hc39 => ?_) (fun hc39 => ?_)
        · replace hb12 := ip hb12 hc39
          refine W.seq (W.region ?_)
          refine WL.val (Value.int .i64 (-1 : Int)) _ (op_assign rfl) rfl ?_
          refine WL.nil ?_
          refine W.ret ?_
          obtain rfl := Option.some.inj hb12
          obtain rfl := hret15 _ rfl
          replace h := onRes_ret h
          obtain rfl := Option.some.inj h
          show FinP _ _ _ _ _ _ _
          exact FinP.ret _ (res1 rfl rfl) ⟨rfl, (inR_i64.2 (show (-9223372036854775808 : Int) ≤ -1 ∧ (-1 : Int) ≤ 9223372036854775807 from by decide)), hS38.ext⟩
        · replace hb12 := inegb hb12 hc39
          refine W.skip ?_
          show W _ _ _ _ _ _
          refine W.region ?_
          refine WL.val (Value.int .i64 (k6 : Int)) _ (op_move hf19) rfl ?_
          refine WL.val (Value.int .i64 (w64 ((k6 : Int) + (1 : Int)))) _ (op_add rfl rfl) rfl ?_
          refine WL.val (Value.int .i64 (w64 ((k6 : Int) + (1 : Int)))) _ (op_assign rfl) rfl ?_
          refine WL.nil ?_
          obtain rfl := Option.some.inj hb12
          show ∃ s, _ = Ctl.next s ∧ _
          exact ⟨_, rfl, hf16, rfl, hr34, (ctr_next hl23 hr22), (ctr_rng hl23 hr22), hS38⟩
      · intro x47 f42 wd43 hs44 hI45
        replace hI45 : f42 0 = v_a ∧ f42 1 = Value.int .i64 x47 ∧ InR .i64 x47 ∧ f42 5 = Value.int .i64 (((a).length : Nat) : Int) ∧ InR .i64 (((a).length : Nat) : Int) ∧ St w wd43 [] := hI45
        obtain ⟨hf48, hf49, hr50, hf51, hr52, hS53⟩ := hI45
        refine W.seq (W.seq (W.region ?_))
        refine WL.val (Value.int .i64 (((a).length : Nat) : Int)) _ (op_move hf51) rfl ?_
        refine WL.val v_a _ (op_move hf48) rfl ?_
        have hr54 := inR_len (Ty.lift _ hS53.ext r_a)
        refine WL.val (Value.int .i64 ((a).length : Int)) _ (op_lenL sl_37 (Ty.lift _ hS53.ext r_a) rfl) rfl ?_
        refine WL.val (Value.bool (decide ((((a).length : Nat) : Int) < ((a).length : Int)))) _ (op_lss rfl rfl) rfl ?_
        have hl55 : ¬ (((a).length : Nat) : Int) < ((a).length : Int) := by omega
        refine WL.nil ?_
        refine W.condF (decide ((((a).length : Nat) : Int) < ((a).length : Int))) rfl (decide_eq_false hl55) ?_
        refine W.exit ?_
        show _ = _ ∧ _
        exact ⟨rfl, _, hs44, hf49, hr50, hS53⟩
    · rintro f56 wd57 ⟨x60, rfl, hq58⟩
      replace h := onRes_fin h
      replace hq58 : f56 1 = Value.int .i64 x60 ∧ InR .i64 x60 ∧ St w wd57 [] := hq58
      obtain ⟨hf61, hr62, hS63⟩ := hq58
      refine W.seq (W.region ?_)
      refine WL.val (Value.int .i64 x60) _ (op_move hf61) rfl ?_
      refine WL.val (Value.int .i64 x60) _ (op_assign rfl) rfl ?_
      refine WL.nil ?_
      refine W.ret ?_
      obtain rfl := Option.some.inj h
      show FinP _ _ _ _ _ _ _
      exact FinP.ret _ (res1 rfl rfl) ⟨rfl, hr62, hS63.ext⟩

theorem c_laws_szInt64SSS {w : World} {a : (List (List (List Int)))} {v_a : Value} {left : Int} (r_a : (Ty.sl (Ty.sl (Ty.sl (Ty.i .i64)))).rep w v_a a) (r_left : InR .i64 left) {res : Int} (h : p_laws_szInt64SSS a left  = some res) :
    Ret Try.prog 10 #[v_a, (Value.int .i64 left)] w (fun v w' => v = Value.int .i64 res ∧ InR .i64 res ∧ Ext w w') := by
  unfold p_laws_szInt64SSS at h
  have hS0 : St w w [] := St.start w
  refine Ret.start (fn := Try.f10) Try.func10 rfl 27 rfl rfl ?_
  refine W.seq (W.region ?_)
  refine WL.val (Value.int .i64 (0 : Int)) _ (op_assign rfl) rfl ?_
  refine WL.nil ?_
  refine W.seq (W.region ?_)
  refine WL.val (Value.int .i64 left) _ (op_move rfl) rfl ?_
  refine WL.val v_a _ (op_move rfl) rfl ?_
  have hr1 := inR_len (Ty.lift _ hS0.ext r_a)
  refine WL.val (Value.int .i64 ((a).length : Int)) _ (op_lenL sl_23 (Ty.lift _ hS0.ext r_a) rfl) rfl ?_
  refine WL.val (Value.int .i64 (w64 (left - ((a).length : Int)))) _ (op_sub rfl rfl) rfl ?_
  refine WL.val (Value.int .i64 (w64 (left - ((a).length : Int)))) _ (op_assign rfl) rfl ?_
  refine WL.nil ?_
  refine W.seq (W.seq (W.region ?_))
  refine WL.val (Value.int .i64 (w64 (left - ((a).length : Int)))) _ (op_move rfl) rfl ?_
  refine WL.val (Value.bool (decide ((w64 (left - ((a).length : Int))) < (0 : Int)))) _ (op_lss rfl rfl) rfl ?_
  refine WL.nil ?_
  refine W.cond (decide ((w64 (left - ((a).length : Int))) < (0 : Int))) rfl (fun hc2 => ?_) (fun hc2 => ?_)
  · replace h := ip h hc2
    refine W.seq (W.region ?_)
    refine WL.val (Value.int .i64 (-1 : Int)) _ (op_assign rfl) rfl ?_
    refine WL.nil ?_
    refine W.ret ?_
    obtain rfl := Option.some.inj h
    show FinP _ _ _ _ _ _ _
    exact FinP.ret _ (res1 rfl rfl) ⟨rfl, (inR_i64.2 (show (-9223372036854775808 : Int) ≤ -1 ∧ (-1 : Int) ≤ 9223372036854775807 from by decide)), hS0.ext⟩
  · replace h := inegb h hc2
    refine W.skip ?_
    refine W.seq (W.seq (W.region ?_))
    refine WL.val (Value.int .i64 (0 : Int)) _ (op_assign rfl) rfl ?_
    refine WL.nil ?_
    show W _ _ _ _ _ _
    obtain ⟨res4, hres5, h⟩ := bs h
    refine W.blockLoop (fun fq wq => ∃ s, res4 = Res.fin s ∧ fq 1 = Value.int .i64 s ∧ InR .i64 s ∧ St w wq []) ?_ ?_
    · refine W.forN (fun k (s : Int) fq wq => fq 0 = v_a ∧ fq 1 = Value.int .i64 s ∧ InR .i64 s ∧ fq 5 = Value.int .i64 (k : Int) ∧ InR .i64 (k : Int) ∧ St w wq []) hres5 ⟨rfl, rfl, (inR_wrap _ _), rfl, (inL rfl), hS0⟩ ?_ ?_
      · intro k6 x7 ct8 f9 wd10 hk11 hb12 hI13 hbrk14 hret15
        replace hI13 : f9 0 = v_a ∧ f9 1 = Value.int .i64 x7 ∧ InR .i64 x7 ∧ f9 5 = Value.int .i64 (k6 : Int) ∧ InR .i64 (k6 : Int) ∧ St w wd10 [] := hI13
        replace hb12 : p_laws_szInt64SSS_L1 a k6 x7 = some ct8 := hb12
        unfold p_laws_szInt64SSS_L1 at hb12
        obtain ⟨hf16, hf17, hr18, hf19, hr20, hS21⟩ := hI13
        refine W.seq (W.seq (W.region ?_))
        refine WL.val (Value.int .i64 (k6 : Int)) _ (op_move hf19) rfl ?_
        refine WL.val v_a _ (op_move hf16) rfl ?_
        have hr22 := inR_len (Ty.lift _ hS21.ext r_a)
        refine WL.val (Value.int .i64 ((a).length : Int)) _ (op_lenL sl_23 (Ty.lift _ hS21.ext r_a) rfl) rfl ?_
        refine WL.val (Value.bool (decide ((k6 : Int) < ((a).length : Int)))) _ (op_lss rfl rfl) rfl ?_
        have hl23 : (k6 : Int) < ((a).length : Int) := by omega
        refine WL.nil ?_
        refine W.condT (decide ((k6 : Int) < ((a).length : Int))) rfl (decide_eq_true hl23) ?_
        refine W.skip ?_
        refine W.seq ?_
        refine W.block ?_
        refine W.seq (W.region ?_)
        refine WL.val v_a _ (op_move hf16) rfl ?_
        refine WL.val (Value.int .i64 (k6 : Int)) _ (op_move hf19) rfl ?_
        obtain ⟨x25, hx28, hb12⟩ := bs hb12
        obtain ⟨ha26, hb27, hx28⟩ := idx_some hx28
        refine WL.val (Value.pointer (some (elA v_a ((k6 : Int)).toNat))) _ (op_idx sl_23 (Ty.lift _ hS21.ext r_a) rfl rfl ha26 hb27) rfl ?_
        obtain ⟨u29, hc30, hr31⟩ := repSl.el r_a hx28
        refine WL.val u29 _ (op_load one_37 rfl (Ext.cell hS21.ext hc30)) rfl ?_
        refine WL.val (Value.int .i64 x7) _ (op_move hf17) rfl ?_
        obtain ⟨x32, hx33, hb12⟩ := bs hb12
        refine WL.call _ (op_call fn_25 (args2 rfl rfl)) (c_laws_szInt64SS (Ty.lift _ hS21.ext hr31) hr18 hx33) rfl ?_
        rintro _ wd35 ⟨rfl, hr34, he36⟩
        have hS38 := St.extend hS21 he36
        replace hS38 : St w wd35 [] := hS38
        refine WL.val (Value.int .i64 x32) _ (op_assign rfl) rfl ?_
        refine WL.nil ?_
        refine W.seq (W.region ?_)
        refine WL.val (Value.int .i64 x32) _ (op_move rfl) rfl ?_
        refine WL.val (Value.bool (decide (x32 < (0 : Int)))) _ (op_lss rfl rfl) rfl ?_
        refine WL.nil ?_
        refine W.cond (decide (x32 < (0 : Int))) rfl (fun hc39 => ?_) (fun hc39 => ?_)
        · replace hb12 := ip hb12 hc39
          refine W.seq (W.region ?_)
          refine WL.val (Value.int .i64 (-1 : Int)) _ (op_assign rfl) rfl ?_
          refine WL.nil ?_
          refine W.ret ?_
          obtain rfl := Option.some.inj hb12
          obtain rfl := hret15 _ rfl
          replace h := onRes_ret h
          obtain rfl := Option.some.inj h
          show FinP _ _ _ _ _ _ _
          exact FinP.ret _ (res1 rfl rfl) ⟨rfl, (inR_i64.2 (show (-9223372036854775808 : Int) ≤ -1 ∧ (-1 : Int) ≤ 9223372036854775807 from by decide)), hS38.ext⟩
        · replace hb12 := inegb hb12 hc39
          refine W.skip ?_
          show W _ _ _ _ _ _
          refine W.region ?_
          refine WL.val (Value.int .i64 (k6 : Int)) _ (op_move hf19) rfl ?_
          refine WL.val (Value.int .i64 (w64 ((k6 : Int) + (1 : Int)))) _ (op_add rfl rfl) rfl ?_
          refine WL.val (Value.int .i64 (w64 ((k6 : Int) + (1 : Int)))) _ (op_assign rfl) rfl ?_
          refine WL.nil ?_
          obtain rfl := Option.some.inj hb12
          show ∃ s, _ = Ctl.next s ∧ _
          exact ⟨_, rfl, hf16, rfl, hr34, (ctr_next hl23 hr22), (ctr_rng hl23 hr22), hS38⟩
      · intro x47 f42 wd43 hs44 hI45
        replace hI45 : f42 0 = v_a ∧ f42 1 = Value.int .i64 x47 ∧ InR .i64 x47 ∧ f42 5 = Value.int .i64 (((a).length : Nat) : Int) ∧ InR .i64 (((a).length : Nat) : Int) ∧ St w wd43 [] := hI45
        obtain ⟨hf48, hf49, hr50, hf51, hr52, hS53⟩ := hI45
        refine W.seq (W.seq (W.region ?_))
        refine WL.val (Value.int .i64 (((a).length : Nat) : Int)) _ (op_move hf51) rfl ?_
        refine WL.val v_a _ (op_move hf48) rfl ?_
        have hr54 := inR_len (Ty.lift _ hS53.ext r_a)
        refine WL.val (Value.int .i64 ((a).length : Int)) _ (op_lenL sl_23 (Ty.lift _ hS53.ext r_a) rfl) rfl ?_
        refine WL.val (Value.bool (decide ((((a).length : Nat) : Int) < ((a).length : Int)))) _ (op_lss rfl rfl) rfl ?_
        have hl55 : ¬ (((a).length : Nat) : Int) < ((a).length : Int) := by omega
        refine WL.nil ?_
        refine W.condF (decide ((((a).length : Nat) : Int) < ((a).length : Int))) rfl (decide_eq_false hl55) ?_
        refine W.exit ?_
        show _ = _ ∧ _
        exact ⟨rfl, _, hs44, hf49, hr50, hS53⟩
    · rintro f56 wd57 ⟨x60, rfl, hq58⟩
      replace h := onRes_fin h
      replace hq58 : f56 1 = Value.int .i64 x60 ∧ InR .i64 x60 ∧ St w wd57 [] := hq58
      obtain ⟨hf61, hr62, hS63⟩ := hq58
      refine W.seq (W.region ?_)
      refine WL.val (Value.int .i64 x60) _ (op_move hf61) rfl ?_
      refine WL.val (Value.int .i64 x60) _ (op_assign rfl) rfl ?_
      refine WL.nil ?_
      refine W.ret ?_
      obtain rfl := Option.some.inj h
      show FinP _ _ _ _ _ _ _
      exact FinP.ret _ (res1 rfl rfl) ⟨rfl, hr62, hS63.ext⟩

theorem c_laws_szCocycle {w : World} {a_Orders : (List Int)} {v_a_Orders : Value} {a_Modulus : Int} {a_Values : (List (List (List Int)))} {v_a_Values : Value} {left : Int} (r_a_Orders : (Ty.sl (Ty.i .i64)).rep w v_a_Orders a_Orders) (r_a_Modulus : InR .i64 a_Modulus) (r_a_Values : (Ty.sl (Ty.sl (Ty.sl (Ty.i .i64)))).rep w v_a_Values a_Values) (r_left : InR .i64 left) {res : Int} (h : p_laws_szCocycle a_Orders a_Modulus a_Values left  = some res) :
    Ret Try.prog 4 #[(Value.agg #[v_a_Orders, (Value.int .i64 a_Modulus), v_a_Values]), (Value.int .i64 left)] w (fun v w' => v = Value.int .i64 res ∧ InR .i64 res ∧ Ext w w') := by
  unfold p_laws_szCocycle at h
  have hS0 : St w w [] := St.start w
  refine Ret.start (fn := Try.f4) Try.func4 rfl 18 rfl rfl ?_
  refine W.seq (W.region ?_)
  refine WL.box hS0 rfl (cs := [v_a_Orders, (Value.int .i64 a_Modulus), v_a_Values]) rfl rfl ?_
  intro b1 wd2 hS3 he4 hx5
  replace hS3 : St w wd2 [bx b1 [v_a_Orders, (Value.int .i64 a_Modulus), v_a_Values]] := hS3
  have hx6 := St.boxAt hS3 0 rfl
  have hE7 : Ext w wd2 := hS3.ext
  have hS8 : St wd2 wd2 [] := St.start wd2
  refine WL.val (Value.int .i64 (0 : Int)) _ (op_assign rfl) rfl ?_
  refine WL.nil ?_
  refine W.seq (W.region ?_)
  refine WL.val (Value.pointer (some ⟨b1, 0, none⟩)) _ (op_fieldAddr fd_25_0 rfl) rfl ?_
  refine WL.val v_a_Orders _ (op_load one_22 rfl (BoxAt.cell (BoxAt.lift hS8.ext hx6) rfl)) rfl ?_
  refine WL.val (Value.int .i64 left) _ (op_move rfl) rfl ?_
  obtain ⟨x9, hx10, h⟩ := bs h
  refine WL.call _ (op_call fn_9 (args2 rfl rfl)) (c_laws_szInt64S (Ty.lift _ (Ext.trans hE7 hS8.ext) r_a_Orders) r_left hx10) rfl ?_
  rintro _ wd12 ⟨rfl, hr11, he13⟩
  have hS15 := St.extend hS8 he13
  replace hS15 : St wd2 wd12 [] := hS15
  refine WL.val (Value.int .i64 x9) _ (op_assign rfl) rfl ?_
  refine WL.nil ?_
  refine W.seq (W.seq (W.region ?_))
  refine WL.val (Value.int .i64 x9) _ (op_move rfl) rfl ?_
  refine WL.val (Value.bool (decide (x9 < (0 : Int)))) _ (op_lss rfl rfl) rfl ?_
  refine WL.nil ?_
  refine W.cond (decide (x9 < (0 : Int))) rfl (fun hc16 => ?_) (fun hc16 => ?_)
  · replace h := ip h hc16
    refine W.seq (W.region ?_)
    refine WL.val (Value.int .i64 (-1 : Int)) _ (op_assign rfl) rfl ?_
    refine WL.nil ?_
    refine W.ret ?_
    obtain rfl := Option.some.inj h
    show FinP _ _ _ _ _ _ _
    exact FinP.ret _ (res1 rfl rfl) ⟨rfl, (inR_i64.2 (show (-9223372036854775808 : Int) ≤ -1 ∧ (-1 : Int) ≤ 9223372036854775807 from by decide)), (Ext.trans hE7 hS15.ext)⟩
  · replace h := inegb h hc16
    refine W.skip ?_
    refine W.seq (W.region ?_)
    refine WL.val (Value.pointer (some ⟨b1, 2, none⟩)) _ (op_fieldAddr fd_25_2 rfl) rfl ?_
    refine WL.val v_a_Values _ (op_load one_23 rfl (BoxAt.cell (BoxAt.lift hS15.ext hx6) rfl)) rfl ?_
    refine WL.val (Value.int .i64 x9) _ (op_move rfl) rfl ?_
    obtain ⟨x18, hx19, h⟩ := bs h
    refine WL.call _ (op_call fn_10 (args2 rfl rfl)) (c_laws_szInt64SSS (Ty.lift _ (Ext.trans hE7 hS15.ext) r_a_Values) hr11 hx19) rfl ?_
    rintro _ wd21 ⟨rfl, hr20, he22⟩
    have hS24 := St.extend hS15 he22
    replace hS24 : St wd2 wd21 [] := hS24
    refine WL.val (Value.int .i64 x18) _ (op_assign rfl) rfl ?_
    refine WL.nil ?_
    refine W.seq (W.seq (W.region ?_))
    refine WL.val (Value.int .i64 x18) _ (op_move rfl) rfl ?_
    refine WL.val (Value.bool (decide (x18 < (0 : Int)))) _ (op_lss rfl rfl) rfl ?_
    refine WL.nil ?_
    refine W.cond (decide (x18 < (0 : Int))) rfl (fun hc25 => ?_) (fun hc25 => ?_)
    · replace h := ip h hc25
      refine W.seq (W.region ?_)
      refine WL.val (Value.int .i64 (-1 : Int)) _ (op_assign rfl) rfl ?_
      refine WL.nil ?_
      refine W.ret ?_
      obtain rfl := Option.some.inj h
      show FinP _ _ _ _ _ _ _
      exact FinP.ret _ (res1 rfl rfl) ⟨rfl, (inR_i64.2 (show (-9223372036854775808 : Int) ≤ -1 ∧ (-1 : Int) ≤ 9223372036854775807 from by decide)), (Ext.trans hE7 hS24.ext)⟩
    · replace h := inegb h hc25
      refine W.skip ?_
      refine W.seq (W.region ?_)
      refine WL.val (Value.int .i64 x18) _ (op_move rfl) rfl ?_
      refine WL.val (Value.int .i64 x18) _ (op_assign rfl) rfl ?_
      refine WL.nil ?_
      refine W.ret ?_
      obtain rfl := Option.some.inj h
      show FinP _ _ _ _ _ _ _
      exact FinP.ret _ (res1 rfl rfl) ⟨rfl, hr20, (Ext.trans hE7 hS24.ext)⟩

theorem c_laws_toInt64S {w : World} {a : (List Int)} {v_a : Value} (r_a : (Ty.sl (Ty.i .i64)).rep w v_a a) {res : (List Int)} (h : p_laws_toInt64S a  = some res) :
    Ret Try.prog 16 #[v_a] w (fun v w' => ∃ (u0 : Value), v = u0 ∧ Ext w w' ∧ Sep w.heap.size w' [(Ty.sl (Ty.i .i64)).at u0 res]) := by
  unfold p_laws_toInt64S at h
  have hS0 : St w w [] := St.start w
  refine Ret.start (fn := Try.f16) Try.func16 rfl 22 rfl rfl ?_
  refine W.seq (W.region ?_)
  refine WL.val (Value.slice none 0 0) _ (op_assign rfl) rfl ?_
  refine WL.nil ?_
  refine W.seq (W.region ?_)
  refine WL.val v_a _ (op_move rfl) rfl ?_
  have hr1 := inR_len (Ty.lift _ hS0.ext r_a)
  refine WL.val (Value.int .i64 ((a).length : Int)) _ (op_lenL sl_22 (Ty.lift _ hS0.ext r_a) rfl) rfl ?_
  obtain ⟨x2, hx3, h⟩ := bs h
  refine WL.make (t := (Ty.i .i64)) hS0 sl_22 (fun _ _ => ⟨rfl, (inL rfl)⟩) rfl rfl hx3 rfl rfl ?_
  intro u4 wd5 hS6 he7
  replace hS6 : St w wd5 [(Ty.sl (Ty.i .i64)).at u4 x2] := hS6
  refine WL.val u4 _ (op_assign rfl) rfl ?_
  refine WL.nil ?_
  refine W.seq (W.seq (W.region ?_))
  refine WL.val (Value.int .i64 (0 : Int)) _ (op_assign rfl) rfl ?_
  refine WL.nil ?_
  show W _ _ _ _ _ _
  obtain ⟨res8, hres9, h⟩ := bs h
  refine W.blockLoop (fun fq wq => ∃ s, res8 = Res.fin s ∧ fq 3 = u4 ∧ St w wq [(Ty.sl (Ty.i .i64)).at u4 s]) ?_ ?_
  · refine W.forN (fun k (s : (List Int)) fq wq => fq 0 = v_a ∧ fq 3 = u4 ∧ fq 4 = Value.int .i64 (k : Int) ∧ InR .i64 (k : Int) ∧ St w wq [(Ty.sl (Ty.i .i64)).at u4 s]) hres9 ⟨rfl, rfl, rfl, (inL rfl), hS6⟩ ?_ ?_
    · intro k10 x11 ct12 f13 wd14 hk15 hb16 hI17 hbrk18 hret19
      replace hI17 : f13 0 = v_a ∧ f13 3 = u4 ∧ f13 4 = Value.int .i64 (k10 : Int) ∧ InR .i64 (k10 : Int) ∧ St w wd14 [(Ty.sl (Ty.i .i64)).at u4 x11] := hI17
      replace hb16 : p_laws_toInt64S_L1 a k10 x11 = some ct12 := hb16
      unfold p_laws_toInt64S_L1 at hb16
      obtain ⟨hf20, hf21, hf22, hr23, hS24⟩ := hI17
      refine W.seq (W.seq (W.region ?_))
      refine WL.val (Value.int .i64 (k10 : Int)) _ (op_move hf22) rfl ?_
      refine WL.val v_a _ (op_move hf20) rfl ?_
      have hr25 := inR_len (Ty.lift _ hS24.ext r_a)
      refine WL.val (Value.int .i64 ((a).length : Int)) _ (op_lenL sl_22 (Ty.lift _ hS24.ext r_a) rfl) rfl ?_
      refine WL.val (Value.bool (decide ((k10 : Int) < ((a).length : Int)))) _ (op_lss rfl rfl) rfl ?_
      have hl26 : (k10 : Int) < ((a).length : Int) := by omega
      refine WL.nil ?_
      refine W.condT (decide ((k10 : Int) < ((a).length : Int))) rfl (decide_eq_true hl26) ?_
      refine W.skip ?_
      refine W.seq ?_
      refine W.block ?_
      refine W.region ?_
      refine WL.val u4 _ (op_move hf21) rfl ?_
      refine WL.val (Value.int .i64 (k10 : Int)) _ (op_move hf22) rfl ?_
      refine WL.val v_a _ (op_move hf20) rfl ?_
      refine WL.val (Value.int .i64 (k10 : Int)) _ (op_move hf22) rfl ?_
      obtain ⟨x28, hx31, hb16⟩ := bs hb16
      obtain ⟨ha29, hb30, hx31⟩ := idx_some hx31
      refine WL.val (Value.pointer (some (elA v_a ((k10 : Int)).toNat))) _ (op_idx sl_22 (Ty.lift _ hS24.ext r_a) rfl rfl ha29 hb30) rfl ?_
      obtain ⟨u32, hc33, hr34⟩ := repSl.el r_a hx31
      obtain ⟨rfl, hr34⟩ := hr34
      refine WL.val (Value.int .i64 x28) _ (op_load one_2 rfl (Ext.cell hS24.ext hc33)) rfl ?_
      obtain ⟨x35, hx38, hb16⟩ := bs hb16
      obtain ⟨ha36, hb37, hx38⟩ := idx_some hx38
      refine WL.val (Value.pointer (some (elA u4 ((k10 : Int)).toNat))) _ (op_idx sl_22 (St.rep (t := (Ty.sl (Ty.i .i64))) hS24 0 rfl) rfl rfl ha36 hb37) rfl ?_
      refine WL.storeEl (flat_i .i64) hS24 (k := 0) rfl sz_2 rfl rfl (lt_of_idx ha36 hb37) ⟨rfl, hr34⟩ ?_
      intro wd39 hS40
      replace hS40 : St w wd39 [(Ty.sl (Ty.i .i64)).at u4 ((x11).set ((k10 : Int)).toNat x28)] := hS40
      refine WL.nil ?_
      show W _ _ _ _ _ _
      refine W.region ?_
      refine WL.val (Value.int .i64 (k10 : Int)) _ (op_move hf22) rfl ?_
      refine WL.val (Value.int .i64 (w64 ((k10 : Int) + (1 : Int)))) _ (op_add rfl rfl) rfl ?_
      refine WL.val (Value.int .i64 (w64 ((k10 : Int) + (1 : Int)))) _ (op_assign rfl) rfl ?_
      refine WL.nil ?_
      obtain rfl := Option.some.inj hb16
      show ∃ s, _ = Ctl.next s ∧ _
      exact ⟨_, rfl, hf20, hf21, (ctr_next hl26 hr25), (ctr_rng hl26 hr25), hS40⟩
    · intro x47 f42 wd43 hs44 hI45
      replace hI45 : f42 0 = v_a ∧ f42 3 = u4 ∧ f42 4 = Value.int .i64 (((a).length : Nat) : Int) ∧ InR .i64 (((a).length : Nat) : Int) ∧ St w wd43 [(Ty.sl (Ty.i .i64)).at u4 x47] := hI45
      obtain ⟨hf48, hf49, hf50, hr51, hS52⟩ := hI45
      refine W.seq (W.seq (W.region ?_))
      refine WL.val (Value.int .i64 (((a).length : Nat) : Int)) _ (op_move hf50) rfl ?_
      refine WL.val v_a _ (op_move hf48) rfl ?_
      have hr53 := inR_len (Ty.lift _ hS52.ext r_a)
      refine WL.val (Value.int .i64 ((a).length : Int)) _ (op_lenL sl_22 (Ty.lift _ hS52.ext r_a) rfl) rfl ?_
      refine WL.val (Value.bool (decide ((((a).length : Nat) : Int) < ((a).length : Int)))) _ (op_lss rfl rfl) rfl ?_
      have hl54 : ¬ (((a).length : Nat) : Int) < ((a).length : Int) := by omega
      refine WL.nil ?_
      refine W.condF (decide ((((a).length : Nat) : Int) < ((a).length : Int))) rfl (decide_eq_false hl54) ?_
      refine W.exit ?_
      show _ = _ ∧ _
      exact ⟨rfl, _, hs44, hf49, hS52⟩
  · rintro f55 wd56 ⟨x59, rfl, hq57⟩
    replace h := onRes_fin h
    replace hq57 : f55 3 = u4 ∧ St w wd56 [(Ty.sl (Ty.i .i64)).at u4 x59] := hq57
    obtain ⟨hf60, hS61⟩ := hq57
    refine W.seq (W.region ?_)
    refine WL.val u4 _ (op_move hf60) rfl ?_
    refine WL.val u4 _ (op_assign rfl) rfl ?_
    refine WL.nil ?_
    refine W.ret ?_
    obtain rfl := Option.some.inj h
    show FinP _ _ _ _ _ _ _
    exact FinP.ret _ (res1 rfl rfl) ⟨u4, rfl, hS61.ext, (St.out (St.pick hS61 [0] rfl) (Ext.refl _))⟩

theorem c_laws_toInt64SS {w : World} {a : (List (List Int))} {v_a : Value} (r_a : (Ty.sl (Ty.sl (Ty.i .i64))).rep w v_a a) {res : (List (List Int))} (h : p_laws_toInt64SS a  = some res) :
    Ret Try.prog 33 #[v_a] w (fun v w' => ∃ (u0 : Value), v = u0 ∧ Ext w w' ∧ Sep w.heap.size w' [(Ty.sl (Ty.sl (Ty.i .i64))).at u0 res]) := by
  unfold p_laws_toInt64SS at h
  have hS0 : St w w [] := St.start w
  refine Ret.start (fn := Try.f33) Try.func33 rfl 23 rfl rfl ?_
  refine W.seq (W.region ?_)
  refine WL.val (Value.slice none 0 0) _ (op_assign rfl) rfl ?_
  refine WL.nil ?_
  refine W.seq (W.region ?_)
  refine WL.val v_a _ (op_move rfl) rfl ?_
  have hr1 := inR_len (Ty.lift _ hS0.ext r_a)
  refine WL.val (Value.int .i64 ((a).length : Int)) _ (op_lenL sl_37 (Ty.lift _ hS0.ext r_a) rfl) rfl ?_
  obtain ⟨x2, hx3, h⟩ := bs h
  refine WL.make (t := (Ty.sl (Ty.i .i64))) hS0 sl_37 (fun S w => nilOwn _ S w) rfl rfl hx3 rfl rfl ?_
  intro u4 wd5 hS6 he7
  replace hS6 : St w wd5 [(Ty.sl (Ty.sl (Ty.i .i64))).at u4 x2] := hS6
  refine WL.val u4 _ (op_assign rfl) rfl ?_
  refine WL.nil ?_
  refine W.seq (W.seq (W.region ?_))
  refine WL.val (Value.int .i64 (0 : Int)) _ (op_assign rfl) rfl ?_
  refine WL.nil ?_
  show W _ _ _ _ _ _
  obtain ⟨res8, hres9, h⟩ := bs h
  refine W.blockLoop (fun fq wq => ∃ s, res8 = Res.fin s ∧ fq 3 = u4 ∧ St w wq [(Ty.sl (Ty.sl (Ty.i .i64))).at u4 s]) ?_ ?_
  · refine W.forN (fun k (s : (List (List Int))) fq wq => fq 0 = v_a ∧ fq 3 = u4 ∧ fq 4 = Value.int .i64 (k : Int) ∧ InR .i64 (k : Int) ∧ St w wq [(Ty.sl (Ty.sl (Ty.i .i64))).at u4 s]) hres9 ⟨rfl, rfl, rfl, (inL rfl), hS6⟩ ?_ ?_
    · intro k10 x11 ct12 f13 wd14 hk15 hb16 hI17 hbrk18 hret19
      replace hI17 : f13 0 = v_a ∧ f13 3 = u4 ∧ f13 4 = Value.int .i64 (k10 : Int) ∧ InR .i64 (k10 : Int) ∧ St w wd14 [(Ty.sl (Ty.sl (Ty.i .i64))).at u4 x11] := hI17
      replace hb16 : p_laws_toInt64SS_L1 a k10 x11 = some ct12 := hb16
      unfold p_laws_toInt64SS_L1 at hb16
      obtain ⟨hf20, hf21, hf22, hr23, hS24⟩ := hI17
      refine W.seq (W.seq (W.region ?_))
      refine WL.val (Value.int .i64 (k10 : Int)) _ (op_move hf22) rfl ?_
      refine WL.val v_a _ (op_move hf20) rfl ?_
      have hr25 := inR_len (Ty.lift _ hS24.ext r_a)
      refine WL.val (Value.int .i64 ((a).length : Int)) _ (op_lenL sl_37 (Ty.lift _ hS24.ext r_a) rfl) rfl ?_
      refine WL.val (Value.bool (decide ((k10 : Int) < ((a).length : Int)))) _ (op_lss rfl rfl) rfl ?_
      have hl26 : (k10 : Int) < ((a).length : Int) := by omega
      refine WL.nil ?_
      refine W.condT (decide ((k10 : Int) < ((a).length : Int))) rfl (decide_eq_true hl26) ?_
      refine W.skip ?_
      refine W.seq ?_
      refine W.block ?_
      refine W.region ?_
      refine WL.val u4 _ (op_move hf21) rfl ?_
      refine WL.val (Value.int .i64 (k10 : Int)) _ (op_move hf22) rfl ?_
      refine WL.val v_a _ (op_move hf20) rfl ?_
      refine WL.val (Value.int .i64 (k10 : Int)) _ (op_move hf22) rfl ?_
      obtain ⟨x28, hx31, hb16⟩ := bs hb16
      obtain ⟨ha29, hb30, hx31⟩ := idx_some hx31
      refine WL.val (Value.pointer (some (elA v_a ((k10 : Int)).toNat))) _ (op_idx sl_37 (Ty.lift _ hS24.ext r_a) rfl rfl ha29 hb30) rfl ?_
      obtain ⟨u32, hc33, hr34⟩ := repSl.el r_a hx31
      refine WL.val u32 _ (op_load one_22 rfl (Ext.cell hS24.ext hc33)) rfl ?_
      obtain ⟨x35, hx36, hb16⟩ := bs hb16
      refine WL.call _ (op_call fn_16 (args1 rfl)) (c_laws_toInt64S (Ty.lift _ hS24.ext hr34) hx36) rfl ?_
      rintro u37 wd38 ⟨_, rfl, he39, hs40⟩
      have hS41 := St.join hS24 he39 hs40
      replace hS41 : St w wd38 [(Ty.sl (Ty.sl (Ty.i .i64))).at u4 x11, (Ty.sl (Ty.i .i64)).at u37 x35] := hS41
      obtain ⟨x42, hx45, hb16⟩ := bs hb16
      obtain ⟨ha43, hb44, hx45⟩ := idx_some hx45
      refine WL.val (Value.pointer (some (elA u4 ((k10 : Int)).toNat))) _ (op_idx sl_37 (St.rep (t := (Ty.sl (Ty.sl (Ty.i .i64)))) hS41 0 rfl) rfl rfl ha43 hb44) rfl ?_
      refine WL.storeRow hS41 (k := 0) (k2 := 1) rfl rfl rfl sz_22 rfl rfl (by omega) ?_
      intro wd46 hS47
      replace hS47 : St w wd46 [(Ty.sl (Ty.sl (Ty.i .i64))).at u4 ((x11).set ((k10 : Int)).toNat x35), emp] := hS47
      refine WL.nil ?_
      show W _ _ _ _ _ _
      refine W.region ?_
      refine WL.val (Value.int .i64 (k10 : Int)) _ (op_move hf22) rfl ?_
      refine WL.val (Value.int .i64 (w64 ((k10 : Int) + (1 : Int)))) _ (op_add rfl rfl) rfl ?_
      refine WL.val (Value.int .i64 (w64 ((k10 : Int) + (1 : Int)))) _ (op_assign rfl) rfl ?_
      refine WL.nil ?_
      obtain rfl := Option.some.inj hb16
      show ∃ s, _ = Ctl.next s ∧ _
      exact ⟨_, rfl, hf20, hf21, (ctr_next hl26 hr25), (ctr_rng hl26 hr25), (St.pick hS47 [0] rfl)⟩
    · intro x54 f49 wd50 hs51 hI52
      replace hI52 : f49 0 = v_a ∧ f49 3 = u4 ∧ f49 4 = Value.int .i64 (((a).length : Nat) : Int) ∧ InR .i64 (((a).length : Nat) : Int) ∧ St w wd50 [(Ty.sl (Ty.sl (Ty.i .i64))).at u4 x54] := hI52
      obtain ⟨hf55, hf56, hf57, hr58, hS59⟩ := hI52
      refine W.seq (W.seq (W.region ?_))
      refine WL.val (Value.int .i64 (((a).length : Nat) : Int)) _ (op_move hf57) rfl ?_
      refine WL.val v_a _ (op_move hf55) rfl ?_
      have hr60 := inR_len (Ty.lift _ hS59.ext r_a)
      refine WL.val (Value.int .i64 ((a).length : Int)) _ (op_lenL sl_37 (Ty.lift _ hS59.ext r_a) rfl) rfl ?_
      refine WL.val (Value.bool (decide ((((a).length : Nat) : Int) < ((a).length : Int)))) _ (op_lss rfl rfl) rfl ?_
      have hl61 : ¬ (((a).length : Nat) : Int) < ((a).length : Int) := by omega
      refine WL.nil ?_
      refine W.condF (decide ((((a).length : Nat) : Int) < ((a).length : Int))) rfl (decide_eq_false hl61) ?_
      refine W.exit ?_
      show _ = _ ∧ _
      exact ⟨rfl, _, hs51, hf56, hS59⟩
  · rintro f62 wd63 ⟨x66, rfl, hq64⟩
    replace h := onRes_fin h
    replace hq64 : f62 3 = u4 ∧ St w wd63 [(Ty.sl (Ty.sl (Ty.i .i64))).at u4 x66] := hq64
    obtain ⟨hf67, hS68⟩ := hq64
    refine W.seq (W.region ?_)
    refine WL.val u4 _ (op_move hf67) rfl ?_
    refine WL.val u4 _ (op_assign rfl) rfl ?_
    refine WL.nil ?_
    refine W.ret ?_
    obtain rfl := Option.some.inj h
    show FinP _ _ _ _ _ _ _
    exact FinP.ret _ (res1 rfl rfl) ⟨u4, rfl, hS68.ext, (St.out (St.pick hS68 [0] rfl) (Ext.refl _))⟩

theorem c_laws_toInt64SSS {w : World} {a : (List (List (List Int)))} {v_a : Value} (r_a : (Ty.sl (Ty.sl (Ty.sl (Ty.i .i64)))).rep w v_a a) {res : (List (List (List Int)))} (h : p_laws_toInt64SSS a  = some res) :
    Ret Try.prog 17 #[v_a] w (fun v w' => ∃ (u0 : Value), v = u0 ∧ Ext w w' ∧ Sep w.heap.size w' [(Ty.sl (Ty.sl (Ty.sl (Ty.i .i64)))).at u0 res]) := by
  unfold p_laws_toInt64SSS at h
  have hS0 : St w w [] := St.start w
  refine Ret.start (fn := Try.f17) Try.func17 rfl 23 rfl rfl ?_
  refine W.seq (W.region ?_)
  refine WL.val (Value.slice none 0 0) _ (op_assign rfl) rfl ?_
  refine WL.nil ?_
  refine W.seq (W.region ?_)
  refine WL.val v_a _ (op_move rfl) rfl ?_
  have hr1 := inR_len (Ty.lift _ hS0.ext r_a)
  refine WL.val (Value.int .i64 ((a).length : Int)) _ (op_lenL sl_23 (Ty.lift _ hS0.ext r_a) rfl) rfl ?_
  obtain ⟨x2, hx3, h⟩ := bs h
  refine WL.make (t := (Ty.sl (Ty.sl (Ty.i .i64)))) hS0 sl_23 (fun S w => nilOwn _ S w) rfl rfl hx3 rfl rfl ?_
  intro u4 wd5 hS6 he7
  replace hS6 : St w wd5 [(Ty.sl (Ty.sl (Ty.sl (Ty.i .i64)))).at u4 x2] := hS6
  refine WL.val u4 _ (op_assign rfl) rfl ?_
  refine WL.nil ?_
  refine W.seq (W.seq (W.region ?_))
  refine WL.val (Value.int .i64 (0 : Int)) _ (op_assign rfl) rfl ?_
  refine WL.nil ?_
  show W _ _ _ _ _ _
  obtain ⟨res8, hres9, h⟩ := bs h
  refine W.blockLoop (fun fq wq => ∃ s, res8 = Res.fin s ∧ fq 3 = u4 ∧ St w wq [(Ty.sl (Ty.sl (Ty.sl (Ty.i .i64)))).at u4 s]) ?_ ?_
  · refine W.forN (fun k (s : (List (List (List Int)))) fq wq => fq 0 = v_a ∧ fq 3 = u4 ∧ fq 4 = Value.int .i64 (k : Int) ∧ InR .i64 (k : Int) ∧ St w wq [(Ty.sl (Ty.sl (Ty.sl (Ty.i .i64)))).at u4 s]) hres9 ⟨rfl, rfl, rfl, (inL rfl), hS6⟩ ?_ ?_
    · intro k10 x11 ct12 f13 wd14 hk15 hb16 hI17 hbrk18 hret19
      replace hI17 : f13 0 = v_a ∧ f13 3 = u4 ∧ f13 4 = Value.int .i64 (k10 : Int) ∧ InR .i64 (k10 : Int) ∧ St w wd14 [(Ty.sl (Ty.sl (Ty.sl (Ty.i .i64)))).at u4 x11] := hI17
      replace hb16 : p_laws_toInt64SSS_L1 a k10 x11 = some ct12 := hb16
      unfold p_laws_toInt64SSS_L1 at hb16
      obtain ⟨hf20, hf21, hf22, hr23, hS24⟩ := hI17
      refine W.seq (W.seq (W.region ?_))
      refine WL.val (Value.int .i64 (k10 : Int)) _ (op_move hf22) rfl ?_
      refine WL.val v_a _ (op_move hf20) rfl ?_
      have hr25 := inR_len (Ty.lift _ hS24.ext r_a)
      refine WL.val (Value.int .i64 ((a).length : Int)) _ (op_lenL sl_23 (Ty.lift _ hS24.ext r_a) rfl) rfl ?_
      refine WL.val (Value.bool (decide ((k10 : Int) < ((a).length : Int)))) _ (op_lss rfl rfl) rfl ?_
      have hl26 : (k10 : Int) < ((a).length : Int) := by omega
      refine WL.nil ?_
      refine W.condT (decide ((k10 : Int) < ((a).length : Int))) rfl (decide_eq_true hl26) ?_
      refine W.skip ?_
      refine W.seq ?_
      refine W.block ?_
      refine W.region ?_
      refine WL.val u4 _ (op_move hf21) rfl ?_
      refine WL.val (Value.int .i64 (k10 : Int)) _ (op_move hf22) rfl ?_
      refine WL.val v_a _ (op_move hf20) rfl ?_
      refine WL.val (Value.int .i64 (k10 : Int)) _ (op_move hf22) rfl ?_
      obtain ⟨x28, hx31, hb16⟩ := bs hb16
      obtain ⟨ha29, hb30, hx31⟩ := idx_some hx31
      refine WL.val (Value.pointer (some (elA v_a ((k10 : Int)).toNat))) _ (op_idx sl_23 (Ty.lift _ hS24.ext r_a) rfl rfl ha29 hb30) rfl ?_
      obtain ⟨u32, hc33, hr34⟩ := repSl.el r_a hx31
      refine WL.val u32 _ (op_load one_37 rfl (Ext.cell hS24.ext hc33)) rfl ?_
      obtain ⟨x35, hx36, hb16⟩ := bs hb16
      refine WL.call _ (op_call fn_33 (args1 rfl)) (c_laws_toInt64SS (Ty.lift _ hS24.ext hr34) hx36) rfl ?_
      rintro u37 wd38 ⟨_, rfl, he39, hs40⟩
      have hS41 := St.join hS24 he39 hs40
      replace hS41 : St w wd38 [(Ty.sl (Ty.sl (Ty.sl (Ty.i .i64)))).at u4 x11, (Ty.sl (Ty.sl (Ty.i .i64))).at u37 x35] := hS41
      obtain ⟨x42, hx45, hb16⟩ := bs hb16
      obtain ⟨ha43, hb44, hx45⟩ := idx_some hx45
      refine WL.val (Value.pointer (some (elA u4 ((k10 : Int)).toNat))) _ (op_idx sl_23 (St.rep (t := (Ty.sl (Ty.sl (Ty.sl (Ty.i .i64))))) hS41 0 rfl) rfl rfl ha43 hb44) rfl ?_
      refine WL.storeRow hS41 (k := 0) (k2 := 1) rfl rfl rfl sz_37 rfl rfl (by omega) ?_
      intro wd46 hS47
      replace hS47 : St w wd46 [(Ty.sl (Ty.sl (Ty.sl (Ty.i .i64)))).at u4 ((x11).set ((k10 : Int)).toNat x35), emp] := hS47
      refine WL.nil ?_
      show W _ _ _ _ _ _
      refine W.region ?_
      refine WL.val (Value.int .i64 (k10 : Int)) _ (op_move hf22) rfl ?_
      refine WL.val (Value.int .i64 (w64 ((k10 : Int) + (1 : Int)))) _ (op_add rfl rfl) rfl ?_
      refine WL.val (Value.int .i64 (w64 ((k10 : Int) + (1 : Int)))) _ (op_assign rfl) rfl ?_
      refine WL.nil ?_
      obtain rfl := Option.some.inj hb16
      show ∃ s, _ = Ctl.next s ∧ _
      exact ⟨_, rfl, hf20, hf21, (ctr_next hl26 hr25), (ctr_rng hl26 hr25), (St.pick hS47 [0] rfl)⟩
    · intro x54 f49 wd50 hs51 hI52
      replace hI52 : f49 0 = v_a ∧ f49 3 = u4 ∧ f49 4 = Value.int .i64 (((a).length : Nat) : Int) ∧ InR .i64 (((a).length : Nat) : Int) ∧ St w wd50 [(Ty.sl (Ty.sl (Ty.sl (Ty.i .i64)))).at u4 x54] := hI52
      obtain ⟨hf55, hf56, hf57, hr58, hS59⟩ := hI52
      refine W.seq (W.seq (W.region ?_))
      refine WL.val (Value.int .i64 (((a).length : Nat) : Int)) _ (op_move hf57) rfl ?_
      refine WL.val v_a _ (op_move hf55) rfl ?_
      have hr60 := inR_len (Ty.lift _ hS59.ext r_a)
      refine WL.val (Value.int .i64 ((a).length : Int)) _ (op_lenL sl_23 (Ty.lift _ hS59.ext r_a) rfl) rfl ?_
      refine WL.val (Value.bool (decide ((((a).length : Nat) : Int) < ((a).length : Int)))) _ (op_lss rfl rfl) rfl ?_
      have hl61 : ¬ (((a).length : Nat) : Int) < ((a).length : Int) := by omega
      refine WL.nil ?_
      refine W.condF (decide ((((a).length : Nat) : Int) < ((a).length : Int))) rfl (decide_eq_false hl61) ?_
      refine W.exit ?_
      show _ = _ ∧ _
      exact ⟨rfl, _, hs51, hf56, hS59⟩
  · rintro f62 wd63 ⟨x66, rfl, hq64⟩
    replace h := onRes_fin h
    replace hq64 : f62 3 = u4 ∧ St w wd63 [(Ty.sl (Ty.sl (Ty.sl (Ty.i .i64)))).at u4 x66] := hq64
    obtain ⟨hf67, hS68⟩ := hq64
    refine W.seq (W.region ?_)
    refine WL.val u4 _ (op_move hf67) rfl ?_
    refine WL.val u4 _ (op_assign rfl) rfl ?_
    refine WL.nil ?_
    refine W.ret ?_
    obtain rfl := Option.some.inj h
    show FinP _ _ _ _ _ _ _
    exact FinP.ret _ (res1 rfl rfl) ⟨u4, rfl, hS68.ext, (St.out (St.pick hS68 [0] rfl) (Ext.refl _))⟩

theorem c_laws_toCocycle {w : World} {a_Orders : (List Int)} {v_a_Orders : Value} {a_Modulus : Int} {a_Values : (List (List (List Int)))} {v_a_Values : Value} (r_a_Orders : (Ty.sl (Ty.i .i64)).rep w v_a_Orders a_Orders) (r_a_Modulus : InR .i64 a_Modulus) (r_a_Values : (Ty.sl (Ty.sl (Ty.sl (Ty.i .i64)))).rep w v_a_Values a_Values) {res : (List Int) × Int × (List (List (List Int)))} (h : p_laws_toCocycle a_Orders a_Modulus a_Values  = some res) :
    Ret Try.prog 6 #[(Value.agg #[v_a_Orders, (Value.int .i64 a_Modulus), v_a_Values])] w (fun v w' => ∃ (u0 : Value) (u2 : Value), v = (Value.agg #[u0, Value.int .i64 res.2.1, u2]) ∧ InR .i64 res.2.1 ∧ Ext w w' ∧ Sep w.heap.size w' [(Ty.sl (Ty.i .i64)).at u0 res.1, (Ty.sl (Ty.sl (Ty.sl (Ty.i .i64)))).at u2 res.2.2]) := by
  unfold p_laws_toCocycle at h
  have hS0 : St w w [] := St.start w
  refine Ret.start (fn := Try.f6) Try.func6 rfl 16 rfl rfl ?_
  refine W.seq (W.region ?_)
  refine WL.box hS0 rfl (cs := [v_a_Orders, (Value.int .i64 a_Modulus), v_a_Values]) rfl rfl ?_
  intro b1 wd2 hS3 he4 hx5
  replace hS3 : St w wd2 [bx b1 [v_a_Orders, (Value.int .i64 a_Modulus), v_a_Values]] := hS3
  have hx6 := St.boxAt hS3 0 rfl
  have hE7 : Ext w wd2 := hS3.ext
  have hS8 : St wd2 wd2 [] := St.start wd2
  refine WL.alloc hS8 ze_29 (cs := [(Value.slice none 0 0), (Value.int .i64 (0 : Int)), (Value.slice none 0 0)]) rfl rfl ?_
  intro b9 wd10 hS11 he12
  replace hS11 : St wd2 wd10 [bx b9 [(Value.slice none 0 0), (Value.int .i64 (0 : Int)), (Value.slice none 0 0)]] := hS11
  refine WL.nil ?_
  refine W.seq (W.region ?_)
  refine WL.alloc hS11 ze_29 (cs := [(Value.slice none 0 0), (Value.int .i64 (0 : Int)), (Value.slice none 0 0)]) rfl rfl ?_
  intro b13 wd14 hS15 he16
  replace hS15 : St wd2 wd14 [bx b9 [(Value.slice none 0 0), (Value.int .i64 (0 : Int)), (Value.slice none 0 0)], bx b13 [(Value.slice none 0 0), (Value.int .i64 (0 : Int)), (Value.slice none 0 0)]] := hS15
  refine WL.nil ?_
  refine W.seq (W.region ?_)
  refine WL.val (Value.pointer (some ⟨b1, 0, none⟩)) _ (op_fieldAddr fd_25_0 rfl) rfl ?_
  refine WL.val v_a_Orders _ (op_load one_22 rfl (BoxAt.cell (BoxAt.lift hS15.ext hx6) rfl)) rfl ?_
  obtain ⟨x17, hx18, h⟩ := bs h
  refine WL.call _ (op_call fn_16 (args1 rfl)) (c_laws_toInt64S (Ty.lift _ (Ext.trans hE7 hS15.ext) r_a_Orders) hx18) rfl ?_
  rintro u19 wd20 ⟨_, rfl, he21, hs22⟩
  have hS23 := St.join hS15 he21 hs22
  replace hS23 : St wd2 wd20 [bx b9 [(Value.slice none 0 0), (Value.int .i64 (0 : Int)), (Value.slice none 0 0)], bx b13 [(Value.slice none 0 0), (Value.int .i64 (0 : Int)), (Value.slice none 0 0)], (Ty.sl (Ty.i .i64)).at u19 x17] := hS23
  refine WL.val (Value.pointer (some ⟨b13, 0, none⟩)) _ (op_fieldAddr fd_29_0 rfl) rfl ?_
  refine WL.storeBox [u19, (Value.int .i64 (0 : Int)), (Value.slice none 0 0)] hS23 (k := 1) rfl rfl rfl (us := [u19]) (cells_rep (St.rep (t := (Ty.sl (Ty.i .i64))) hS23 2 rfl)) sz_22 rfl rfl (all_rep (St.rep (t := (Ty.sl (Ty.i .i64))) hS23 2 rfl) all_nil) rfl ?_
  intro wd24 hS25
  replace hS25 : St wd2 wd24 [bx b9 [(Value.slice none 0 0), (Value.int .i64 (0 : Int)), (Value.slice none 0 0)], bx b13 [u19, (Value.int .i64 (0 : Int)), (Value.slice none 0 0)], (Ty.sl (Ty.i .i64)).at u19 x17] := hS25
  refine WL.nil ?_
  refine W.seq (W.region ?_)
  refine WL.val (Value.pointer (some ⟨b1, 1, none⟩)) _ (op_fieldAddr fd_25_1 rfl) rfl ?_
  refine WL.val (Value.int .i64 a_Modulus) _ (op_load one_2 rfl (BoxAt.cell (BoxAt.lift hS25.ext hx6) rfl)) rfl ?_
  refine WL.val (Value.pointer (some ⟨b13, 1, none⟩)) _ (op_fieldAddr fd_29_1 rfl) rfl ?_
  refine WL.storeBox [u19, (Value.int .i64 a_Modulus), (Value.slice none 0 0)] hS25 (k := 1) rfl rfl rfl (us := [(Value.int .i64 a_Modulus)]) rfl sz_2 rfl rfl (all_cons rfl all_nil) rfl ?_
  intro wd26 hS27
  replace hS27 : St wd2 wd26 [bx b9 [(Value.slice none 0 0), (Value.int .i64 (0 : Int)), (Value.slice none 0 0)], bx b13 [u19, (Value.int .i64 a_Modulus), (Value.slice none 0 0)], (Ty.sl (Ty.i .i64)).at u19 x17] := hS27
  refine WL.nil ?_
  refine W.seq (W.region ?_)
  refine WL.val (Value.pointer (some ⟨b1, 2, none⟩)) _ (op_fieldAddr fd_25_2 rfl) rfl ?_
  refine WL.val v_a_Values _ (op_load one_23 rfl (BoxAt.cell (BoxAt.lift hS27.ext hx6) rfl)) rfl ?_
  obtain ⟨x28, hx29, h⟩ := bs h
  refine WL.call _ (op_call fn_17 (args1 rfl)) (c_laws_toInt64SSS (Ty.lift _ (Ext.trans hE7 hS27.ext) r_a_Values) hx29) rfl ?_
  rintro u30 wd31 ⟨_, rfl, he32, hs33⟩
  have hS34 := St.join hS27 he32 hs33
  replace hS34 : St wd2 wd31 [bx b9 [(Value.slice none 0 0), (Value.int .i64 (0 : Int)), (Value.slice none 0 0)], bx b13 [u19, (Value.int .i64 a_Modulus), (Value.slice none 0 0)], (Ty.sl (Ty.i .i64)).at u19 x17, (Ty.sl (Ty.sl (Ty.sl (Ty.i .i64)))).at u30 x28] := hS34
  refine WL.val (Value.pointer (some ⟨b13, 2, none⟩)) _ (op_fieldAddr fd_29_2 rfl) rfl ?_
  refine WL.storeBox [u19, (Value.int .i64 a_Modulus), u30] hS34 (k := 1) rfl rfl rfl (us := [u30]) (cells_rep (St.rep (t := (Ty.sl (Ty.sl (Ty.sl (Ty.i .i64))))) hS34 3 rfl)) sz_23 rfl rfl (all_rep (St.rep (t := (Ty.sl (Ty.sl (Ty.sl (Ty.i .i64))))) hS34 3 rfl) all_nil) rfl ?_
  intro wd35 hS36
  replace hS36 : St wd2 wd35 [bx b9 [(Value.slice none 0 0), (Value.int .i64 (0 : Int)), (Value.slice none 0 0)], bx b13 [u19, (Value.int .i64 a_Modulus), u30], (Ty.sl (Ty.i .i64)).at u19 x17, (Ty.sl (Ty.sl (Ty.sl (Ty.i .i64)))).at u30 x28] := hS36
  refine WL.nil ?_
  refine W.seq (W.region ?_)
  refine WL.val (Value.agg #[u19, (Value.int .i64 a_Modulus), u30]) _ (op_loadBox st_29 rfl (St.boxAt hS36 1 rfl) rfl rfl) rfl ?_
  refine WL.storeBox [u19, (Value.int .i64 a_Modulus), u30] hS36 (k := 0) rfl rfl rfl (us := [u19, (Value.int .i64 a_Modulus), u30]) rfl sz_29 rfl rfl (all_rep (St.rep (t := (Ty.sl (Ty.i .i64))) hS36 2 rfl) (all_cons rfl (all_rep (St.rep (t := (Ty.sl (Ty.sl (Ty.sl (Ty.i .i64))))) hS36 3 rfl) all_nil))) rfl ?_
  intro wd37 hS38
  replace hS38 : St wd2 wd37 [bx b9 [u19, (Value.int .i64 a_Modulus), u30], bx b13 [u19, (Value.int .i64 a_Modulus), u30], (Ty.sl (Ty.i .i64)).at u19 x17, (Ty.sl (Ty.sl (Ty.sl (Ty.i .i64)))).at u30 x28] := hS38
  refine WL.nil ?_
  refine W.ret ?_
  obtain rfl := Option.some.inj h
  show FinP _ _ _ _ _ _ _
  exact FinP.ret _ (resC rfl rfl st_29 (St.boxAt hS38 0 rfl) rfl) ⟨u19, u30, rfl, r_a_Modulus, (Ext.trans hE7 hS38.ext), (St.out (St.pick hS38 [2, 3] rfl) (hE7))⟩

theorem c_spec_l06Orders {w : World} {orders : (List Int)} {v_orders : Value} (r_orders : (Ty.sl (Ty.i .i64)).rep w v_orders orders) {res : Bool} (h : p_spec_l06Orders orders  = some res) :
    Ret Try.prog 45 #[v_orders] w (fun v w' => v = Value.bool res ∧ Ext w w') := by
  unfold p_spec_l06Orders at h
  have hS0 : St w w [] := St.start w
  refine Ret.start (fn := Try.f45) Try.func45 rfl 18 rfl rfl ?_
  refine W.seq (W.region ?_)
  refine WL.val (Value.bool false) _ (op_assign rfl) rfl ?_
  refine WL.nil ?_
  refine W.seq (W.seq (W.region ?_))
  refine WL.val (Value.int .i64 (0 : Int)) _ (op_assign rfl) rfl ?_
  refine WL.nil ?_
  show W _ _ _ _ _ _
  obtain ⟨res1, hres2, h⟩ := bs h
  refine W.blockLoop (fun fq wq => ∃ s, res1 = Res.fin s ∧ fq 0 = v_orders ∧ St w wq []) ?_ ?_
  · refine W.forN (fun k (s : Unit) fq wq => fq 0 = v_orders ∧ fq 3 = Value.int .i64 (k : Int) ∧ InR .i64 (k : Int) ∧ St w wq []) hres2 ⟨rfl, rfl, (inL rfl), hS0⟩ ?_ ?_
    · intro k3 s28 ct4 f5 wd6 hk7 hb8 hI9 hbrk10 hret11
      obtain ⟨⟩ := s28
      replace hI9 : f5 0 = v_orders ∧ f5 3 = Value.int .i64 (k3 : Int) ∧ InR .i64 (k3 : Int) ∧ St w wd6 [] := hI9
      replace hb8 : p_spec_l06Orders_L1 orders k3  = some ct4 := hb8
      unfold p_spec_l06Orders_L1 at hb8
      obtain ⟨hf12, hf13, hr14, hS15⟩ := hI9
      refine W.seq (W.seq (W.region ?_))
      refine WL.val (Value.int .i64 (k3 : Int)) _ (op_move hf13) rfl ?_
      refine WL.val v_orders _ (op_move hf12) rfl ?_
      have hr16 := inR_len (Ty.lift _ hS15.ext r_orders)
      refine WL.val (Value.int .i64 ((orders).length : Int)) _ (op_lenL sl_22 (Ty.lift _ hS15.ext r_orders) rfl) rfl ?_
      refine WL.val (Value.bool (decide ((k3 : Int) < ((orders).length : Int)))) _ (op_lss rfl rfl) rfl ?_
      have hl17 : (k3 : Int) < ((orders).length : Int) := by omega
      refine WL.nil ?_
      refine W.condT (decide ((k3 : Int) < ((orders).length : Int))) rfl (decide_eq_true hl17) ?_
      refine W.skip ?_
      refine W.seq ?_
      refine W.block ?_
      refine W.seq (W.region ?_)
      refine WL.val v_orders _ (op_move hf12) rfl ?_
      refine WL.val (Value.int .i64 (k3 : Int)) _ (op_move hf13) rfl ?_
      obtain ⟨x19, hx22, hb8⟩ := bs hb8
      obtain ⟨ha20, hb21, hx22⟩ := idx_some hx22
      refine WL.val (Value.pointer (some (elA v_orders ((k3 : Int)).toNat))) _ (op_idx sl_22 (Ty.lift _ hS15.ext r_orders) rfl rfl ha20 hb21) rfl ?_
      obtain ⟨u23, hc24, hr25⟩ := repSl.el r_orders hx22
      obtain ⟨rfl, hr25⟩ := hr25
      refine WL.val (Value.int .i64 x19) _ (op_load one_2 rfl (Ext.cell hS15.ext hc24)) rfl ?_
      refine WL.val (Value.bool (decide (x19 < (1 : Int)))) _ (op_lss rfl rfl) rfl ?_
      refine WL.nil ?_
      refine W.cond (decide (x19 < (1 : Int))) rfl (fun hc26 => ?_) (fun hc26 => ?_)
      · replace hb8 := ip hb8 hc26
        refine W.seq (W.region ?_)
        refine WL.val (Value.bool false) _ (op_assign rfl) rfl ?_
        refine WL.nil ?_
        refine W.ret ?_
        obtain rfl := Option.some.inj hb8
        obtain rfl := hret11 _ rfl
        replace h := onRes_ret h
        obtain rfl := Option.some.inj h
        show FinP _ _ _ _ _ _ _
        exact FinP.ret _ (res1 rfl rfl) ⟨rfl, hS15.ext⟩
      · replace hb8 := inegb hb8 hc26
        refine W.skip ?_
        show W _ _ _ _ _ _
        refine W.region ?_
        refine WL.val (Value.int .i64 (k3 : Int)) _ (op_move hf13) rfl ?_
        refine WL.val (Value.int .i64 (w64 ((k3 : Int) + (1 : Int)))) _ (op_add rfl rfl) rfl ?_
        refine WL.val (Value.int .i64 (w64 ((k3 : Int) + (1 : Int)))) _ (op_assign rfl) rfl ?_
        refine WL.nil ?_
        obtain rfl := Option.some.inj hb8
        show ∃ s, _ = Ctl.next s ∧ _
        exact ⟨_, rfl, hf12, (ctr_next hl17 hr16), (ctr_rng hl17 hr16), hS15⟩
    · intro s33 f29 wd30 hs31 hI32
      obtain ⟨⟩ := s33
      replace hI32 : f29 0 = v_orders ∧ f29 3 = Value.int .i64 (((orders).length : Nat) : Int) ∧ InR .i64 (((orders).length : Nat) : Int) ∧ St w wd30 [] := hI32
      obtain ⟨hf34, hf35, hr36, hS37⟩ := hI32
      refine W.seq (W.seq (W.region ?_))
      refine WL.val (Value.int .i64 (((orders).length : Nat) : Int)) _ (op_move hf35) rfl ?_
      refine WL.val v_orders _ (op_move hf34) rfl ?_
      have hr38 := inR_len (Ty.lift _ hS37.ext r_orders)
      refine WL.val (Value.int .i64 ((orders).length : Int)) _ (op_lenL sl_22 (Ty.lift _ hS37.ext r_orders) rfl) rfl ?_
      refine WL.val (Value.bool (decide ((((orders).length : Nat) : Int) < ((orders).length : Int)))) _ (op_lss rfl rfl) rfl ?_
      have hl39 : ¬ (((orders).length : Nat) : Int) < ((orders).length : Int) := by omega
      refine WL.nil ?_
      refine W.condF (decide ((((orders).length : Nat) : Int) < ((orders).length : Int))) rfl (decide_eq_false hl39) ?_
      refine W.exit ?_
      show _ = _ ∧ _
      exact ⟨rfl, _, hs31, hf34, hS37⟩
  · rintro f40 wd41 ⟨s43, rfl, hq42⟩
    replace h := onRes_fin h
    obtain ⟨⟩ := s43
    replace hq42 : f40 0 = v_orders ∧ St w wd41 [] := hq42
    obtain ⟨hf44, hS45⟩ := hq42
    refine W.seq (W.region ?_)
    refine WL.val v_orders _ (op_move hf44) rfl ?_
    have hr46 := inR_len (Ty.lift _ hS45.ext r_orders)
    refine WL.val (Value.int .i64 ((orders).length : Int)) _ (op_lenL sl_22 (Ty.lift _ hS45.ext r_orders) rfl) rfl ?_
    refine WL.val (Value.bool (decide (((orders).length : Int) > (0 : Int)))) _ (op_gtr rfl rfl) rfl ?_
    refine WL.val (Value.bool (decide (((orders).length : Int) > (0 : Int)))) _ (op_assign rfl) rfl ?_
    refine WL.nil ?_
    refine W.ret ?_
    obtain rfl := Option.some.inj h
    show FinP _ _ _ _ _ _ _
    exact FinP.ret _ (res1 rfl rfl) ⟨rfl, hS45.ext⟩

theorem c_spec_l01In {w : World} {n : Int} {low : Int} {high : Int} (r_n : InR .i64 n) (r_low : InR .i64 low) (r_high : InR .i64 high) {res : Bool} (h : p_spec_l01In n low high  = some res) :
    Ret Try.prog 46 #[(Value.int .i64 n), (Value.int .i64 low), (Value.int .i64 high)] w (fun v w' => v = Value.bool res ∧ Ext w w') := by
  unfold p_spec_l01In at h
  have hS0 : St w w [] := St.start w
  refine Ret.start (fn := Try.f46) Try.func46 rfl 15 rfl rfl ?_
  refine W.seq (W.region ?_)
  refine WL.val (Value.bool false) _ (op_assign rfl) rfl ?_
  refine WL.nil ?_
  refine W.seq (W.region ?_)
  refine WL.val (Value.int .i64 n) _ (op_move rfl) rfl ?_
  refine WL.val (Value.int .i64 low) _ (op_move rfl) rfl ?_
  refine WL.val (Value.bool (decide (n ≥ low))) _ (op_geq rfl rfl) rfl ?_
  refine WL.val (Value.bool (decide (n ≥ low))) _ (op_move rfl) rfl ?_
  refine WL.cut 4 (fun fq wq => fq 14 = (Value.bool ((decide (n ≥ low)) && (decide (n ≤ high)))) ∧ St w wq []) ?_ ?_
  · rcases Bool.eq_false_or_eq_true (decide (n ≥ low)) with hc1 | hc1
    · refine WL.grun rfl (bool_of rfl hc1) ?_
      refine WL.val (Value.int .i64 n) _ (op_move rfl) rfl ?_
      refine WL.grun rfl (bool_of rfl hc1) ?_
      refine WL.val (Value.int .i64 high) _ (op_move rfl) rfl ?_
      refine WL.grun rfl (bool_of rfl hc1) ?_
      refine WL.val (Value.bool (decide (n ≤ high))) _ (op_leq rfl rfl) rfl ?_
      refine WL.val (Value.bool (decide (n ≤ high))) _ (op_pick_t (evb_of rfl hc1) rfl) rfl ?_
      refine WL.nil ?_
      exact ⟨rfl, (andT hc1), hS0⟩
    · refine WL.gskip rfl (bool_of rfl hc1) rfl ?_
      refine WL.gskip rfl (bool_of rfl hc1) rfl ?_
      refine WL.gskip rfl (bool_of rfl hc1) rfl ?_
      refine WL.val (Value.bool false) _ (op_pick_f (evb_of rfl hc1) rfl) rfl ?_
      refine WL.nil ?_
      exact ⟨rfl, (andF hc1), hS0⟩
  · intro f2 wd3 hq4
    obtain ⟨hf5, hS6⟩ := hq4
    refine WL.val (Value.bool ((decide (n ≥ low)) && (decide (n ≤ high)))) _ (op_assign hf5) rfl ?_
    refine WL.nil ?_
    refine W.ret ?_
    obtain rfl := Option.some.inj h
    show FinP _ _ _ _ _ _ _
    exact FinP.ret _ (res1 rfl rfl) ⟨rfl, hS6.ext⟩

theorem c_spec_l06Size {w : World} {orders : (List Int)} {v_orders : Value} {limit : Int} (r_orders : (Ty.sl (Ty.i .i64)).rep w v_orders orders) (r_limit : InR .i64 limit) {res : Int} (h : p_spec_l06Size orders limit  = some res) :
    Ret Try.prog 48 #[v_orders, (Value.int .i64 limit)] w (fun v w' => v = Value.int .i64 res ∧ InR .i64 res ∧ Ext w w') := by
  unfold p_spec_l06Size at h
  have hS0 : St w w [] := St.start w
  refine Ret.start (fn := Try.f48) Try.func48 rfl 33 rfl rfl ?_
  refine W.seq (W.region ?_)
  refine WL.val (Value.int .i64 (0 : Int)) _ (op_assign rfl) rfl ?_
  refine WL.nil ?_
  refine W.seq (W.region ?_)
  refine WL.val (Value.int .i64 (1 : Int)) _ (op_assign rfl) rfl ?_
  refine WL.nil ?_
  refine W.seq (W.seq (W.region ?_))
  refine WL.val (Value.int .i64 (0 : Int)) _ (op_assign rfl) rfl ?_
  refine WL.nil ?_
  show W _ _ _ _ _ _
  obtain ⟨res1, hres2, h⟩ := bs h
  refine W.blockLoop (fun fq wq => ∃ s, res1 = Res.fin s ∧ fq 5 = Value.int .i64 s ∧ InR .i64 s ∧ St w wq []) ?_ ?_
  · refine W.forN (fun k (s : Int) fq wq => fq 0 = v_orders ∧ fq 1 = (Value.int .i64 limit) ∧ fq 5 = Value.int .i64 s ∧ InR .i64 s ∧ fq 6 = Value.int .i64 (k : Int) ∧ InR .i64 (k : Int) ∧ St w wq []) hres2 ⟨rfl, rfl, rfl, (inL rfl), rfl, (inL rfl), hS0⟩ ?_ ?_
    · intro k3 x4 ct5 f6 wd7 hk8 hb9 hI10 hbrk11 hret12
      replace hI10 : f6 0 = v_orders ∧ f6 1 = (Value.int .i64 limit) ∧ f6 5 = Value.int .i64 x4 ∧ InR .i64 x4 ∧ f6 6 = Value.int .i64 (k3 : Int) ∧ InR .i64 (k3 : Int) ∧ St w wd7 [] := hI10
      replace hb9 : p_spec_l06Size_L1 orders limit k3 x4 = some ct5 := hb9
      unfold p_spec_l06Size_L1 at hb9
      obtain ⟨hf13, hf14, hf15, hr16, hf17, hr18, hS19⟩ := hI10
      refine W.seq (W.seq (W.region ?_))
      refine WL.val (Value.int .i64 (k3 : Int)) _ (op_move hf17) rfl ?_
      refine WL.val v_orders _ (op_move hf13) rfl ?_
      have hr20 := inR_len (Ty.lift _ hS19.ext r_orders)
      refine WL.val (Value.int .i64 ((orders).length : Int)) _ (op_lenL sl_22 (Ty.lift _ hS19.ext r_orders) rfl) rfl ?_
      refine WL.val (Value.bool (decide ((k3 : Int) < ((orders).length : Int)))) _ (op_lss rfl rfl) rfl ?_
      have hl21 : (k3 : Int) < ((orders).length : Int) := by omega
      refine WL.nil ?_
      refine W.condT (decide ((k3 : Int) < ((orders).length : Int))) rfl (decide_eq_true hl21) ?_
      refine W.skip ?_
      refine W.seq ?_
      refine W.block ?_
      refine W.seq (W.seq (W.region ?_))
      refine WL.val v_orders _ (op_move hf13) rfl ?_
      refine WL.val (Value.int .i64 (k3 : Int)) _ (op_move hf17) rfl ?_
      obtain ⟨x23, hx26, hb9⟩ := bs hb9
      obtain ⟨ha24, hb25, hx26⟩ := idx_some hx26
      refine WL.val (Value.pointer (some (elA v_orders ((k3 : Int)).toNat))) _ (op_idx sl_22 (Ty.lift _ hS19.ext r_orders) rfl rfl ha24 hb25) rfl ?_
      obtain ⟨u27, hc28, hr29⟩ := repSl.el r_orders hx26
      obtain ⟨rfl, hr29⟩ := hr29
      refine WL.val (Value.int .i64 x23) _ (op_load one_2 rfl (Ext.cell hS19.ext hc28)) rfl ?_
      refine WL.val (Value.int .i64 limit) _ (op_move hf14) rfl ?_
      refine WL.val (Value.bool (decide (x23 > limit))) _ (op_gtr rfl rfl) rfl ?_
      refine WL.nil ?_
      refine W.cond (decide (x23 > limit)) rfl (fun hc30 => ?_) (fun hc30 => ?_)
      · replace hb9 := ip hb9 hc30
        refine W.seq (W.region ?_)
        refine WL.val (Value.int .i64 limit) _ (op_move hf14) rfl ?_
        refine WL.val (Value.int .i64 (w64 (limit + (1 : Int)))) _ (op_add rfl rfl) rfl ?_
        refine WL.val (Value.int .i64 (w64 (limit + (1 : Int)))) _ (op_assign rfl) rfl ?_
        refine WL.nil ?_
        refine W.ret ?_
        obtain rfl := Option.some.inj hb9
        obtain rfl := hret12 _ rfl
        replace h := onRes_ret h
        obtain rfl := Option.some.inj h
        show FinP _ _ _ _ _ _ _
        exact FinP.ret _ (res1 rfl rfl) ⟨rfl, (inR_wrap _ _), hS19.ext⟩
      · replace hb9 := inegb hb9 hc30
        refine W.skip ?_
        refine W.seq (W.region ?_)
        refine WL.val (Value.int .i64 x4) _ (op_move hf15) rfl ?_
        refine WL.val v_orders _ (op_move hf13) rfl ?_
        refine WL.val (Value.int .i64 (k3 : Int)) _ (op_move hf17) rfl ?_
        refine WL.val (Value.pointer (some (elA v_orders ((k3 : Int)).toNat))) _ (op_idx sl_22 (Ty.lift _ hS19.ext r_orders) rfl rfl ha24 hb25) rfl ?_
        obtain ⟨u32, hc33, hr34⟩ := repSl.el r_orders hx26
        obtain ⟨rfl, hr34⟩ := hr34
        refine WL.val (Value.int .i64 x23) _ (op_load one_2 rfl (Ext.cell hS19.ext hc33)) rfl ?_
        refine WL.val (Value.int .i64 (w64 (x4 * x23))) _ (op_mul rfl rfl) rfl ?_
        refine WL.val (Value.int .i64 (w64 (x4 * x23))) _ (op_assign rfl) rfl ?_
        refine WL.nil ?_
        refine W.seq (W.region ?_)
        refine WL.val (Value.int .i64 (w64 (x4 * x23))) _ (op_move rfl) rfl ?_
        refine WL.val (Value.int .i64 limit) _ (op_move hf14) rfl ?_
        refine WL.val (Value.bool (decide ((w64 (x4 * x23)) > limit))) _ (op_gtr rfl rfl) rfl ?_
        refine WL.nil ?_
        refine W.cond (decide ((w64 (x4 * x23)) > limit)) rfl (fun hc35 => ?_) (fun hc35 => ?_)
        · replace hb9 := ip hb9 hc35
          refine W.seq (W.region ?_)
          refine WL.val (Value.int .i64 limit) _ (op_move hf14) rfl ?_
          refine WL.val (Value.int .i64 (w64 (limit + (1 : Int)))) _ (op_add rfl rfl) rfl ?_
          refine WL.val (Value.int .i64 (w64 (limit + (1 : Int)))) _ (op_assign rfl) rfl ?_
          refine WL.nil ?_
          refine W.ret ?_
          obtain rfl := Option.some.inj hb9
          obtain rfl := hret12 _ rfl
          replace h := onRes_ret h
          obtain rfl := Option.some.inj h
          show FinP _ _ _ _ _ _ _
          exact FinP.ret _ (res1 rfl rfl) ⟨rfl, (inR_wrap _ _), hS19.ext⟩
        · replace hb9 := inegb hb9 hc35
          refine W.skip ?_
          show W _ _ _ _ _ _
          refine W.region ?_
          refine WL.val (Value.int .i64 (k3 : Int)) _ (op_move hf17) rfl ?_
          refine WL.val (Value.int .i64 (w64 ((k3 : Int) + (1 : Int)))) _ (op_add rfl rfl) rfl ?_
          refine WL.val (Value.int .i64 (w64 ((k3 : Int) + (1 : Int)))) _ (op_assign rfl) rfl ?_
          refine WL.nil ?_
          obtain rfl := Option.some.inj hb9
          show ∃ s, _ = Ctl.next s ∧ _
          exact ⟨_, rfl, hf13, hf14, rfl, (inR_wrap _ _), (ctr_next hl21 hr20), (ctr_rng hl21 hr20), hS19⟩
    · intro x43 f38 wd39 hs40 hI41
      replace hI41 : f38 0 = v_orders ∧ f38 1 = (Value.int .i64 limit) ∧ f38 5 = Value.int .i64 x43 ∧ InR .i64 x43 ∧ f38 6 = Value.int .i64 (((orders).length : Nat) : Int) ∧ InR .i64 (((orders).length : Nat) : Int) ∧ St w wd39 [] := hI41
      obtain ⟨hf44, hf45, hf46, hr47, hf48, hr49, hS50⟩ := hI41
      refine W.seq (W.seq (W.region ?_))
      refine WL.val (Value.int .i64 (((orders).length : Nat) : Int)) _ (op_move hf48) rfl ?_
      refine WL.val v_orders _ (op_move hf44) rfl ?_
      have hr51 := inR_len (Ty.lift _ hS50.ext r_orders)
      refine WL.val (Value.int .i64 ((orders).length : Int)) _ (op_lenL sl_22 (Ty.lift _ hS50.ext r_orders) rfl) rfl ?_
      refine WL.val (Value.bool (decide ((((orders).length : Nat) : Int) < ((orders).length : Int)))) _ (op_lss rfl rfl) rfl ?_
      have hl52 : ¬ (((orders).length : Nat) : Int) < ((orders).length : Int) := by omega
      refine WL.nil ?_
      refine W.condF (decide ((((orders).length : Nat) : Int) < ((orders).length : Int))) rfl (decide_eq_false hl52) ?_
      refine W.exit ?_
      show _ = _ ∧ _
      exact ⟨rfl, _, hs40, hf46, hr47, hS50⟩
  · rintro f53 wd54 ⟨x57, rfl, hq55⟩
    replace h := onRes_fin h
    replace hq55 : f53 5 = Value.int .i64 x57 ∧ InR .i64 x57 ∧ St w wd54 [] := hq55
    obtain ⟨hf58, hr59, hS60⟩ := hq55
    refine W.seq (W.region ?_)
    refine WL.val (Value.int .i64 x57) _ (op_move hf58) rfl ?_
    refine WL.val (Value.int .i64 x57) _ (op_assign rfl) rfl ?_
    refine WL.nil ?_
    refine W.ret ?_
    obtain rfl := Option.some.inj h
    show FinP _ _ _ _ _ _ _
    exact FinP.ret _ (res1 rfl rfl) ⟨rfl, hr59, hS60.ext⟩

theorem c_spec_l17Size {w : World} {orders : (List Int)} {v_orders : Value} (r_orders : (Ty.sl (Ty.i .i64)).rep w v_orders orders) {res : Int} (h : p_spec_l17Size orders  = some res) :
    Ret Try.prog 29 #[v_orders] w (fun v w' => v = Value.int .i64 res ∧ InR .i64 res ∧ Ext w w') := by
  unfold p_spec_l17Size at h
  have hS0 : St w w [] := St.start w
  refine Ret.start (fn := Try.f29) Try.func29 rfl 5 rfl rfl ?_
  refine W.seq (W.region ?_)
  refine WL.val (Value.int .i64 (0 : Int)) _ (op_assign rfl) rfl ?_
  refine WL.nil ?_
  refine W.seq (W.region ?_)
  refine WL.val v_orders _ (op_move rfl) rfl ?_
  obtain ⟨x1, hx2, h⟩ := bs h
  refine WL.call _ (op_call fn_48 (args2 rfl rfl)) (c_spec_l06Size (Ty.lift _ hS0.ext r_orders) (inL rfl) hx2) rfl ?_
  rintro _ wd4 ⟨rfl, hr3, he5⟩
  have hS7 := St.extend hS0 he5
  replace hS7 : St w wd4 [] := hS7
  refine WL.val (Value.int .i64 x1) _ (op_assign rfl) rfl ?_
  refine WL.nil ?_
  refine W.ret ?_
  obtain rfl := Option.some.inj h
  show FinP _ _ _ _ _ _ _
  exact FinP.ret _ (res1 rfl rfl) ⟨rfl, hr3, hS7.ext⟩

theorem c_spec_l17Shape {w : World} {c_Orders : (List Int)} {v_c_Orders : Value} {c_Modulus : Int} {c_Values : (List (List (List Int)))} {v_c_Values : Value} (r_c_Orders : (Ty.sl (Ty.i .i64)).rep w v_c_Orders c_Orders) (r_c_Modulus : InR .i64 c_Modulus) (r_c_Values : (Ty.sl (Ty.sl (Ty.sl (Ty.i .i64)))).rep w v_c_Values c_Values) {res : Bool} (h : p_spec_l17Shape c_Orders c_Modulus c_Values  = some res) :
    Ret Try.prog 26 #[(Value.agg #[v_c_Orders, (Value.int .i64 c_Modulus), v_c_Values])] w (fun v w' => v = Value.bool res ∧ Ext w w') := by
  unfold p_spec_l17Shape at h
  have hS0 : St w w [] := St.start w
  refine Ret.start (fn := Try.f26) Try.func26 rfl 79 rfl rfl ?_
  refine W.seq (W.region ?_)
  refine WL.box hS0 rfl (cs := [v_c_Orders, (Value.int .i64 c_Modulus), v_c_Values]) rfl rfl ?_
  intro b1 wd2 hS3 he4 hx5
  replace hS3 : St w wd2 [bx b1 [v_c_Orders, (Value.int .i64 c_Modulus), v_c_Values]] := hS3
  have hx6 := St.boxAt hS3 0 rfl
  have hE7 : Ext w wd2 := hS3.ext
  have hS8 : St wd2 wd2 [] := St.start wd2
  refine WL.val (Value.bool false) _ (op_assign rfl) rfl ?_
  refine WL.nil ?_
  refine W.seq (W.seq (W.region ?_))
  refine WL.val (Value.pointer (some ⟨b1, 0, none⟩)) _ (op_fieldAddr fd_29_0 rfl) rfl ?_
  refine WL.val v_c_Orders _ (op_load one_22 rfl (BoxAt.cell (BoxAt.lift hS8.ext hx6) rfl)) rfl ?_
  obtain ⟨x9, hx10, h⟩ := bs h
  refine WL.call _ (op_call fn_45 (args1 rfl)) (c_spec_l06Orders (Ty.lift _ (Ext.trans hE7 hS8.ext) r_c_Orders) hx10) rfl ?_
  rintro _ wd11 ⟨rfl, he12⟩
  have hS14 := St.extend hS8 he12
  replace hS14 : St wd2 wd11 [] := hS14
  refine WL.val (Value.bool (!x9)) _ (op_not rfl) rfl ?_
  refine WL.val (Value.bool (!x9)) _ (op_move rfl) rfl ?_
  obtain ⟨x16, hj17, h⟩ := bs h
  refine WL.cut 5 (fun fq wq => fq 1 = (Value.pointer (some ⟨b1, 0, none⟩)) ∧ fq 16 = Value.bool x16 ∧ St wd2 wq []) ?_ ?_
  · rcases Bool.eq_false_or_eq_true (!x9) with hc15 | hc15
    · replace hj17 := ip hj17 hc15
      refine WL.gskip rfl (bool_of rfl hc15) rfl ?_
      refine WL.gskip rfl (bool_of rfl hc15) rfl ?_
      refine WL.gskip rfl (bool_of rfl hc15) rfl ?_
      refine WL.gskip rfl (bool_of rfl hc15) rfl ?_
      refine WL.val (Value.bool true) _ (op_pick_t (evb_of rfl hc15) rfl) rfl ?_
      refine WL.nil ?_
      obtain rfl := Option.some.inj hj17
      exact ⟨rfl, rfl, rfl, hS14⟩
    · replace hj17 := inegb hj17 hc15
      refine WL.grun rfl (bool_of rfl hc15) ?_
      refine WL.val (Value.pointer (some ⟨b1, 1, none⟩)) _ (op_fieldAddr fd_29_1 rfl) rfl ?_
      refine WL.grun rfl (bool_of rfl hc15) ?_
      refine WL.val (Value.int .i64 c_Modulus) _ (op_load one_2 rfl (BoxAt.cell (BoxAt.lift hS14.ext hx6) rfl)) rfl ?_
      refine WL.grun rfl (bool_of rfl hc15) ?_
      obtain ⟨x21, hx22, hj17⟩ := bs hj17
      refine WL.call _ (op_call fn_46 (args3 rfl rfl rfl)) (c_spec_l01In r_c_Modulus (inL rfl) (inL rfl) hx22) rfl ?_
      rintro _ wd23 ⟨rfl, he24⟩
      have hS26 := St.extend hS14 he24
      replace hS26 : St wd2 wd23 [] := hS26
      refine WL.grun rfl (bool_of rfl hc15) ?_
      refine WL.val (Value.bool (!x21)) _ (op_not rfl) rfl ?_
      refine WL.val (Value.bool (!x21)) _ (op_pick_f (evb_of rfl hc15) rfl) rfl ?_
      refine WL.nil ?_
      obtain rfl := Option.some.inj hj17
      exact ⟨rfl, rfl, rfl, hS26⟩
  · intro f18 wd19 hq20
    obtain ⟨hf27, hf28, hS29⟩ := hq20
    refine WL.nil ?_
    refine W.cond x16 hf28 (fun hc30 => ?_) (fun hc30 => ?_)
    · replace h := ip h hc30
      refine W.seq (W.region ?_)
      refine WL.val (Value.bool false) _ (op_assign rfl) rfl ?_
      refine WL.nil ?_
      refine W.ret ?_
      obtain rfl := Option.some.inj h
      show FinP _ _ _ _ _ _ _
      exact FinP.ret _ (res1 rfl rfl) ⟨rfl, (Ext.trans hE7 hS29.ext)⟩
    · replace h := inegb h hc30
      refine W.skip ?_
      refine W.seq (W.region ?_)
      refine WL.val (Value.pointer (some ⟨b1, 0, none⟩)) _ (op_fieldAddr fd_29_0 hf27) rfl ?_
      refine WL.val v_c_Orders _ (op_load one_22 rfl (BoxAt.cell (BoxAt.lift hS29.ext hx6) rfl)) rfl ?_
      obtain ⟨x32, hx33, h⟩ := bs h
      refine WL.call _ (op_call fn_29 (args1 rfl)) (c_spec_l17Size (Ty.lift _ (Ext.trans hE7 hS29.ext) r_c_Orders) hx33) rfl ?_
      rintro _ wd35 ⟨rfl, hr34, he36⟩
      have hS38 := St.extend hS29 he36
      replace hS38 : St wd2 wd35 [] := hS38
      refine WL.val (Value.int .i64 x32) _ (op_assign rfl) rfl ?_
      refine WL.nil ?_
      refine W.seq (W.seq (W.region ?_))
      refine WL.val (Value.int .i64 x32) _ (op_move rfl) rfl ?_
      refine WL.val (Value.bool (decide (x32 > (8 : Int)))) _ (op_gtr rfl rfl) rfl ?_
      refine WL.val (Value.bool (decide (x32 > (8 : Int)))) _ (op_move rfl) rfl ?_
      refine WL.cut 6 (fun fq wq => fq 1 = (Value.pointer (some ⟨b1, 0, none⟩)) ∧ fq 3 = (Value.int .i64 x32) ∧ fq 28 = (Value.bool ((decide (x32 > (8 : Int))) || (((c_Values).length : Int) != x32))) ∧ St wd2 wq []) ?_ ?_
      · rcases Bool.eq_false_or_eq_true (decide (x32 > (8 : Int))) with hc39 | hc39
        · refine WL.gskip rfl (bool_of rfl hc39) rfl ?_
          refine WL.gskip rfl (bool_of rfl hc39) rfl ?_
          refine WL.gskip rfl (bool_of rfl hc39) rfl ?_
          refine WL.gskip rfl (bool_of rfl hc39) rfl ?_
          refine WL.gskip rfl (bool_of rfl hc39) rfl ?_
          refine WL.val (Value.bool true) _ (op_pick_t (evb_of rfl hc39) rfl) rfl ?_
          refine WL.nil ?_
          exact ⟨rfl, hf27, rfl, (orT hc39), hS38⟩
        · refine WL.grun rfl (bool_of rfl hc39) ?_
          refine WL.val (Value.pointer (some ⟨b1, 2, none⟩)) _ (op_fieldAddr fd_29_2 hf27) rfl ?_
          refine WL.grun rfl (bool_of rfl hc39) ?_
          refine WL.val v_c_Values _ (op_load one_23 rfl (BoxAt.cell (BoxAt.lift hS38.ext hx6) rfl)) rfl ?_
          refine WL.grun rfl (bool_of rfl hc39) ?_
          have hr43 := inR_len (Ty.lift _ (Ext.trans hE7 hS38.ext) r_c_Values)
          refine WL.val (Value.int .i64 ((c_Values).length : Int)) _ (op_lenL sl_23 (Ty.lift _ (Ext.trans hE7 hS38.ext) r_c_Values) rfl) rfl ?_
          refine WL.grun rfl (bool_of rfl hc39) ?_
          refine WL.val (Value.int .i64 x32) _ (op_move rfl) rfl ?_
          refine WL.grun rfl (bool_of rfl hc39) ?_
          refine WL.val (Value.bool (((c_Values).length : Int) != x32)) _ (op_neq rfl rfl) rfl ?_
          refine WL.val (Value.bool (((c_Values).length : Int) != x32)) _ (op_pick_f (evb_of rfl hc39) rfl) rfl ?_
          refine WL.nil ?_
          exact ⟨rfl, hf27, rfl, (orF hc39), hS38⟩
      · intro f40 wd41 hq42
        obtain ⟨hf44, hf45, hf46, hS47⟩ := hq42
        refine WL.nil ?_
        refine W.cond ((decide (x32 > (8 : Int))) || (((c_Values).length : Int) != x32)) hf46 (fun hc48 => ?_) (fun hc48 => ?_)
        · replace h := ip h hc48
          refine W.seq (W.region ?_)
          refine WL.val (Value.bool false) _ (op_assign rfl) rfl ?_
          refine WL.nil ?_
          refine W.ret ?_
          obtain rfl := Option.some.inj h
          show FinP _ _ _ _ _ _ _
          exact FinP.ret _ (res1 rfl rfl) ⟨rfl, (Ext.trans hE7 hS47.ext)⟩
        · replace h := inegb h hc48
          refine W.skip ?_
          refine W.seq (W.seq (W.region ?_))
          refine WL.val (Value.int .i64 (0 : Int)) _ (op_assign rfl) rfl ?_
          refine WL.nil ?_
          show W _ _ _ _ _ _
          obtain ⟨res50, hres51, h⟩ := bs h
          refine W.blockLoop (fun fq wq => ∃ s, res50 = Res.fin s ∧ St wd2 wq []) ?_ ?_
          · refine W.forN (fun k (s : Unit) fq wq => fq 1 = (Value.pointer (some ⟨b1, 0, none⟩)) ∧ fq 3 = (Value.int .i64 x32) ∧ fq 4 = Value.int .i64 (k : Int) ∧ InR .i64 (k : Int) ∧ St wd2 wq []) hres51 ⟨hf44, hf45, rfl, (inL rfl), hS47⟩ ?_ ?_
            · intro k52 s356 ct53 f54 wd55 hk56 hb57 hI58 hbrk59 hret60
              obtain ⟨⟩ := s356
              replace hI58 : f54 1 = (Value.pointer (some ⟨b1, 0, none⟩)) ∧ f54 3 = (Value.int .i64 x32) ∧ f54 4 = Value.int .i64 (k52 : Int) ∧ InR .i64 (k52 : Int) ∧ St wd2 wd55 [] := hI58
              replace hb57 : p_spec_l17Shape_L1 c_Values x32 c_Modulus k52  = some ct53 := hb57
              unfold p_spec_l17Shape_L1 at hb57
              obtain ⟨hf61, hf62, hf63, hr64, hS65⟩ := hI58
              refine W.seq (W.seq (W.region ?_))
              refine WL.val (Value.int .i64 (k52 : Int)) _ (op_move hf63) rfl ?_
              refine WL.val (Value.int .i64 x32) _ (op_move hf62) rfl ?_
              refine WL.val (Value.bool (decide ((k52 : Int) < x32))) _ (op_lss rfl rfl) rfl ?_
              have hl66 : (k52 : Int) < x32 := by omega
              refine WL.nil ?_
              refine W.condT (decide ((k52 : Int) < x32)) rfl (decide_eq_true hl66) ?_
              refine W.skip ?_
              refine W.seq ?_
              refine W.block ?_
              refine W.seq (W.seq (W.region ?_))
              refine WL.val (Value.pointer (some ⟨b1, 2, none⟩)) _ (op_fieldAddr fd_29_2 hf61) rfl ?_
              refine WL.val v_c_Values _ (op_load one_23 rfl (BoxAt.cell (BoxAt.lift hS65.ext hx6) rfl)) rfl ?_
              refine WL.val (Value.int .i64 (k52 : Int)) _ (op_move hf63) rfl ?_
              obtain ⟨x68, hx71, hb57⟩ := bs hb57
              obtain ⟨ha69, hb70, hx71⟩ := idx_some hx71
              refine WL.val (Value.pointer (some (elA v_c_Values ((k52 : Int)).toNat))) _ (op_idx sl_23 (Ty.lift _ (Ext.trans hE7 hS65.ext) r_c_Values) rfl rfl ha69 hb70) rfl ?_
              obtain ⟨u72, hc73, hr74⟩ := repSl.el r_c_Values hx71
              refine WL.val u72 _ (op_load one_37 rfl (Ext.cell (Ext.trans hE7 hS65.ext) hc73)) rfl ?_
              have hr75 := inR_len (Ty.lift _ (Ext.trans hE7 hS65.ext) hr74)
              refine WL.val (Value.int .i64 ((x68).length : Int)) _ (op_lenL sl_37 (Ty.lift _ (Ext.trans hE7 hS65.ext) hr74) rfl) rfl ?_
              refine WL.val (Value.int .i64 x32) _ (op_move hf62) rfl ?_
              refine WL.val (Value.bool (((x68).length : Int) != x32)) _ (op_neq rfl rfl) rfl ?_
              refine WL.nil ?_
              refine W.cond (((x68).length : Int) != x32) rfl (fun hc76 => ?_) (fun hc76 => ?_)
              · replace hb57 := ip hb57 hc76
                refine W.seq (W.region ?_)
                refine WL.val (Value.bool false) _ (op_assign rfl) rfl ?_
                refine WL.nil ?_
                refine W.ret ?_
                obtain rfl := Option.some.inj hb57
                obtain rfl := hret60 _ rfl
                replace h := onRes_ret h
                obtain rfl := Option.some.inj h
                show FinP _ _ _ _ _ _ _
                exact FinP.ret _ (res1 rfl rfl) ⟨rfl, (Ext.trans hE7 hS65.ext)⟩
              · replace hb57 := inegb hb57 hc76
                refine W.skip ?_
                refine W.seq (W.region ?_)
                refine WL.val (Value.int .i64 (0 : Int)) _ (op_assign rfl) rfl ?_
                refine WL.nil ?_
                show W _ _ _ _ _ _
                obtain ⟨res78, hres79, hb57⟩ := bs hb57
                refine W.blockLoop (fun fq wq => ∃ s, res78 = Res.fin s ∧ fq 1 = (Value.pointer (some ⟨b1, 0, none⟩)) ∧ fq 3 = (Value.int .i64 x32) ∧ fq 4 = (Value.int .i64 (k52 : Int)) ∧ St wd2 wq []) ?_ ?_
                · refine W.forN (fun k (s : Unit) fq wq => fq 1 = (Value.pointer (some ⟨b1, 0, none⟩)) ∧ fq 3 = (Value.int .i64 x32) ∧ fq 4 = (Value.int .i64 (k52 : Int)) ∧ fq 5 = Value.int .i64 (k : Int) ∧ InR .i64 (k : Int) ∧ St wd2 wq []) hres79 ⟨hf61, hf62, hf63, rfl, (inL rfl), hS65⟩ ?_ ?_
                  · intro k80 s334 ct81 f82 wd83 hk84 hb85 hI86 hbrk87 hret88
                    obtain ⟨⟩ := s334
                    replace hI86 : f82 1 = (Value.pointer (some ⟨b1, 0, none⟩)) ∧ f82 3 = (Value.int .i64 x32) ∧ f82 4 = (Value.int .i64 (k52 : Int)) ∧ f82 5 = Value.int .i64 (k80 : Int) ∧ InR .i64 (k80 : Int) ∧ St wd2 wd83 [] := hI86
                    replace hb85 : p_spec_l17Shape_L2 x68 x32 c_Modulus k80  = some ct81 := hb85
                    unfold p_spec_l17Shape_L2 at hb85
                    obtain ⟨hf89, hf90, hf91, hf92, hr93, hS94⟩ := hI86
                    refine W.seq (W.seq (W.region ?_))
                    refine WL.val (Value.int .i64 (k80 : Int)) _ (op_move hf92) rfl ?_
                    refine WL.val (Value.int .i64 x32) _ (op_move hf90) rfl ?_
                    refine WL.val (Value.bool (decide ((k80 : Int) < x32))) _ (op_lss rfl rfl) rfl ?_
                    have hl95 : (k80 : Int) < x32 := by omega
                    refine WL.nil ?_
                    refine W.condT (decide ((k80 : Int) < x32)) rfl (decide_eq_true hl95) ?_
                    refine W.skip ?_
                    refine W.seq ?_
                    refine W.block ?_
                    refine W.seq (W.seq (W.region ?_))
                    refine WL.val (Value.pointer (some ⟨b1, 2, none⟩)) _ (op_fieldAddr fd_29_2 hf89) rfl ?_
                    refine WL.val v_c_Values _ (op_load one_23 rfl (BoxAt.cell (BoxAt.lift hS94.ext hx6) rfl)) rfl ?_
                    refine WL.val (Value.int .i64 (k52 : Int)) _ (op_move hf91) rfl ?_
                    refine WL.val (Value.pointer (some (elA v_c_Values ((k52 : Int)).toNat))) _ (op_idx sl_23 (Ty.lift _ (Ext.trans hE7 hS94.ext) r_c_Values) rfl rfl ha69 hb70) rfl ?_
                    obtain ⟨u97, hc98, hr99⟩ := repSl.el r_c_Values hx71
                    refine WL.val u97 _ (op_load one_37 rfl (Ext.cell (Ext.trans hE7 hS94.ext) hc98)) rfl ?_
                    refine WL.val (Value.int .i64 (k80 : Int)) _ (op_move hf92) rfl ?_
                    obtain ⟨x100, hx103, hb85⟩ := bs hb85
                    obtain ⟨ha101, hb102, hx103⟩ := idx_some hx103
                    refine WL.val (Value.pointer (some (elA u97 ((k80 : Int)).toNat))) _ (op_idx sl_37 (Ty.lift _ (Ext.trans hE7 hS94.ext) hr99) rfl rfl ha101 hb102) rfl ?_
                    obtain ⟨u104, hc105, hr106⟩ := repSl.el hr99 hx103
                    refine WL.val u104 _ (op_load one_22 rfl (Ext.cell (Ext.trans hE7 hS94.ext) hc105)) rfl ?_
                    have hr107 := inR_len (Ty.lift _ (Ext.trans hE7 hS94.ext) hr106)
                    refine WL.val (Value.int .i64 ((x100).length : Int)) _ (op_lenL sl_22 (Ty.lift _ (Ext.trans hE7 hS94.ext) hr106) rfl) rfl ?_
                    refine WL.val (Value.int .i64 x32) _ (op_move hf90) rfl ?_
                    refine WL.val (Value.bool (((x100).length : Int) != x32)) _ (op_neq rfl rfl) rfl ?_
                    refine WL.nil ?_
                    refine W.cond (((x100).length : Int) != x32) rfl (fun hc108 => ?_) (fun hc108 => ?_)
                    · replace hb85 := ip hb85 hc108
                      refine W.seq (W.region ?_)
                      refine WL.val (Value.bool false) _ (op_assign rfl) rfl ?_
                      refine WL.nil ?_
                      refine W.ret ?_
                      obtain rfl := Option.some.inj hb85
                      obtain rfl := hret88 _ rfl
                      replace hb57 := onRes_ret hb57
                      obtain rfl := Option.some.inj hb57
                      obtain rfl := hret60 _ rfl
                      replace h := onRes_ret h
                      obtain rfl := Option.some.inj h
                      show FinP _ _ _ _ _ _ _
                      exact FinP.ret _ (res1 rfl rfl) ⟨rfl, (Ext.trans hE7 hS94.ext)⟩
                    · replace hb85 := inegb hb85 hc108
                      refine W.skip ?_
                      refine W.seq (W.region ?_)
                      refine WL.val (Value.int .i64 (0 : Int)) _ (op_assign rfl) rfl ?_
                      refine WL.nil ?_
                      show W _ _ _ _ _ _
                      obtain ⟨res110, hres111, hb85⟩ := bs hb85
                      refine W.blockLoop (fun fq wq => ∃ s, res110 = Res.fin s ∧ fq 1 = (Value.pointer (some ⟨b1, 0, none⟩)) ∧ fq 3 = (Value.int .i64 x32) ∧ fq 4 = (Value.int .i64 (k52 : Int)) ∧ fq 5 = (Value.int .i64 (k80 : Int)) ∧ St wd2 wq []) ?_ ?_
                      · refine W.forN (fun k (s : Unit) fq wq => fq 1 = (Value.pointer (some ⟨b1, 0, none⟩)) ∧ fq 3 = (Value.int .i64 x32) ∧ fq 4 = (Value.int .i64 (k52 : Int)) ∧ fq 5 = (Value.int .i64 (k80 : Int)) ∧ fq 6 = Value.int .i64 (k : Int) ∧ InR .i64 (k : Int) ∧ St wd2 wq []) hres111 ⟨hf89, hf90, hf91, hf92, rfl, (inL rfl), hS94⟩ ?_ ?_
                        · intro k112 s310 ct113 f114 wd115 hk116 hb117 hI118 hbrk119 hret120
                          obtain ⟨⟩ := s310
                          replace hI118 : f114 1 = (Value.pointer (some ⟨b1, 0, none⟩)) ∧ f114 3 = (Value.int .i64 x32) ∧ f114 4 = (Value.int .i64 (k52 : Int)) ∧ f114 5 = (Value.int .i64 (k80 : Int)) ∧ f114 6 = Value.int .i64 (k112 : Int) ∧ InR .i64 (k112 : Int) ∧ St wd2 wd115 [] := hI118
                          replace hb117 : p_spec_l17Shape_L3 x100 c_Modulus k112  = some ct113 := hb117
                          unfold p_spec_l17Shape_L3 at hb117
                          obtain ⟨hf121, hf122, hf123, hf124, hf125, hr126, hS127⟩ := hI118
                          refine W.seq (W.seq (W.region ?_))
                          refine WL.val (Value.int .i64 (k112 : Int)) _ (op_move hf125) rfl ?_
                          refine WL.val (Value.int .i64 x32) _ (op_move hf122) rfl ?_
                          refine WL.val (Value.bool (decide ((k112 : Int) < x32))) _ (op_lss rfl rfl) rfl ?_
                          have hl128 : (k112 : Int) < x32 := by omega
                          refine WL.nil ?_
                          refine W.condT (decide ((k112 : Int) < x32)) rfl (decide_eq_true hl128) ?_
                          refine W.skip ?_
                          refine W.seq ?_
                          refine W.block ?_
                          refine W.seq ?_
                          obtain ⟨u179, hc180, hr181⟩ := repSl.el r_c_Values hx71
                          obtain ⟨u214, hc215, hr216⟩ := repSl.el hr181 hx103
                          obtain ⟨x239, hx242, hb117⟩ := bs hb117
                          obtain ⟨ha240, hb241, hx242⟩ := idx_some hx242
                          obtain ⟨u253, hc254, hr255⟩ := repSl.el hr216 hx242
                          obtain ⟨rfl, hr255⟩ := hr255
                          refine W.drawR mixo 14 [] [fun _ v _ _ => v = (Value.pointer (some ⟨b1, 2, none⟩)), fun _ v _ _ => v = v_c_Values, fun _ v _ _ => v = (Value.int .i64 (k52 : Int)) ∧ InR .i64 (k52 : Int), fun _ v _ _ => v = (Value.pointer (some (elA v_c_Values ((k52 : Int)).toNat))), fun _ v _ _ => v = u179, fun _ v _ _ => v = (Value.int .i64 (k80 : Int)) ∧ InR .i64 (k80 : Int), fun _ v _ _ => v = (Value.pointer (some (elA u179 ((k80 : Int)).toNat))), fun _ v _ _ => v = u214, fun _ v _ _ => v = (Value.int .i64 (k112 : Int)) ∧ InR .i64 (k112 : Int), fun _ v _ _ => v = (Value.pointer (some (elA u214 ((k112 : Int)).toNat))), fun _ v _ _ => v = (Value.int .i64 x239) ∧ InR .i64 x239, fun _ v _ _ => v = (Value.pointer (some ⟨b1, 1, none⟩)), fun _ v _ _ => v = (Value.int .i64 c_Modulus) ∧ InR .i64 c_Modulus, fun _ v _ _ => v = (Value.int .i64 (w64 (c_Modulus - (1 : Int)))) ∧ InR .i64 (w64 (c_Modulus - (1 : Int)))] (by kernel_rfl) (by kernel_rfl) ⟨pk, pk, pk, pk, pk, pk, pk, pk, pk, pk, pk, pk, pk, pk, trivial⟩ ⟨?_, ?_, ?_, ?_, ?_, ?_, ?_, ?_, ?_, ?_, ?_, ?_, ?_, ?_, trivial⟩ ?_
                          · refine ObX.op rfl fun f130 wd131 he132 hout133 hphi134 => ?_
                            have e136 : f130 1 = (Value.pointer (some ⟨b1, 0, none⟩)) := (hout133 1 rfl).trans hf121
                            exact OpX.val (Value.pointer (some ⟨b1, 2, none⟩)) wd131 rfl (op_fieldAddr fd_29_2 e136) (Ext.refl _) rfl
                          · refine ObX.op rfl fun f137 wd138 he139 hout140 hphi141 => ?_
                            have hS142 := St.extend hS127 he139
                            obtain ⟨S143, hS144, hf145⟩ := hphi141 0 63 _ rfl rfl rfl
                            have e146 : f137 63 = (Value.pointer (some ⟨b1, 2, none⟩)) := hf145
                            exact OpX.val v_c_Values wd138 rfl (op_load one_23 e146 (BoxAt.cell (BoxAt.lift hS142.ext hx6) rfl)) (Ext.refl _) rfl
                          · refine ObX.op rfl fun f147 wd148 he149 hout150 hphi151 => ?_
                            have e153 : f147 4 = (Value.int .i64 (k52 : Int)) := (hout150 4 rfl).trans hf123
                            exact OpX.val (Value.int .i64 (k52 : Int)) wd148 rfl (op_move e153) (Ext.refl _) ⟨rfl, hr64⟩
                          · refine ObX.op rfl fun f154 wd155 he156 hout157 hphi158 => ?_
                            have hS159 := St.extend hS127 he156
                            obtain ⟨S160, hS161, hf162⟩ := hphi158 1 64 _ rfl rfl rfl
                            have e163 : f154 64 = v_c_Values := hf162
                            obtain ⟨S164, hS165, hf166⟩ := hphi158 2 65 _ rfl rfl rfl
                            obtain ⟨e167, hr168⟩ := hf166
                            exact OpX.val (Value.pointer (some (elA v_c_Values ((k52 : Int)).toNat))) wd155 rfl (op_idx sl_23 (Ty.lift _ (Ext.trans hE7 hS159.ext) r_c_Values) e163 e167 ha69 hb70) (Ext.refl _) rfl
                          · refine ObX.op rfl fun f169 wd170 he171 hout172 hphi173 => ?_
                            have hS174 := St.extend hS127 he171
                            obtain ⟨S175, hS176, hf177⟩ := hphi173 3 66 _ rfl rfl rfl
                            have e178 : f169 66 = (Value.pointer (some (elA v_c_Values ((k52 : Int)).toNat))) := hf177
                            exact OpX.val u179 wd170 rfl (op_load one_37 e178 (Ext.cell (Ext.trans hE7 hS174.ext) hc180)) (Ext.refl _) rfl
                          · refine ObX.op rfl fun f182 wd183 he184 hout185 hphi186 => ?_
                            have e188 : f182 5 = (Value.int .i64 (k80 : Int)) := (hout185 5 rfl).trans hf124
                            exact OpX.val (Value.int .i64 (k80 : Int)) wd183 rfl (op_move e188) (Ext.refl _) ⟨rfl, hr93⟩
                          · refine ObX.op rfl fun f189 wd190 he191 hout192 hphi193 => ?_
                            have hS194 := St.extend hS127 he191
                            obtain ⟨S195, hS196, hf197⟩ := hphi193 4 67 _ rfl rfl rfl
                            have e198 : f189 67 = u179 := hf197
                            obtain ⟨S199, hS200, hf201⟩ := hphi193 5 68 _ rfl rfl rfl
                            obtain ⟨e202, hr203⟩ := hf201
                            exact OpX.val (Value.pointer (some (elA u179 ((k80 : Int)).toNat))) wd190 rfl (op_idx sl_37 (Ty.lift _ (Ext.trans hE7 hS194.ext) hr181) e198 e202 ha101 hb102) (Ext.refl _) rfl
                          · refine ObX.op rfl fun f204 wd205 he206 hout207 hphi208 => ?_
                            have hS209 := St.extend hS127 he206
                            obtain ⟨S210, hS211, hf212⟩ := hphi208 6 69 _ rfl rfl rfl
                            have e213 : f204 69 = (Value.pointer (some (elA u179 ((k80 : Int)).toNat))) := hf212
                            exact OpX.val u214 wd205 rfl (op_load one_22 e213 (Ext.cell (Ext.trans hE7 hS209.ext) hc215)) (Ext.refl _) rfl
                          · refine ObX.op rfl fun f217 wd218 he219 hout220 hphi221 => ?_
                            have e223 : f217 6 = (Value.int .i64 (k112 : Int)) := (hout220 6 rfl).trans hf125
                            exact OpX.val (Value.int .i64 (k112 : Int)) wd218 rfl (op_move e223) (Ext.refl _) ⟨rfl, hr126⟩
                          · refine ObX.op rfl fun f224 wd225 he226 hout227 hphi228 => ?_
                            have hS229 := St.extend hS127 he226
                            obtain ⟨S230, hS231, hf232⟩ := hphi228 7 70 _ rfl rfl rfl
                            have e233 : f224 70 = u214 := hf232
                            obtain ⟨S234, hS235, hf236⟩ := hphi228 8 71 _ rfl rfl rfl
                            obtain ⟨e237, hr238⟩ := hf236
                            exact OpX.val (Value.pointer (some (elA u214 ((k112 : Int)).toNat))) wd225 rfl (op_idx sl_22 (Ty.lift _ (Ext.trans hE7 hS229.ext) hr216) e233 e237 ha240 hb241) (Ext.refl _) rfl
                          · refine ObX.op rfl fun f243 wd244 he245 hout246 hphi247 => ?_
                            have hS248 := St.extend hS127 he245
                            obtain ⟨S249, hS250, hf251⟩ := hphi247 9 72 _ rfl rfl rfl
                            have e252 : f243 72 = (Value.pointer (some (elA u214 ((k112 : Int)).toNat))) := hf251
                            exact OpX.val (Value.int .i64 x239) wd244 rfl (op_load one_2 e252 (Ext.cell (Ext.trans hE7 hS248.ext) hc254)) (Ext.refl _) ⟨rfl, hr255⟩
                          · refine ObX.op rfl fun f256 wd257 he258 hout259 hphi260 => ?_
                            have e262 : f256 1 = (Value.pointer (some ⟨b1, 0, none⟩)) := (hout259 1 rfl).trans hf121
                            exact OpX.val (Value.pointer (some ⟨b1, 1, none⟩)) wd257 rfl (op_fieldAddr fd_29_1 e262) (Ext.refl _) rfl
                          · refine ObX.op rfl fun f263 wd264 he265 hout266 hphi267 => ?_
                            have hS268 := St.extend hS127 he265
                            obtain ⟨S269, hS270, hf271⟩ := hphi267 11 74 _ rfl rfl rfl
                            have e272 : f263 74 = (Value.pointer (some ⟨b1, 1, none⟩)) := hf271
                            exact OpX.val (Value.int .i64 c_Modulus) wd264 rfl (op_load one_2 e272 (BoxAt.cell (BoxAt.lift hS268.ext hx6) rfl)) (Ext.refl _) ⟨rfl, r_c_Modulus⟩
                          · refine ObX.op rfl fun f273 wd274 he275 hout276 hphi277 => ?_
                            obtain ⟨S279, hS280, hf281⟩ := hphi277 12 75 _ rfl rfl rfl
                            obtain ⟨e282, hr283⟩ := hf281
                            exact OpX.val (Value.int .i64 (w64 (c_Modulus - (1 : Int)))) wd274 rfl (op_sub e282 rfl) (Ext.refl _) ⟨rfl, (inR_wrap _ _)⟩
                          · intro f284 wd285 Ss286 he287 hout288 hSn289 hSd290 hphi291
                            show WL _ _ _ _ _ _ _
                            have hS292 := St.extend hS127 he287
                            obtain ⟨e293, hr294⟩ := hphi291 10 73 _ (by decide) rfl rfl
                            obtain ⟨e295, hr296⟩ := hphi291 13 76 _ (by decide) rfl rfl
                            have e297 : f284 1 = (Value.pointer (some ⟨b1, 0, none⟩)) := (hout288 1 rfl).trans hf121
                            have e298 : f284 3 = (Value.int .i64 x32) := (hout288 3 rfl).trans hf122
                            have e299 : f284 4 = (Value.int .i64 (k52 : Int)) := (hout288 4 rfl).trans hf123
                            have e300 : f284 5 = (Value.int .i64 (k80 : Int)) := (hout288 5 rfl).trans hf124
                            have e301 : f284 6 = (Value.int .i64 (k112 : Int)) := (hout288 6 rfl).trans hf125
                            obtain ⟨x302, hx303, hb117⟩ := bs hb117
                            refine WL.call _ (op_call fn_46 (args3 e293 rfl e295)) (c_spec_l01In hr294 (inL rfl) hr296 hx303) rfl ?_
                            rintro _ wd304 ⟨rfl, he305⟩
                            have hS307 := St.extend hS292 he305
                            replace hS307 : St wd2 wd304 [] := hS307
                            refine WL.val (Value.bool (!x302)) _ (op_not rfl) rfl ?_
                            refine WL.nil ?_
                            refine W.cond (!x302) rfl (fun hc308 => ?_) (fun hc308 => ?_)
                            · replace hb117 := ip hb117 hc308
                              refine W.seq (W.region ?_)
                              refine WL.val (Value.bool false) _ (op_assign rfl) rfl ?_
                              refine WL.nil ?_
                              refine W.ret ?_
                              obtain rfl := Option.some.inj hb117
                              obtain rfl := hret120 _ rfl
                              replace hb85 := onRes_ret hb85
                              obtain rfl := Option.some.inj hb85
                              obtain rfl := hret88 _ rfl
                              replace hb57 := onRes_ret hb57
                              obtain rfl := Option.some.inj hb57
                              obtain rfl := hret60 _ rfl
                              replace h := onRes_ret h
                              obtain rfl := Option.some.inj h
                              show FinP _ _ _ _ _ _ _
                              exact FinP.ret _ (res1 rfl rfl) ⟨rfl, (Ext.trans hE7 hS307.ext)⟩
                            · replace hb117 := inegb hb117 hc308
                              refine W.skip ?_
                              show W _ _ _ _ _ _
                              refine W.region ?_
                              refine WL.val (Value.int .i64 (k112 : Int)) _ (op_move e301) rfl ?_
                              refine WL.val (Value.int .i64 (w64 ((k112 : Int) + (1 : Int)))) _ (op_add rfl rfl) rfl ?_
                              refine WL.val (Value.int .i64 (w64 ((k112 : Int) + (1 : Int)))) _ (op_assign rfl) rfl ?_
                              refine WL.nil ?_
                              obtain rfl := Option.some.inj hb117
                              show ∃ s, _ = Ctl.next s ∧ _
                              exact ⟨_, rfl, e297, e298, e299, e300, (ctr_next hl128 hr34), (ctr_rng hl128 hr34), hS307⟩
                        · intro s315 f311 wd312 hs313 hI314
                          obtain ⟨⟩ := s315
                          replace hI314 : f311 1 = (Value.pointer (some ⟨b1, 0, none⟩)) ∧ f311 3 = (Value.int .i64 x32) ∧ f311 4 = (Value.int .i64 (k52 : Int)) ∧ f311 5 = (Value.int .i64 (k80 : Int)) ∧ f311 6 = Value.int .i64 (((x32).toNat : Nat) : Int) ∧ InR .i64 (((x32).toNat : Nat) : Int) ∧ St wd2 wd312 [] := hI314
                          obtain ⟨hf316, hf317, hf318, hf319, hf320, hr321, hS322⟩ := hI314
                          refine W.seq (W.seq (W.region ?_))
                          refine WL.val (Value.int .i64 (((x32).toNat : Nat) : Int)) _ (op_move hf320) rfl ?_
                          refine WL.val (Value.int .i64 x32) _ (op_move hf317) rfl ?_
                          refine WL.val (Value.bool (decide ((((x32).toNat : Nat) : Int) < x32))) _ (op_lss rfl rfl) rfl ?_
                          have hl323 : ¬ (((x32).toNat : Nat) : Int) < x32 := by omega
                          refine WL.nil ?_
                          refine W.condF (decide ((((x32).toNat : Nat) : Int) < x32)) rfl (decide_eq_false hl323) ?_
                          refine W.exit ?_
                          show _ = _ ∧ _
                          exact ⟨rfl, _, hs313, hf316, hf317, hf318, hf319, hS322⟩
                      · rintro f324 wd325 ⟨s327, rfl, hq326⟩
                        replace hb85 := onRes_fin hb85
                        obtain ⟨⟩ := s327
                        replace hq326 : f324 1 = (Value.pointer (some ⟨b1, 0, none⟩)) ∧ f324 3 = (Value.int .i64 x32) ∧ f324 4 = (Value.int .i64 (k52 : Int)) ∧ f324 5 = (Value.int .i64 (k80 : Int)) ∧ St wd2 wd325 [] := hq326
                        obtain ⟨hf328, hf329, hf330, hf331, hS332⟩ := hq326
                        show W _ _ _ _ _ _
                        refine W.region ?_
                        refine WL.val (Value.int .i64 (k80 : Int)) _ (op_move hf331) rfl ?_
                        refine WL.val (Value.int .i64 (w64 ((k80 : Int) + (1 : Int)))) _ (op_add rfl rfl) rfl ?_
                        refine WL.val (Value.int .i64 (w64 ((k80 : Int) + (1 : Int)))) _ (op_assign rfl) rfl ?_
                        refine WL.nil ?_
                        obtain rfl := Option.some.inj hb85
                        show ∃ s, _ = Ctl.next s ∧ _
                        exact ⟨_, rfl, hf328, hf329, hf330, (ctr_next hl95 hr34), (ctr_rng hl95 hr34), hS332⟩
                  · intro s339 f335 wd336 hs337 hI338
                    obtain ⟨⟩ := s339
                    replace hI338 : f335 1 = (Value.pointer (some ⟨b1, 0, none⟩)) ∧ f335 3 = (Value.int .i64 x32) ∧ f335 4 = (Value.int .i64 (k52 : Int)) ∧ f335 5 = Value.int .i64 (((x32).toNat : Nat) : Int) ∧ InR .i64 (((x32).toNat : Nat) : Int) ∧ St wd2 wd336 [] := hI338
                    obtain ⟨hf340, hf341, hf342, hf343, hr344, hS345⟩ := hI338
                    refine W.seq (W.seq (W.region ?_))
                    refine WL.val (Value.int .i64 (((x32).toNat : Nat) : Int)) _ (op_move hf343) rfl ?_
                    refine WL.val (Value.int .i64 x32) _ (op_move hf341) rfl ?_
                    refine WL.val (Value.bool (decide ((((x32).toNat : Nat) : Int) < x32))) _ (op_lss rfl rfl) rfl ?_
                    have hl346 : ¬ (((x32).toNat : Nat) : Int) < x32 := by omega
                    refine WL.nil ?_
                    refine W.condF (decide ((((x32).toNat : Nat) : Int) < x32)) rfl (decide_eq_false hl346) ?_
                    refine W.exit ?_
                    show _ = _ ∧ _
                    exact ⟨rfl, _, hs337, hf340, hf341, hf342, hS345⟩
                · rintro f347 wd348 ⟨s350, rfl, hq349⟩
                  replace hb57 := onRes_fin hb57
                  obtain ⟨⟩ := s350
                  replace hq349 : f347 1 = (Value.pointer (some ⟨b1, 0, none⟩)) ∧ f347 3 = (Value.int .i64 x32) ∧ f347 4 = (Value.int .i64 (k52 : Int)) ∧ St wd2 wd348 [] := hq349
                  obtain ⟨hf351, hf352, hf353, hS354⟩ := hq349
                  show W _ _ _ _ _ _
                  refine W.region ?_
                  refine WL.val (Value.int .i64 (k52 : Int)) _ (op_move hf353) rfl ?_
                  refine WL.val (Value.int .i64 (w64 ((k52 : Int) + (1 : Int)))) _ (op_add rfl rfl) rfl ?_
                  refine WL.val (Value.int .i64 (w64 ((k52 : Int) + (1 : Int)))) _ (op_assign rfl) rfl ?_
                  refine WL.nil ?_
                  obtain rfl := Option.some.inj hb57
                  show ∃ s, _ = Ctl.next s ∧ _
                  exact ⟨_, rfl, hf351, hf352, (ctr_next hl66 hr34), (ctr_rng hl66 hr34), hS354⟩
            · intro s361 f357 wd358 hs359 hI360
              obtain ⟨⟩ := s361
              replace hI360 : f357 1 = (Value.pointer (some ⟨b1, 0, none⟩)) ∧ f357 3 = (Value.int .i64 x32) ∧ f357 4 = Value.int .i64 (((x32).toNat : Nat) : Int) ∧ InR .i64 (((x32).toNat : Nat) : Int) ∧ St wd2 wd358 [] := hI360
              obtain ⟨hf362, hf363, hf364, hr365, hS366⟩ := hI360
              refine W.seq (W.seq (W.region ?_))
              refine WL.val (Value.int .i64 (((x32).toNat : Nat) : Int)) _ (op_move hf364) rfl ?_
              refine WL.val (Value.int .i64 x32) _ (op_move hf363) rfl ?_
              refine WL.val (Value.bool (decide ((((x32).toNat : Nat) : Int) < x32))) _ (op_lss rfl rfl) rfl ?_
              have hl367 : ¬ (((x32).toNat : Nat) : Int) < x32 := by omega
              refine WL.nil ?_
              refine W.condF (decide ((((x32).toNat : Nat) : Int) < x32)) rfl (decide_eq_false hl367) ?_
              refine W.exit ?_
              show _ = _ ∧ _
              exact ⟨rfl, _, hs359, hS366⟩
          · rintro f368 wd369 ⟨s371, rfl, hq370⟩
            replace h := onRes_fin h
            obtain ⟨⟩ := s371
            replace hq370 : St wd2 wd369 [] := hq370
            have hS372 := hq370
            refine W.seq (W.region ?_)
            refine WL.val (Value.bool true) _ (op_assign rfl) rfl ?_
            refine WL.nil ?_
            refine W.ret ?_
            obtain rfl := Option.some.inj h
            show FinP _ _ _ _ _ _ _
            exact FinP.ret _ (res1 rfl rfl) ⟨rfl, (Ext.trans hE7 hS372.ext)⟩

theorem c_spec_l17Normal {w : World} {c_Orders : (List Int)} {v_c_Orders : Value} {c_Modulus : Int} {c_Values : (List (List (List Int)))} {v_c_Values : Value} (r_c_Orders : (Ty.sl (Ty.i .i64)).rep w v_c_Orders c_Orders) (r_c_Modulus : InR .i64 c_Modulus) (r_c_Values : (Ty.sl (Ty.sl (Ty.sl (Ty.i .i64)))).rep w v_c_Values c_Values) {res : Bool} (h : p_spec_l17Normal c_Orders c_Modulus c_Values  = some res) :
    Ret Try.prog 27 #[(Value.agg #[v_c_Orders, (Value.int .i64 c_Modulus), v_c_Values])] w (fun v w' => v = Value.bool res ∧ Ext w w') := by
  unfold p_spec_l17Normal at h
  have hS0 : St w w [] := St.start w
  refine Ret.start (fn := Try.f27) Try.func27 rfl 56 rfl rfl ?_
  refine W.seq (W.region ?_)
  refine WL.box hS0 rfl (cs := [v_c_Orders, (Value.int .i64 c_Modulus), v_c_Values]) rfl rfl ?_
  intro b1 wd2 hS3 he4 hx5
  replace hS3 : St w wd2 [bx b1 [v_c_Orders, (Value.int .i64 c_Modulus), v_c_Values]] := hS3
  have hx6 := St.boxAt hS3 0 rfl
  have hE7 : Ext w wd2 := hS3.ext
  have hS8 : St wd2 wd2 [] := St.start wd2
  refine WL.val (Value.bool false) _ (op_assign rfl) rfl ?_
  refine WL.nil ?_
  refine W.seq (W.region ?_)
  refine WL.val (Value.pointer (some ⟨b1, 2, none⟩)) _ (op_fieldAddr fd_29_2 rfl) rfl ?_
  refine WL.val v_c_Values _ (op_load one_23 rfl (BoxAt.cell (BoxAt.lift hS8.ext hx6) rfl)) rfl ?_
  have hr9 := inR_len (Ty.lift _ (Ext.trans hE7 hS8.ext) r_c_Values)
  refine WL.val (Value.int .i64 ((c_Values).length : Int)) _ (op_lenL sl_23 (Ty.lift _ (Ext.trans hE7 hS8.ext) r_c_Values) rfl) rfl ?_
  refine WL.val (Value.int .i64 ((c_Values).length : Int)) _ (op_assign rfl) rfl ?_
  refine WL.nil ?_
  refine W.seq (W.seq (W.region ?_))
  refine WL.val (Value.int .i64 (0 : Int)) _ (op_assign rfl) rfl ?_
  refine WL.nil ?_
  show W _ _ _ _ _ _
  obtain ⟨res10, hres11, h⟩ := bs h
  refine W.blockLoop (fun fq wq => ∃ s, res10 = Res.fin s ∧ St wd2 wq []) ?_ ?_
  · refine W.forN (fun k (s : Unit) fq wq => fq 1 = (Value.pointer (some ⟨b1, 0, none⟩)) ∧ fq 3 = (Value.int .i64 ((c_Values).length : Int)) ∧ fq 4 = Value.int .i64 (k : Int) ∧ InR .i64 (k : Int) ∧ St wd2 wq []) hres11 ⟨rfl, rfl, rfl, (inL rfl), hS8⟩ ?_ ?_
    · intro k12 s158 ct13 f14 wd15 hk16 hb17 hI18 hbrk19 hret20
      obtain ⟨⟩ := s158
      replace hI18 : f14 1 = (Value.pointer (some ⟨b1, 0, none⟩)) ∧ f14 3 = (Value.int .i64 ((c_Values).length : Int)) ∧ f14 4 = Value.int .i64 (k12 : Int) ∧ InR .i64 (k12 : Int) ∧ St wd2 wd15 [] := hI18
      replace hb17 : p_spec_l17Normal_L1 c_Values k12  = some ct13 := hb17
      unfold p_spec_l17Normal_L1 at hb17
      obtain ⟨hf21, hf22, hf23, hr24, hS25⟩ := hI18
      refine W.seq (W.seq (W.region ?_))
      refine WL.val (Value.int .i64 (k12 : Int)) _ (op_move hf23) rfl ?_
      refine WL.val (Value.int .i64 ((c_Values).length : Int)) _ (op_move hf22) rfl ?_
      refine WL.val (Value.bool (decide ((k12 : Int) < ((c_Values).length : Int)))) _ (op_lss rfl rfl) rfl ?_
      have hl26 : (k12 : Int) < ((c_Values).length : Int) := by omega
      refine WL.nil ?_
      refine W.condT (decide ((k12 : Int) < ((c_Values).length : Int))) rfl (decide_eq_true hl26) ?_
      refine W.skip ?_
      refine W.seq ?_
      refine W.block ?_
      refine W.seq (W.region ?_)
      refine WL.val (Value.int .i64 (0 : Int)) _ (op_assign rfl) rfl ?_
      refine WL.nil ?_
      show W _ _ _ _ _ _
      obtain ⟨res28, hres29, hb17⟩ := bs hb17
      refine W.blockLoop (fun fq wq => ∃ s, res28 = Res.fin s ∧ fq 1 = (Value.pointer (some ⟨b1, 0, none⟩)) ∧ fq 3 = (Value.int .i64 ((c_Values).length : Int)) ∧ fq 4 = (Value.int .i64 (k12 : Int)) ∧ St wd2 wq []) ?_ ?_
      · refine W.forN (fun k (s : Unit) fq wq => fq 1 = (Value.pointer (some ⟨b1, 0, none⟩)) ∧ fq 3 = (Value.int .i64 ((c_Values).length : Int)) ∧ fq 4 = (Value.int .i64 (k12 : Int)) ∧ fq 5 = Value.int .i64 (k : Int) ∧ InR .i64 (k : Int) ∧ St wd2 wq []) hres29 ⟨hf21, hf22, hf23, rfl, (inL rfl), hS25⟩ ?_ ?_
        · intro k30 s136 ct31 f32 wd33 hk34 hb35 hI36 hbrk37 hret38
          obtain ⟨⟩ := s136
          replace hI36 : f32 1 = (Value.pointer (some ⟨b1, 0, none⟩)) ∧ f32 3 = (Value.int .i64 ((c_Values).length : Int)) ∧ f32 4 = (Value.int .i64 (k12 : Int)) ∧ f32 5 = Value.int .i64 (k30 : Int) ∧ InR .i64 (k30 : Int) ∧ St wd2 wd33 [] := hI36
          replace hb35 : p_spec_l17Normal_L2 c_Values k12 k30  = some ct31 := hb35
          unfold p_spec_l17Normal_L2 at hb35
          obtain ⟨hf39, hf40, hf41, hf42, hr43, hS44⟩ := hI36
          refine W.seq (W.seq (W.region ?_))
          refine WL.val (Value.int .i64 (k30 : Int)) _ (op_move hf42) rfl ?_
          refine WL.val (Value.int .i64 ((c_Values).length : Int)) _ (op_move hf40) rfl ?_
          refine WL.val (Value.bool (decide ((k30 : Int) < ((c_Values).length : Int)))) _ (op_lss rfl rfl) rfl ?_
          have hl45 : (k30 : Int) < ((c_Values).length : Int) := by omega
          refine WL.nil ?_
          refine W.condT (decide ((k30 : Int) < ((c_Values).length : Int))) rfl (decide_eq_true hl45) ?_
          refine W.skip ?_
          refine W.seq ?_
          refine W.block ?_
          refine W.seq (W.region ?_)
          refine WL.val (Value.pointer (some ⟨b1, 2, none⟩)) _ (op_fieldAddr fd_29_2 hf39) rfl ?_
          refine WL.val v_c_Values _ (op_load one_23 rfl (BoxAt.cell (BoxAt.lift hS44.ext hx6) rfl)) rfl ?_
          obtain ⟨x47, hx50, hb35⟩ := bs hb35
          obtain ⟨ha48, hb49, hx50⟩ := idx_some hx50
          refine WL.val (Value.pointer (some (elA v_c_Values ((0 : Int)).toNat))) _ (op_idx sl_23 (Ty.lift _ (Ext.trans hE7 hS44.ext) r_c_Values) rfl rfl ha48 hb49) rfl ?_
          obtain ⟨u51, hc52, hr53⟩ := repSl.el r_c_Values hx50
          refine WL.val u51 _ (op_load one_37 rfl (Ext.cell (Ext.trans hE7 hS44.ext) hc52)) rfl ?_
          refine WL.val (Value.int .i64 (k12 : Int)) _ (op_move hf41) rfl ?_
          obtain ⟨x54, hx57, hb35⟩ := bs hb35
          obtain ⟨ha55, hb56, hx57⟩ := idx_some hx57
          refine WL.val (Value.pointer (some (elA u51 ((k12 : Int)).toNat))) _ (op_idx sl_37 (Ty.lift _ (Ext.trans hE7 hS44.ext) hr53) rfl rfl ha55 hb56) rfl ?_
          obtain ⟨u58, hc59, hr60⟩ := repSl.el hr53 hx57
          refine WL.val u58 _ (op_load one_22 rfl (Ext.cell (Ext.trans hE7 hS44.ext) hc59)) rfl ?_
          refine WL.val (Value.int .i64 (k30 : Int)) _ (op_move hf42) rfl ?_
          obtain ⟨x61, hx64, hb35⟩ := bs hb35
          obtain ⟨ha62, hb63, hx64⟩ := idx_some hx64
          refine WL.val (Value.pointer (some (elA u58 ((k30 : Int)).toNat))) _ (op_idx sl_22 (Ty.lift _ (Ext.trans hE7 hS44.ext) hr60) rfl rfl ha62 hb63) rfl ?_
          obtain ⟨u65, hc66, hr67⟩ := repSl.el hr60 hx64
          obtain ⟨rfl, hr67⟩ := hr67
          refine WL.val (Value.int .i64 x61) _ (op_load one_2 rfl (Ext.cell (Ext.trans hE7 hS44.ext) hc66)) rfl ?_
          refine WL.val (Value.bool (x61 != (0 : Int))) _ (op_neq rfl rfl) rfl ?_
          refine WL.val (Value.bool (x61 != (0 : Int))) _ (op_move rfl) rfl ?_
          obtain ⟨x69, hj70, hb35⟩ := bs hb35
          refine WL.cut 12 (fun fq wq => fq 1 = (Value.pointer (some ⟨b1, 0, none⟩)) ∧ fq 3 = (Value.int .i64 ((c_Values).length : Int)) ∧ fq 4 = (Value.int .i64 (k12 : Int)) ∧ fq 5 = (Value.int .i64 (k30 : Int)) ∧ fq 42 = Value.bool x69 ∧ St wd2 wq []) ?_ ?_
          · rcases Bool.eq_false_or_eq_true (x61 != (0 : Int)) with hc68 | hc68
            · replace hj70 := ip hj70 hc68
              refine WL.gskip rfl (bool_of rfl hc68) rfl ?_
              refine WL.gskip rfl (bool_of rfl hc68) rfl ?_
              refine WL.gskip rfl (bool_of rfl hc68) rfl ?_
              refine WL.gskip rfl (bool_of rfl hc68) rfl ?_
              refine WL.gskip rfl (bool_of rfl hc68) rfl ?_
              refine WL.gskip rfl (bool_of rfl hc68) rfl ?_
              refine WL.gskip rfl (bool_of rfl hc68) rfl ?_
              refine WL.gskip rfl (bool_of rfl hc68) rfl ?_
              refine WL.gskip rfl (bool_of rfl hc68) rfl ?_
              refine WL.gskip rfl (bool_of rfl hc68) rfl ?_
              refine WL.gskip rfl (bool_of rfl hc68) rfl ?_
              refine WL.val (Value.bool true) _ (op_pick_t (evb_of rfl hc68) rfl) rfl ?_
              refine WL.nil ?_
              obtain rfl := Option.some.inj hj70
              exact ⟨rfl, hf39, hf40, hf41, hf42, rfl, hS44⟩
            · replace hj70 := inegb hj70 hc68
              refine WL.grun rfl (bool_of rfl hc68) ?_
              refine WL.val (Value.pointer (some ⟨b1, 2, none⟩)) _ (op_fieldAddr fd_29_2 hf39) rfl ?_
              refine WL.grun rfl (bool_of rfl hc68) ?_
              refine WL.val v_c_Values _ (op_load one_23 rfl (BoxAt.cell (BoxAt.lift hS44.ext hx6) rfl)) rfl ?_
              refine WL.grun rfl (bool_of rfl hc68) ?_
              refine WL.val (Value.int .i64 (k12 : Int)) _ (op_move hf41) rfl ?_
              refine WL.grun rfl (bool_of rfl hc68) ?_
              obtain ⟨x74, hx77, hj70⟩ := bs hj70
              obtain ⟨ha75, hb76, hx77⟩ := idx_some hx77
              refine WL.val (Value.pointer (some (elA v_c_Values ((k12 : Int)).toNat))) _ (op_idx sl_23 (Ty.lift _ (Ext.trans hE7 hS44.ext) r_c_Values) rfl rfl ha75 hb76) rfl ?_
              refine WL.grun rfl (bool_of rfl hc68) ?_
              obtain ⟨u78, hc79, hr80⟩ := repSl.el r_c_Values hx77
              refine WL.val u78 _ (op_load one_37 rfl (Ext.cell (Ext.trans hE7 hS44.ext) hc79)) rfl ?_
              refine WL.grun rfl (bool_of rfl hc68) ?_
              obtain ⟨x81, hx84, hj70⟩ := bs hj70
              obtain ⟨ha82, hb83, hx84⟩ := idx_some hx84
              refine WL.val (Value.pointer (some (elA u78 ((0 : Int)).toNat))) _ (op_idx sl_37 (Ty.lift _ (Ext.trans hE7 hS44.ext) hr80) rfl rfl ha82 hb83) rfl ?_
              refine WL.grun rfl (bool_of rfl hc68) ?_
              obtain ⟨u85, hc86, hr87⟩ := repSl.el hr80 hx84
              refine WL.val u85 _ (op_load one_22 rfl (Ext.cell (Ext.trans hE7 hS44.ext) hc86)) rfl ?_
              refine WL.grun rfl (bool_of rfl hc68) ?_
              refine WL.val (Value.int .i64 (k30 : Int)) _ (op_move hf42) rfl ?_
              refine WL.grun rfl (bool_of rfl hc68) ?_
              obtain ⟨x88, hx91, hj70⟩ := bs hj70
              obtain ⟨ha89, hb90, hx91⟩ := idx_some hx91
              refine WL.val (Value.pointer (some (elA u85 ((k30 : Int)).toNat))) _ (op_idx sl_22 (Ty.lift _ (Ext.trans hE7 hS44.ext) hr87) rfl rfl ha89 hb90) rfl ?_
              refine WL.grun rfl (bool_of rfl hc68) ?_
              obtain ⟨u92, hc93, hr94⟩ := repSl.el hr87 hx91
              obtain ⟨rfl, hr94⟩ := hr94
              refine WL.val (Value.int .i64 x88) _ (op_load one_2 rfl (Ext.cell (Ext.trans hE7 hS44.ext) hc93)) rfl ?_
              refine WL.grun rfl (bool_of rfl hc68) ?_
              refine WL.val (Value.bool (x88 != (0 : Int))) _ (op_neq rfl rfl) rfl ?_
              refine WL.val (Value.bool (x88 != (0 : Int))) _ (op_pick_f (evb_of rfl hc68) rfl) rfl ?_
              refine WL.nil ?_
              obtain rfl := Option.some.inj hj70
              exact ⟨rfl, hf39, hf40, hf41, hf42, rfl, hS44⟩
          · intro f71 wd72 hq73
            obtain ⟨hf95, hf96, hf97, hf98, hf99, hS100⟩ := hq73
            refine WL.val (Value.bool x69) _ (op_move hf99) rfl ?_
            obtain ⟨x102, hj103, hb35⟩ := bs hb35
            refine WL.cut 12 (fun fq wq => fq 1 = (Value.pointer (some ⟨b1, 0, none⟩)) ∧ fq 3 = (Value.int .i64 ((c_Values).length : Int)) ∧ fq 4 = (Value.int .i64 (k12 : Int)) ∧ fq 5 = (Value.int .i64 (k30 : Int)) ∧ fq 55 = Value.bool x102 ∧ St wd2 wq []) ?_ ?_
            · rcases Bool.eq_false_or_eq_true x69 with hc101 | hc101
              · replace hj103 := ip hj103 hc101
                refine WL.gskip rfl (bool_of rfl hc101) rfl ?_
                refine WL.gskip rfl (bool_of rfl hc101) rfl ?_
                refine WL.gskip rfl (bool_of rfl hc101) rfl ?_
                refine WL.gskip rfl (bool_of rfl hc101) rfl ?_
                refine WL.gskip rfl (bool_of rfl hc101) rfl ?_
                refine WL.gskip rfl (bool_of rfl hc101) rfl ?_
                refine WL.gskip rfl (bool_of rfl hc101) rfl ?_
                refine WL.gskip rfl (bool_of rfl hc101) rfl ?_
                refine WL.gskip rfl (bool_of rfl hc101) rfl ?_
                refine WL.gskip rfl (bool_of rfl hc101) rfl ?_
                refine WL.gskip rfl (bool_of rfl hc101) rfl ?_
                refine WL.val (Value.bool true) _ (op_pick_t (evb_of rfl hc101) rfl) rfl ?_
                refine WL.nil ?_
                obtain rfl := Option.some.inj hj103
                exact ⟨rfl, hf95, hf96, hf97, hf98, rfl, hS100⟩
              · replace hj103 := inegb hj103 hc101
                refine WL.grun rfl (bool_of rfl hc101) ?_
                refine WL.val (Value.pointer (some ⟨b1, 2, none⟩)) _ (op_fieldAddr fd_29_2 hf95) rfl ?_
                refine WL.grun rfl (bool_of rfl hc101) ?_
                refine WL.val v_c_Values _ (op_load one_23 rfl (BoxAt.cell (BoxAt.lift hS100.ext hx6) rfl)) rfl ?_
                refine WL.grun rfl (bool_of rfl hc101) ?_
                refine WL.val (Value.int .i64 (k12 : Int)) _ (op_move hf97) rfl ?_
                refine WL.grun rfl (bool_of rfl hc101) ?_
                obtain ⟨x107, hx110, hj103⟩ := bs hj103
                obtain ⟨ha108, hb109, hx110⟩ := idx_some hx110
                refine WL.val (Value.pointer (some (elA v_c_Values ((k12 : Int)).toNat))) _ (op_idx sl_23 (Ty.lift _ (Ext.trans hE7 hS100.ext) r_c_Values) rfl rfl ha108 hb109) rfl ?_
                refine WL.grun rfl (bool_of rfl hc101) ?_
                obtain ⟨u111, hc112, hr113⟩ := repSl.el r_c_Values hx110
                refine WL.val u111 _ (op_load one_37 rfl (Ext.cell (Ext.trans hE7 hS100.ext) hc112)) rfl ?_
                refine WL.grun rfl (bool_of rfl hc101) ?_
                refine WL.val (Value.int .i64 (k30 : Int)) _ (op_move hf98) rfl ?_
                refine WL.grun rfl (bool_of rfl hc101) ?_
                obtain ⟨x114, hx117, hj103⟩ := bs hj103
                obtain ⟨ha115, hb116, hx117⟩ := idx_some hx117
                refine WL.val (Value.pointer (some (elA u111 ((k30 : Int)).toNat))) _ (op_idx sl_37 (Ty.lift _ (Ext.trans hE7 hS100.ext) hr113) rfl rfl ha115 hb116) rfl ?_
                refine WL.grun rfl (bool_of rfl hc101) ?_
                obtain ⟨u118, hc119, hr120⟩ := repSl.el hr113 hx117
                refine WL.val u118 _ (op_load one_22 rfl (Ext.cell (Ext.trans hE7 hS100.ext) hc119)) rfl ?_
                refine WL.grun rfl (bool_of rfl hc101) ?_
                obtain ⟨x121, hx124, hj103⟩ := bs hj103
                obtain ⟨ha122, hb123, hx124⟩ := idx_some hx124
                refine WL.val (Value.pointer (some (elA u118 ((0 : Int)).toNat))) _ (op_idx sl_22 (Ty.lift _ (Ext.trans hE7 hS100.ext) hr120) rfl rfl ha122 hb123) rfl ?_
                refine WL.grun rfl (bool_of rfl hc101) ?_
                obtain ⟨u125, hc126, hr127⟩ := repSl.el hr120 hx124
                obtain ⟨rfl, hr127⟩ := hr127
                refine WL.val (Value.int .i64 x121) _ (op_load one_2 rfl (Ext.cell (Ext.trans hE7 hS100.ext) hc126)) rfl ?_
                refine WL.grun rfl (bool_of rfl hc101) ?_
                refine WL.val (Value.bool (x121 != (0 : Int))) _ (op_neq rfl rfl) rfl ?_
                refine WL.val (Value.bool (x121 != (0 : Int))) _ (op_pick_f (evb_of rfl hc101) rfl) rfl ?_
                refine WL.nil ?_
                obtain rfl := Option.some.inj hj103
                exact ⟨rfl, hf95, hf96, hf97, hf98, rfl, hS100⟩
            · intro f104 wd105 hq106
              obtain ⟨hf128, hf129, hf130, hf131, hf132, hS133⟩ := hq106
              refine WL.nil ?_
              refine W.cond x102 hf132 (fun hc134 => ?_) (fun hc134 => ?_)
              · replace hb35 := ip hb35 hc134
                refine W.seq (W.region ?_)
                refine WL.val (Value.bool false) _ (op_assign rfl) rfl ?_
                refine WL.nil ?_
                refine W.ret ?_
                obtain rfl := Option.some.inj hb35
                obtain rfl := hret38 _ rfl
                replace hb17 := onRes_ret hb17
                obtain rfl := Option.some.inj hb17
                obtain rfl := hret20 _ rfl
                replace h := onRes_ret h
                obtain rfl := Option.some.inj h
                show FinP _ _ _ _ _ _ _
                exact FinP.ret _ (res1 rfl rfl) ⟨rfl, (Ext.trans hE7 hS133.ext)⟩
              · replace hb35 := inegb hb35 hc134
                refine W.skip ?_
                show W _ _ _ _ _ _
                refine W.region ?_
                refine WL.val (Value.int .i64 (k30 : Int)) _ (op_move hf131) rfl ?_
                refine WL.val (Value.int .i64 (w64 ((k30 : Int) + (1 : Int)))) _ (op_add rfl rfl) rfl ?_
                refine WL.val (Value.int .i64 (w64 ((k30 : Int) + (1 : Int)))) _ (op_assign rfl) rfl ?_
                refine WL.nil ?_
                obtain rfl := Option.some.inj hb35
                show ∃ s, _ = Ctl.next s ∧ _
                exact ⟨_, rfl, hf128, hf129, hf130, (ctr_next hl45 hr9), (ctr_rng hl45 hr9), hS133⟩
        · intro s141 f137 wd138 hs139 hI140
          obtain ⟨⟩ := s141
          replace hI140 : f137 1 = (Value.pointer (some ⟨b1, 0, none⟩)) ∧ f137 3 = (Value.int .i64 ((c_Values).length : Int)) ∧ f137 4 = (Value.int .i64 (k12 : Int)) ∧ f137 5 = Value.int .i64 (((c_Values).length : Nat) : Int) ∧ InR .i64 (((c_Values).length : Nat) : Int) ∧ St wd2 wd138 [] := hI140
          obtain ⟨hf142, hf143, hf144, hf145, hr146, hS147⟩ := hI140
          refine W.seq (W.seq (W.region ?_))
          refine WL.val (Value.int .i64 (((c_Values).length : Nat) : Int)) _ (op_move hf145) rfl ?_
          refine WL.val (Value.int .i64 ((c_Values).length : Int)) _ (op_move hf143) rfl ?_
          refine WL.val (Value.bool (decide ((((c_Values).length : Nat) : Int) < ((c_Values).length : Int)))) _ (op_lss rfl rfl) rfl ?_
          have hl148 : ¬ (((c_Values).length : Nat) : Int) < ((c_Values).length : Int) := by omega
          refine WL.nil ?_
          refine W.condF (decide ((((c_Values).length : Nat) : Int) < ((c_Values).length : Int))) rfl (decide_eq_false hl148) ?_
          refine W.exit ?_
          show _ = _ ∧ _
          exact ⟨rfl, _, hs139, hf142, hf143, hf144, hS147⟩
      · rintro f149 wd150 ⟨s152, rfl, hq151⟩
        replace hb17 := onRes_fin hb17
        obtain ⟨⟩ := s152
        replace hq151 : f149 1 = (Value.pointer (some ⟨b1, 0, none⟩)) ∧ f149 3 = (Value.int .i64 ((c_Values).length : Int)) ∧ f149 4 = (Value.int .i64 (k12 : Int)) ∧ St wd2 wd150 [] := hq151
        obtain ⟨hf153, hf154, hf155, hS156⟩ := hq151
        show W _ _ _ _ _ _
        refine W.region ?_
        refine WL.val (Value.int .i64 (k12 : Int)) _ (op_move hf155) rfl ?_
        refine WL.val (Value.int .i64 (w64 ((k12 : Int) + (1 : Int)))) _ (op_add rfl rfl) rfl ?_
        refine WL.val (Value.int .i64 (w64 ((k12 : Int) + (1 : Int)))) _ (op_assign rfl) rfl ?_
        refine WL.nil ?_
        obtain rfl := Option.some.inj hb17
        show ∃ s, _ = Ctl.next s ∧ _
        exact ⟨_, rfl, hf153, hf154, (ctr_next hl26 hr9), (ctr_rng hl26 hr9), hS156⟩
    · intro s163 f159 wd160 hs161 hI162
      obtain ⟨⟩ := s163
      replace hI162 : f159 1 = (Value.pointer (some ⟨b1, 0, none⟩)) ∧ f159 3 = (Value.int .i64 ((c_Values).length : Int)) ∧ f159 4 = Value.int .i64 (((c_Values).length : Nat) : Int) ∧ InR .i64 (((c_Values).length : Nat) : Int) ∧ St wd2 wd160 [] := hI162
      obtain ⟨hf164, hf165, hf166, hr167, hS168⟩ := hI162
      refine W.seq (W.seq (W.region ?_))
      refine WL.val (Value.int .i64 (((c_Values).length : Nat) : Int)) _ (op_move hf166) rfl ?_
      refine WL.val (Value.int .i64 ((c_Values).length : Int)) _ (op_move hf165) rfl ?_
      refine WL.val (Value.bool (decide ((((c_Values).length : Nat) : Int) < ((c_Values).length : Int)))) _ (op_lss rfl rfl) rfl ?_
      have hl169 : ¬ (((c_Values).length : Nat) : Int) < ((c_Values).length : Int) := by omega
      refine WL.nil ?_
      refine W.condF (decide ((((c_Values).length : Nat) : Int) < ((c_Values).length : Int))) rfl (decide_eq_false hl169) ?_
      refine W.exit ?_
      show _ = _ ∧ _
      exact ⟨rfl, _, hs161, hS168⟩
  · rintro f170 wd171 ⟨s173, rfl, hq172⟩
    replace h := onRes_fin h
    obtain ⟨⟩ := s173
    replace hq172 : St wd2 wd171 [] := hq172
    have hS174 := hq172
    refine W.seq (W.region ?_)
    refine WL.val (Value.bool true) _ (op_assign rfl) rfl ?_
    refine WL.nil ?_
    refine W.ret ?_
    obtain rfl := Option.some.inj h
    show FinP _ _ _ _ _ _ _
    exact FinP.ret _ (res1 rfl rfl) ⟨rfl, (Ext.trans hE7 hS174.ext)⟩

theorem c_spec_l06Add {w : World} {orders : (List Int)} {v_orders : Value} {x : Int} {y : Int} (r_orders : (Ty.sl (Ty.i .i64)).rep w v_orders orders) (r_x : InR .i64 x) (r_y : InR .i64 y) {res : Int} (h : p_spec_l06Add orders x y  = some res) :
    Ret Try.prog 47 #[v_orders, (Value.int .i64 x), (Value.int .i64 y)] w (fun v w' => v = Value.int .i64 res ∧ InR .i64 res ∧ Ext w w') := by
  unfold p_spec_l06Add at h
  have hS0 : St w w [] := St.start w
  refine Ret.start (fn := Try.f47) Try.func47 rfl 58 rfl rfl ?_
  refine W.seq (W.region ?_)
  refine WL.val (Value.int .i64 (0 : Int)) _ (op_assign rfl) rfl ?_
  refine WL.nil ?_
  refine W.seq (W.region ?_)
  refine WL.val (Value.int .i64 (0 : Int)) _ (op_assign rfl) rfl ?_
  refine WL.val (Value.int .i64 (1 : Int)) _ (op_assign rfl) rfl ?_
  refine WL.nil ?_
  refine W.seq (W.seq (W.region ?_))
  refine WL.val v_orders _ (op_move rfl) rfl ?_
  have hr1 := inR_len (Ty.lift _ hS0.ext r_orders)
  refine WL.val (Value.int .i64 ((orders).length : Int)) _ (op_lenL sl_22 (Ty.lift _ hS0.ext r_orders) rfl) rfl ?_
  refine WL.val (Value.int .i64 (w64 (((orders).length : Int) - (1 : Int)))) _ (op_sub rfl rfl) rfl ?_
  refine WL.val (Value.int .i64 (w64 (((orders).length : Int) - (1 : Int)))) _ (op_assign rfl) rfl ?_
  refine WL.nil ?_
  show W _ _ _ _ _ _
  obtain ⟨res2, hres3, h⟩ := bs h
  refine W.blockLoop (fun fq wq => ∃ s, res2 = Res.fin s ∧ fq 7 = Value.int .i64 s.2.2.1 ∧ InR .i64 s.2.2.1 ∧ St w wq []) ?_ ?_
  · refine W.whileC (fun (s : Int × Int × Int × Int × Int) fq wq => fq 0 = v_orders ∧ fq 1 = Value.int .i64 s.1 ∧ InR .i64 s.1 ∧ fq 2 = Value.int .i64 s.2.1 ∧ InR .i64 s.2.1 ∧ fq 7 = Value.int .i64 s.2.2.1 ∧ InR .i64 s.2.2.1 ∧ fq 8 = Value.int .i64 s.2.2.2.1 ∧ InR .i64 s.2.2.2.1 ∧ fq 9 = Value.int .i64 s.2.2.2.2 ∧ InR .i64 s.2.2.2.2 ∧ St w wq []) hres3 ⟨rfl, rfl, r_x, rfl, r_y, rfl, (inL rfl), rfl, (inL rfl), rfl, (inR_wrap _ _), hS0⟩ ?_
    intro s317 ct10 f11 wd12 hb14 hI15 hbrk16 hret17
    obtain ⟨x5, x6, x7, x8, x9⟩ := s317
    replace hI15 : f11 0 = v_orders ∧ f11 1 = Value.int .i64 x5 ∧ InR .i64 x5 ∧ f11 2 = Value.int .i64 x6 ∧ InR .i64 x6 ∧ f11 7 = Value.int .i64 x7 ∧ InR .i64 x7 ∧ f11 8 = Value.int .i64 x8 ∧ InR .i64 x8 ∧ f11 9 = Value.int .i64 x9 ∧ InR .i64 x9 ∧ St w wd12 [] := hI15
    replace hb14 : p_spec_l06Add_L1 orders  x5 x6 x7 x8 x9 = some ct10 := hb14
    unfold p_spec_l06Add_L1 at hb14
    obtain ⟨hf18, hf19, hr20, hf21, hr22, hf23, hr24, hf25, hr26, hf27, hr28, hS29⟩ := hI15
    refine W.seq (W.seq (W.region ?_))
    refine WL.val (Value.int .i64 x9) _ (op_move hf27) rfl ?_
    refine WL.val (Value.bool (decide (x9 ≥ (0 : Int)))) _ (op_geq rfl rfl) rfl ?_
    refine WL.nil ?_
    refine W.cond (decide (x9 ≥ (0 : Int))) rfl (fun hc30 => ?_) (fun hc30 => ?_)
    · replace hb14 := ip hb14 hc30
      refine W.skip ?_
      refine W.seq ?_
      refine W.block ?_
      refine W.seq ?_
      obtain ⟨x75, hx78, hb14⟩ := bs hb14
      obtain ⟨ha76, hb77, hx78⟩ := idx_some hx78
      obtain ⟨u89, hc90, hr91⟩ := repSl.el r_orders hx78
      obtain ⟨rfl, hr91⟩ := hr91
      obtain ⟨x108, hz109, hb14⟩ := bs hb14
      obtain ⟨h0110, hz109⟩ := remI_some hz109
      obtain ⟨u158, hc159, hr160⟩ := repSl.el r_orders hx78
      obtain ⟨rfl, hr160⟩ := hr160
      obtain ⟨x177, hz178, hb14⟩ := bs hb14
      obtain ⟨h0179, hz178⟩ := remI_some hz178
      obtain ⟨u236, hc237, hr238⟩ := repSl.el r_orders hx78
      obtain ⟨rfl, hr238⟩ := hr238
      obtain ⟨x255, hz256, hb14⟩ := bs hb14
      obtain ⟨h0257, hz256⟩ := remI_some hz256
      refine W.drawR mixo 21 [] [fun _ v _ _ => v = (Value.int .i64 x7) ∧ InR .i64 x7, fun _ v _ _ => v = (Value.int .i64 x5) ∧ InR .i64 x5, fun _ v _ _ => v = v_orders, fun _ v _ _ => v = (Value.int .i64 x9) ∧ InR .i64 x9, fun _ v _ _ => v = (Value.pointer (some (elA v_orders (x9).toNat))), fun _ v _ _ => v = (Value.int .i64 x75) ∧ InR .i64 x75, fun _ v _ _ => v = (Value.int .i64 x108) ∧ InR .i64 x108, fun _ v _ _ => v = (Value.int .i64 x6) ∧ InR .i64 x6, fun _ v _ _ => v = v_orders, fun _ v _ _ => v = (Value.int .i64 x9) ∧ InR .i64 x9, fun _ v _ _ => v = (Value.pointer (some (elA v_orders (x9).toNat))), fun _ v _ _ => v = (Value.int .i64 x75) ∧ InR .i64 x75, fun _ v _ _ => v = (Value.int .i64 x177) ∧ InR .i64 x177, fun _ v _ _ => v = (Value.int .i64 (w64 (x108 + x177))) ∧ InR .i64 (w64 (x108 + x177)), fun _ v _ _ => v = v_orders, fun _ v _ _ => v = (Value.int .i64 x9) ∧ InR .i64 x9, fun _ v _ _ => v = (Value.pointer (some (elA v_orders (x9).toNat))), fun _ v _ _ => v = (Value.int .i64 x75) ∧ InR .i64 x75, fun _ v _ _ => v = (Value.int .i64 x255) ∧ InR .i64 x255, fun _ v _ _ => v = (Value.int .i64 x8) ∧ InR .i64 x8, fun _ v _ _ => v = (Value.int .i64 (w64 (x255 * x8))) ∧ InR .i64 (w64 (x255 * x8))] (by kernel_rfl) (by kernel_rfl) ⟨pk, pk, pk, pk, pk, pk, pk, pk, pk, pk, pk, pk, pk, pk, pk, pk, pk, pk, pk, pk, pk, trivial⟩ ⟨?_, ?_, ?_, ?_, ?_, ?_, ?_, ?_, ?_, ?_, ?_, ?_, ?_, ?_, ?_, ?_, ?_, ?_, ?_, ?_, ?_, trivial⟩ ?_
      · refine ObX.op rfl fun f32 wd33 he34 hout35 hphi36 => ?_
        have e38 : f32 7 = (Value.int .i64 x7) := (hout35 7 rfl).trans hf23
        exact OpX.val (Value.int .i64 x7) wd33 rfl (op_move e38) (Ext.refl _) ⟨rfl, hr24⟩
      · refine ObX.op rfl fun f39 wd40 he41 hout42 hphi43 => ?_
        have e45 : f39 1 = (Value.int .i64 x5) := (hout42 1 rfl).trans hf19
        exact OpX.val (Value.int .i64 x5) wd40 rfl (op_move e45) (Ext.refl _) ⟨rfl, hr20⟩
      · refine ObX.op rfl fun f46 wd47 he48 hout49 hphi50 => ?_
        have e52 : f46 0 = v_orders := (hout49 0 rfl).trans hf18
        exact OpX.val v_orders wd47 rfl (op_move e52) (Ext.refl _) rfl
      · refine ObX.op rfl fun f53 wd54 he55 hout56 hphi57 => ?_
        have e59 : f53 9 = (Value.int .i64 x9) := (hout56 9 rfl).trans hf27
        exact OpX.val (Value.int .i64 x9) wd54 rfl (op_move e59) (Ext.refl _) ⟨rfl, hr28⟩
      · refine ObX.op rfl fun f60 wd61 he62 hout63 hphi64 => ?_
        have hS65 := St.extend hS29 he62
        obtain ⟨S66, hS67, hf68⟩ := hphi64 2 19 _ rfl rfl rfl
        have e69 : f60 19 = v_orders := hf68
        obtain ⟨S70, hS71, hf72⟩ := hphi64 3 20 _ rfl rfl rfl
        obtain ⟨e73, hr74⟩ := hf72
        exact OpX.val (Value.pointer (some (elA v_orders (x9).toNat))) wd61 rfl (op_idx sl_22 (Ty.lift _ hS65.ext r_orders) e69 e73 ha76 hb77) (Ext.refl _) rfl
      · refine ObX.op rfl fun f79 wd80 he81 hout82 hphi83 => ?_
        have hS84 := St.extend hS29 he81
        obtain ⟨S85, hS86, hf87⟩ := hphi83 4 21 _ rfl rfl rfl
        have e88 : f79 21 = (Value.pointer (some (elA v_orders (x9).toNat))) := hf87
        exact OpX.val (Value.int .i64 x75) wd80 rfl (op_load one_2 e88 (Ext.cell hS84.ext hc90)) (Ext.refl _) ⟨rfl, hr91⟩
      · refine ObX.op rfl fun f92 wd93 he94 hout95 hphi96 => ?_
        obtain ⟨S98, hS99, hf100⟩ := hphi96 1 18 _ rfl rfl rfl
        obtain ⟨e101, hr102⟩ := hf100
        obtain ⟨S103, hS104, hf105⟩ := hphi96 5 22 _ rfl rfl rfl
        obtain ⟨e106, hr107⟩ := hf105
        have hr111 : InR .i64 x108 := by rw [hz109]; exact inR_tmod hr102
        exact OpX.val (Value.int .i64 x108) wd93 rfl (by rw [hz109]; exact op_rem e101 e106 h0110) (Ext.refl _) ⟨rfl, hr111⟩
      · refine ObX.op rfl fun f112 wd113 he114 hout115 hphi116 => ?_
        have e118 : f112 2 = (Value.int .i64 x6) := (hout115 2 rfl).trans hf21
        exact OpX.val (Value.int .i64 x6) wd113 rfl (op_move e118) (Ext.refl _) ⟨rfl, hr22⟩
      · refine ObX.op rfl fun f119 wd120 he121 hout122 hphi123 => ?_
        have e125 : f119 0 = v_orders := (hout122 0 rfl).trans hf18
        exact OpX.val v_orders wd120 rfl (op_move e125) (Ext.refl _) rfl
      · refine ObX.op rfl fun f126 wd127 he128 hout129 hphi130 => ?_
        have e132 : f126 9 = (Value.int .i64 x9) := (hout129 9 rfl).trans hf27
        exact OpX.val (Value.int .i64 x9) wd127 rfl (op_move e132) (Ext.refl _) ⟨rfl, hr28⟩
      · refine ObX.op rfl fun f133 wd134 he135 hout136 hphi137 => ?_
        have hS138 := St.extend hS29 he135
        obtain ⟨S139, hS140, hf141⟩ := hphi137 8 25 _ rfl rfl rfl
        have e142 : f133 25 = v_orders := hf141
        obtain ⟨S143, hS144, hf145⟩ := hphi137 9 26 _ rfl rfl rfl
        obtain ⟨e146, hr147⟩ := hf145
        exact OpX.val (Value.pointer (some (elA v_orders (x9).toNat))) wd134 rfl (op_idx sl_22 (Ty.lift _ hS138.ext r_orders) e142 e146 ha76 hb77) (Ext.refl _) rfl
      · refine ObX.op rfl fun f148 wd149 he150 hout151 hphi152 => ?_
        have hS153 := St.extend hS29 he150
        obtain ⟨S154, hS155, hf156⟩ := hphi152 10 27 _ rfl rfl rfl
        have e157 : f148 27 = (Value.pointer (some (elA v_orders (x9).toNat))) := hf156
        exact OpX.val (Value.int .i64 x75) wd149 rfl (op_load one_2 e157 (Ext.cell hS153.ext hc159)) (Ext.refl _) ⟨rfl, hr160⟩
      · refine ObX.op rfl fun f161 wd162 he163 hout164 hphi165 => ?_
        obtain ⟨S167, hS168, hf169⟩ := hphi165 7 24 _ rfl rfl rfl
        obtain ⟨e170, hr171⟩ := hf169
        obtain ⟨S172, hS173, hf174⟩ := hphi165 11 28 _ rfl rfl rfl
        obtain ⟨e175, hr176⟩ := hf174
        have hr180 : InR .i64 x177 := by rw [hz178]; exact inR_tmod hr171
        exact OpX.val (Value.int .i64 x177) wd162 rfl (by rw [hz178]; exact op_rem e170 e175 h0179) (Ext.refl _) ⟨rfl, hr180⟩
      · refine ObX.op rfl fun f181 wd182 he183 hout184 hphi185 => ?_
        obtain ⟨S187, hS188, hf189⟩ := hphi185 6 23 _ rfl rfl rfl
        obtain ⟨e190, hr191⟩ := hf189
        obtain ⟨S192, hS193, hf194⟩ := hphi185 12 29 _ rfl rfl rfl
        obtain ⟨e195, hr196⟩ := hf194
        exact OpX.val (Value.int .i64 (w64 (x108 + x177))) wd182 rfl (op_add e190 e195) (Ext.refl _) ⟨rfl, (inR_wrap _ _)⟩
      · refine ObX.op rfl fun f197 wd198 he199 hout200 hphi201 => ?_
        have e203 : f197 0 = v_orders := (hout200 0 rfl).trans hf18
        exact OpX.val v_orders wd198 rfl (op_move e203) (Ext.refl _) rfl
      · refine ObX.op rfl fun f204 wd205 he206 hout207 hphi208 => ?_
        have e210 : f204 9 = (Value.int .i64 x9) := (hout207 9 rfl).trans hf27
        exact OpX.val (Value.int .i64 x9) wd205 rfl (op_move e210) (Ext.refl _) ⟨rfl, hr28⟩
      · refine ObX.op rfl fun f211 wd212 he213 hout214 hphi215 => ?_
        have hS216 := St.extend hS29 he213
        obtain ⟨S217, hS218, hf219⟩ := hphi215 14 31 _ rfl rfl rfl
        have e220 : f211 31 = v_orders := hf219
        obtain ⟨S221, hS222, hf223⟩ := hphi215 15 32 _ rfl rfl rfl
        obtain ⟨e224, hr225⟩ := hf223
        exact OpX.val (Value.pointer (some (elA v_orders (x9).toNat))) wd212 rfl (op_idx sl_22 (Ty.lift _ hS216.ext r_orders) e220 e224 ha76 hb77) (Ext.refl _) rfl
      · refine ObX.op rfl fun f226 wd227 he228 hout229 hphi230 => ?_
        have hS231 := St.extend hS29 he228
        obtain ⟨S232, hS233, hf234⟩ := hphi230 16 33 _ rfl rfl rfl
        have e235 : f226 33 = (Value.pointer (some (elA v_orders (x9).toNat))) := hf234
        exact OpX.val (Value.int .i64 x75) wd227 rfl (op_load one_2 e235 (Ext.cell hS231.ext hc237)) (Ext.refl _) ⟨rfl, hr238⟩
      · refine ObX.op rfl fun f239 wd240 he241 hout242 hphi243 => ?_
        obtain ⟨S245, hS246, hf247⟩ := hphi243 13 30 _ rfl rfl rfl
        obtain ⟨e248, hr249⟩ := hf247
        obtain ⟨S250, hS251, hf252⟩ := hphi243 17 34 _ rfl rfl rfl
        obtain ⟨e253, hr254⟩ := hf252
        have hr258 : InR .i64 x255 := by rw [hz256]; exact inR_tmod hr249
        exact OpX.val (Value.int .i64 x255) wd240 rfl (by rw [hz256]; exact op_rem e248 e253 h0257) (Ext.refl _) ⟨rfl, hr258⟩
      · refine ObX.op rfl fun f259 wd260 he261 hout262 hphi263 => ?_
        have e265 : f259 8 = (Value.int .i64 x8) := (hout262 8 rfl).trans hf25
        exact OpX.val (Value.int .i64 x8) wd260 rfl (op_move e265) (Ext.refl _) ⟨rfl, hr26⟩
      · refine ObX.op rfl fun f266 wd267 he268 hout269 hphi270 => ?_
        obtain ⟨S272, hS273, hf274⟩ := hphi270 18 35 _ rfl rfl rfl
        obtain ⟨e275, hr276⟩ := hf274
        obtain ⟨S277, hS278, hf279⟩ := hphi270 19 36 _ rfl rfl rfl
        obtain ⟨e280, hr281⟩ := hf279
        exact OpX.val (Value.int .i64 (w64 (x255 * x8))) wd267 rfl (op_mul e275 e280) (Ext.refl _) ⟨rfl, (inR_wrap _ _)⟩
      · intro f282 wd283 Ss284 he285 hout286 hSn287 hSd288 hphi289
        show WL _ _ _ _ _ _ _
        have hS290 := St.extend hS29 he285
        obtain ⟨e291, hr292⟩ := hphi289 0 17 _ (by decide) rfl rfl
        obtain ⟨e293, hr294⟩ := hphi289 20 37 _ (by decide) rfl rfl
        have e295 : f282 0 = v_orders := (hout286 0 rfl).trans hf18
        have e296 : f282 1 = (Value.int .i64 x5) := (hout286 1 rfl).trans hf19
        have e297 : f282 2 = (Value.int .i64 x6) := (hout286 2 rfl).trans hf21
        have e298 : f282 8 = (Value.int .i64 x8) := (hout286 8 rfl).trans hf25
        have e299 : f282 9 = (Value.int .i64 x9) := (hout286 9 rfl).trans hf27
        refine WL.val (Value.int .i64 (w64 (x7 + (w64 (x255 * x8))))) _ (op_add e291 e293) rfl ?_
        refine WL.val (Value.int .i64 (w64 (x7 + (w64 (x255 * x8))))) _ (op_assign rfl) rfl ?_
        refine WL.nil ?_
        refine W.seq (W.region ?_)
        refine WL.val (Value.int .i64 x8) _ (op_move e298) rfl ?_
        refine WL.val v_orders _ (op_move e295) rfl ?_
        refine WL.val (Value.int .i64 x9) _ (op_move e299) rfl ?_
        refine WL.val (Value.pointer (some (elA v_orders (x9).toNat))) _ (op_idx sl_22 (Ty.lift _ hS290.ext r_orders) rfl rfl ha76 hb77) rfl ?_
        obtain ⟨u300, hc301, hr302⟩ := repSl.el r_orders hx78
        obtain ⟨rfl, hr302⟩ := hr302
        refine WL.val (Value.int .i64 x75) _ (op_load one_2 rfl (Ext.cell hS290.ext hc301)) rfl ?_
        refine WL.val (Value.int .i64 (w64 (x8 * x75))) _ (op_mul rfl rfl) rfl ?_
        refine WL.val (Value.int .i64 (w64 (x8 * x75))) _ (op_assign rfl) rfl ?_
        refine WL.nil ?_
        refine W.seq (W.region ?_)
        refine WL.val (Value.int .i64 x5) _ (op_move e296) rfl ?_
        refine WL.val v_orders _ (op_move e295) rfl ?_
        refine WL.val (Value.int .i64 x9) _ (op_move e299) rfl ?_
        refine WL.val (Value.pointer (some (elA v_orders (x9).toNat))) _ (op_idx sl_22 (Ty.lift _ hS290.ext r_orders) rfl rfl ha76 hb77) rfl ?_
        obtain ⟨u303, hc304, hr305⟩ := repSl.el r_orders hx78
        obtain ⟨rfl, hr305⟩ := hr305
        refine WL.val (Value.int .i64 x75) _ (op_load one_2 rfl (Ext.cell hS290.ext hc304)) rfl ?_
        obtain ⟨x306, hz307, hb14⟩ := bs hb14
        obtain ⟨h0308, hz307⟩ := quoI_some hz307
        have hr309 : InR .i64 x306 := by rw [hz307]; exact inR_wrap _ _
        refine WL.val (Value.int .i64 x306) _ (by rw [hz307]; exact op_quo rfl rfl h0308) rfl ?_
        refine WL.val (Value.int .i64 x306) _ (op_assign rfl) rfl ?_
        refine WL.nil ?_
        show W _ _ _ _ _ _
        refine W.region ?_
        refine WL.val (Value.int .i64 x6) _ (op_move e297) rfl ?_
        refine WL.val v_orders _ (op_move e295) rfl ?_
        refine WL.val (Value.int .i64 x9) _ (op_move e299) rfl ?_
        refine WL.val (Value.pointer (some (elA v_orders (x9).toNat))) _ (op_idx sl_22 (Ty.lift _ hS290.ext r_orders) rfl rfl ha76 hb77) rfl ?_
        obtain ⟨u310, hc311, hr312⟩ := repSl.el r_orders hx78
        obtain ⟨rfl, hr312⟩ := hr312
        refine WL.val (Value.int .i64 x75) _ (op_load one_2 rfl (Ext.cell hS290.ext hc311)) rfl ?_
        obtain ⟨x313, hz314, hb14⟩ := bs hb14
        obtain ⟨h0315, hz314⟩ := quoI_some hz314
        have hr316 : InR .i64 x313 := by rw [hz314]; exact inR_wrap _ _
        refine WL.val (Value.int .i64 x313) _ (by rw [hz314]; exact op_quo rfl rfl h0315) rfl ?_
        refine WL.val (Value.int .i64 x313) _ (op_assign rfl) rfl ?_
        refine WL.nil ?_
        show W _ _ _ _ _ _
        refine W.region ?_
        refine WL.val (Value.int .i64 x9) _ (op_move e299) rfl ?_
        refine WL.val (Value.int .i64 (w64 (x9 - (1 : Int)))) _ (op_sub rfl rfl) rfl ?_
        refine WL.val (Value.int .i64 (w64 (x9 - (1 : Int)))) _ (op_assign rfl) rfl ?_
        refine WL.nil ?_
        obtain rfl := Option.some.inj hb14
        show ∃ s, _ = Ctl.next s ∧ _
        exact ⟨_, rfl, e295, rfl, hr309, rfl, hr316, rfl, (inR_wrap _ _), rfl, (inR_wrap _ _), rfl, (inR_wrap _ _), hS290⟩
    · replace hb14 := inegb hb14 hc30
      refine W.exit ?_
      obtain rfl := Option.some.inj hb14
      show _ = _ ∧ _
      exact ⟨rfl, _, hbrk16 _ rfl, hf23, hr24, hS29⟩
  · rintro f318 wd319 ⟨s321, rfl, hq320⟩
    replace h := onRes_fin h
    obtain ⟨x322, x323, x324, x325, x326⟩ := s321
    replace hq320 : f318 7 = Value.int .i64 x324 ∧ InR .i64 x324 ∧ St w wd319 [] := hq320
    replace h : (_ : Option _) = _ := h
    dsimp only at h
    obtain ⟨hf327, hr328, hS329⟩ := hq320
    refine W.seq (W.region ?_)
    refine WL.val (Value.int .i64 x324) _ (op_move hf327) rfl ?_
    refine WL.val (Value.int .i64 x324) _ (op_assign rfl) rfl ?_
    refine WL.nil ?_
    refine W.ret ?_
    obtain rfl := Option.some.inj h
    show FinP _ _ _ _ _ _ _
    exact FinP.ret _ (res1 rfl rfl) ⟨rfl, hr328, hS329.ext⟩

theorem c_spec_l17Fault {w : World} {c_Orders : (List Int)} {v_c_Orders : Value} {c_Modulus : Int} {c_Values : (List (List (List Int)))} {v_c_Values : Value} (r_c_Orders : (Ty.sl (Ty.i .i64)).rep w v_c_Orders c_Orders) (r_c_Modulus : InR .i64 c_Modulus) (r_c_Values : (Ty.sl (Ty.sl (Ty.sl (Ty.i .i64)))).rep w v_c_Values c_Values) {res : (List Int)} (h : p_spec_l17Fault c_Orders c_Modulus c_Values  = some res) :
    Ret Try.prog 28 #[(Value.agg #[v_c_Orders, (Value.int .i64 c_Modulus), v_c_Values])] w (fun v w' => ∃ (u0 : Value), v = u0 ∧ Ext w w' ∧ Sep w.heap.size w' [(Ty.sl (Ty.i .i64)).at u0 res]) := by
  unfold p_spec_l17Fault at h
  have hS0 : St w w [] := St.start w
  refine Ret.start (fn := Try.f28) Try.func28 rfl 115 rfl rfl ?_
  refine W.seq (W.region ?_)
  refine WL.box hS0 rfl (cs := [v_c_Orders, (Value.int .i64 c_Modulus), v_c_Values]) rfl rfl ?_
  intro b1 wd2 hS3 he4 hx5
  replace hS3 : St w wd2 [bx b1 [v_c_Orders, (Value.int .i64 c_Modulus), v_c_Values]] := hS3
  have hx6 := St.boxAt hS3 0 rfl
  have hE7 : Ext w wd2 := hS3.ext
  have hS8 : St wd2 wd2 [] := St.start wd2
  refine WL.val (Value.slice none 0 0) _ (op_assign rfl) rfl ?_
  refine WL.nil ?_
  refine W.seq ?_
  refine W.drawR mixo 6 [] [fun _ v _ _ => v = (Value.pointer (some ⟨b1, 2, none⟩)), fun _ v _ _ => v = v_c_Values, fun _ v _ _ => v = (Value.int .i64 ((c_Values).length : Int)) ∧ InR .i64 ((c_Values).length : Int), fun _ v _ _ => v = (Value.pointer (some ⟨b1, 2, none⟩)), fun _ v _ _ => v = v_c_Values, fun _ v _ _ => v = (Value.int .i64 ((c_Values).length : Int)) ∧ InR .i64 ((c_Values).length : Int)] (by kernel_rfl) (by kernel_rfl) ⟨pk, pk, pk, pk, pk, pk, trivial⟩ ⟨?_, ?_, ?_, ?_, ?_, ?_, trivial⟩ ?_
  · refine ObX.op rfl fun f9 wd10 he11 hout12 hphi13 => ?_
    have e15 : f9 1 = (Value.pointer (some ⟨b1, 0, none⟩)) := (hout12 1 rfl).trans rfl
    exact OpX.val (Value.pointer (some ⟨b1, 2, none⟩)) wd10 rfl (op_fieldAddr fd_29_2 e15) (Ext.refl _) rfl
  · refine ObX.op rfl fun f16 wd17 he18 hout19 hphi20 => ?_
    have hS21 := St.extend hS8 he18
    obtain ⟨S22, hS23, hf24⟩ := hphi20 0 12 _ rfl rfl rfl
    have e25 : f16 12 = (Value.pointer (some ⟨b1, 2, none⟩)) := hf24
    exact OpX.val v_c_Values wd17 rfl (op_load one_23 e25 (BoxAt.cell (BoxAt.lift hS21.ext hx6) rfl)) (Ext.refl _) rfl
  · refine ObX.op rfl fun f26 wd27 he28 hout29 hphi30 => ?_
    have hS31 := St.extend hS8 he28
    obtain ⟨S32, hS33, hf34⟩ := hphi30 1 13 _ rfl rfl rfl
    have e35 : f26 13 = v_c_Values := hf34
    have hr36 := inR_len (Ty.lift _ (Ext.trans hE7 hS31.ext) r_c_Values)
    exact OpX.val (Value.int .i64 ((c_Values).length : Int)) wd27 rfl (op_lenL sl_23 (Ty.lift _ (Ext.trans hE7 hS31.ext) r_c_Values) e35) (Ext.refl _) ⟨rfl, hr36⟩
  · refine ObX.op rfl fun f37 wd38 he39 hout40 hphi41 => ?_
    have e43 : f37 1 = (Value.pointer (some ⟨b1, 0, none⟩)) := (hout40 1 rfl).trans rfl
    exact OpX.val (Value.pointer (some ⟨b1, 2, none⟩)) wd38 rfl (op_fieldAddr fd_29_2 e43) (Ext.refl _) rfl
  · refine ObX.op rfl fun f44 wd45 he46 hout47 hphi48 => ?_
    have hS49 := St.extend hS8 he46
    obtain ⟨S50, hS51, hf52⟩ := hphi48 3 15 _ rfl rfl rfl
    have e53 : f44 15 = (Value.pointer (some ⟨b1, 2, none⟩)) := hf52
    exact OpX.val v_c_Values wd45 rfl (op_load one_23 e53 (BoxAt.cell (BoxAt.lift hS49.ext hx6) rfl)) (Ext.refl _) rfl
  · refine ObX.op rfl fun f54 wd55 he56 hout57 hphi58 => ?_
    obtain ⟨S60, hS61, hf62⟩ := hphi58 2 14 _ rfl rfl rfl
    obtain ⟨e63, hr64⟩ := hf62
    exact OpX.val (Value.int .i64 ((c_Values).length : Int)) wd55 rfl (op_assign e63) (Ext.refl _) ⟨rfl, hr64⟩
  · intro f65 wd66 Ss67 he68 hout69 hSn70 hSd71 hphi72
    show WL _ _ _ _ _ _ _
    have hS73 := St.extend hS8 he68
    have e74 : f65 16 = v_c_Values := hphi72 4 16 _ (by decide) rfl rfl
    obtain ⟨e75, hr76⟩ := hphi72 5 3 _ (by decide) rfl rfl
    have e77 : f65 1 = (Value.pointer (some ⟨b1, 0, none⟩)) := (hout69 1 rfl).trans rfl
    refine WL.val v_c_Values _ (op_assign e74) rfl ?_
    refine WL.nil ?_
    refine W.seq (W.seq (W.region ?_))
    refine WL.val (Value.int .i64 (0 : Int)) _ (op_assign rfl) rfl ?_
    refine WL.nil ?_
    show W _ _ _ _ _ _
    obtain ⟨res78, hres79, h⟩ := bs h
    refine W.blockLoop (fun fq wq => ∃ s, res78 = Res.fin s ∧ St wd2 wq []) ?_ ?_
    · refine W.forN (fun k (s : Unit) fq wq => fq 1 = (Value.pointer (some ⟨b1, 0, none⟩)) ∧ fq 3 = (Value.int .i64 ((c_Values).length : Int)) ∧ fq 4 = v_c_Values ∧ fq 5 = Value.int .i64 (k : Int) ∧ InR .i64 (k : Int) ∧ St wd2 wq []) hres79 ⟨e77, e75, rfl, rfl, (inL rfl), hS73⟩ ?_ ?_
      · intro k80 s1134 ct81 f82 wd83 hk84 hb85 hI86 hbrk87 hret88
        obtain ⟨⟩ := s1134
        replace hI86 : f82 1 = (Value.pointer (some ⟨b1, 0, none⟩)) ∧ f82 3 = (Value.int .i64 ((c_Values).length : Int)) ∧ f82 4 = v_c_Values ∧ f82 5 = Value.int .i64 (k80 : Int) ∧ InR .i64 (k80 : Int) ∧ St wd2 wd83 [] := hI86
        replace hb85 : p_spec_l17Fault_L1 c_Orders c_Values c_Modulus k80  = some ct81 := hb85
        unfold p_spec_l17Fault_L1 at hb85
        obtain ⟨hf89, hf90, hf91, hf92, hr93, hS94⟩ := hI86
        refine W.seq (W.seq (W.region ?_))
        refine WL.val (Value.int .i64 (k80 : Int)) _ (op_move hf92) rfl ?_
        refine WL.val (Value.int .i64 ((c_Values).length : Int)) _ (op_move hf90) rfl ?_
        refine WL.val (Value.bool (decide ((k80 : Int) < ((c_Values).length : Int)))) _ (op_lss rfl rfl) rfl ?_
        have hl95 : (k80 : Int) < ((c_Values).length : Int) := by omega
        refine WL.nil ?_
        refine W.condT (decide ((k80 : Int) < ((c_Values).length : Int))) rfl (decide_eq_true hl95) ?_
        refine W.skip ?_
        refine W.seq ?_
        refine W.block ?_
        refine W.seq (W.region ?_)
        refine WL.val (Value.int .i64 (0 : Int)) _ (op_assign rfl) rfl ?_
        refine WL.nil ?_
        show W _ _ _ _ _ _
        obtain ⟨res97, hres98, hb85⟩ := bs hb85
        refine W.blockLoop (fun fq wq => ∃ s, res97 = Res.fin s ∧ fq 1 = (Value.pointer (some ⟨b1, 0, none⟩)) ∧ fq 3 = (Value.int .i64 ((c_Values).length : Int)) ∧ fq 4 = v_c_Values ∧ fq 5 = (Value.int .i64 (k80 : Int)) ∧ St wd2 wq []) ?_ ?_
        · refine W.forN (fun k (s : Unit) fq wq => fq 1 = (Value.pointer (some ⟨b1, 0, none⟩)) ∧ fq 3 = (Value.int .i64 ((c_Values).length : Int)) ∧ fq 4 = v_c_Values ∧ fq 5 = (Value.int .i64 (k80 : Int)) ∧ fq 6 = Value.int .i64 (k : Int) ∧ InR .i64 (k : Int) ∧ St wd2 wq []) hres98 ⟨hf89, hf90, hf91, hf92, rfl, (inL rfl), hS94⟩ ?_ ?_
          · intro k99 s1110 ct100 f101 wd102 hk103 hb104 hI105 hbrk106 hret107
            obtain ⟨⟩ := s1110
            replace hI105 : f101 1 = (Value.pointer (some ⟨b1, 0, none⟩)) ∧ f101 3 = (Value.int .i64 ((c_Values).length : Int)) ∧ f101 4 = v_c_Values ∧ f101 5 = (Value.int .i64 (k80 : Int)) ∧ f101 6 = Value.int .i64 (k99 : Int) ∧ InR .i64 (k99 : Int) ∧ St wd2 wd102 [] := hI105
            replace hb104 : p_spec_l17Fault_L2 c_Orders k80 c_Values c_Modulus k99  = some ct100 := hb104
            unfold p_spec_l17Fault_L2 at hb104
            obtain ⟨hf108, hf109, hf110, hf111, hf112, hr113, hS114⟩ := hI105
            refine W.seq (W.seq (W.region ?_))
            refine WL.val (Value.int .i64 (k99 : Int)) _ (op_move hf112) rfl ?_
            refine WL.val (Value.int .i64 ((c_Values).length : Int)) _ (op_move hf109) rfl ?_
            refine WL.val (Value.bool (decide ((k99 : Int) < ((c_Values).length : Int)))) _ (op_lss rfl rfl) rfl ?_
            have hl115 : (k99 : Int) < ((c_Values).length : Int) := by omega
            refine WL.nil ?_
            refine W.condT (decide ((k99 : Int) < ((c_Values).length : Int))) rfl (decide_eq_true hl115) ?_
            refine W.skip ?_
            refine W.seq ?_
            refine W.block ?_
            refine W.seq (W.region ?_)
            refine WL.val (Value.int .i64 (0 : Int)) _ (op_assign rfl) rfl ?_
            refine WL.nil ?_
            show W _ _ _ _ _ _
            obtain ⟨res117, hres118, hb104⟩ := bs hb104
            refine W.blockLoop (fun fq wq => ∃ s, res117 = Res.fin s ∧ fq 1 = (Value.pointer (some ⟨b1, 0, none⟩)) ∧ fq 3 = (Value.int .i64 ((c_Values).length : Int)) ∧ fq 4 = v_c_Values ∧ fq 5 = (Value.int .i64 (k80 : Int)) ∧ fq 6 = (Value.int .i64 (k99 : Int)) ∧ St wd2 wq []) ?_ ?_
            · refine W.forN (fun k (s : Unit) fq wq => fq 1 = (Value.pointer (some ⟨b1, 0, none⟩)) ∧ fq 3 = (Value.int .i64 ((c_Values).length : Int)) ∧ fq 4 = v_c_Values ∧ fq 5 = (Value.int .i64 (k80 : Int)) ∧ fq 6 = (Value.int .i64 (k99 : Int)) ∧ fq 7 = Value.int .i64 (k : Int) ∧ InR .i64 (k : Int) ∧ St wd2 wq []) hres118 ⟨hf108, hf109, hf110, hf111, hf112, rfl, (inL rfl), hS114⟩ ?_ ?_
              · intro k119 s1084 ct120 f121 wd122 hk123 hb124 hI125 hbrk126 hret127
                obtain ⟨⟩ := s1084
                replace hI125 : f121 1 = (Value.pointer (some ⟨b1, 0, none⟩)) ∧ f121 3 = (Value.int .i64 ((c_Values).length : Int)) ∧ f121 4 = v_c_Values ∧ f121 5 = (Value.int .i64 (k80 : Int)) ∧ f121 6 = (Value.int .i64 (k99 : Int)) ∧ f121 7 = Value.int .i64 (k119 : Int) ∧ InR .i64 (k119 : Int) ∧ St wd2 wd122 [] := hI125
                replace hb124 : p_spec_l17Fault_L3 c_Orders k80 k99 c_Values c_Modulus k119  = some ct120 := hb124
                unfold p_spec_l17Fault_L3 at hb124
                obtain ⟨hf128, hf129, hf130, hf131, hf132, hf133, hr134, hS135⟩ := hI125
                refine W.seq (W.seq (W.region ?_))
                refine WL.val (Value.int .i64 (k119 : Int)) _ (op_move hf133) rfl ?_
                refine WL.val (Value.int .i64 ((c_Values).length : Int)) _ (op_move hf129) rfl ?_
                refine WL.val (Value.bool (decide ((k119 : Int) < ((c_Values).length : Int)))) _ (op_lss rfl rfl) rfl ?_
                have hl136 : (k119 : Int) < ((c_Values).length : Int) := by omega
                refine WL.nil ?_
                refine W.condT (decide ((k119 : Int) < ((c_Values).length : Int))) rfl (decide_eq_true hl136) ?_
                refine W.skip ?_
                refine W.seq ?_
                refine W.block ?_
                refine W.seq (W.region ?_)
                refine WL.val (Value.int .i64 (0 : Int)) _ (op_assign rfl) rfl ?_
                refine WL.nil ?_
                show W _ _ _ _ _ _
                obtain ⟨res138, hres139, hb124⟩ := bs hb124
                refine W.blockLoop (fun fq wq => ∃ s, res138 = Res.fin s ∧ fq 1 = (Value.pointer (some ⟨b1, 0, none⟩)) ∧ fq 3 = (Value.int .i64 ((c_Values).length : Int)) ∧ fq 4 = v_c_Values ∧ fq 5 = (Value.int .i64 (k80 : Int)) ∧ fq 6 = (Value.int .i64 (k99 : Int)) ∧ fq 7 = (Value.int .i64 (k119 : Int)) ∧ St wd2 wq []) ?_ ?_
                · refine W.forN (fun k (s : Unit) fq wq => fq 1 = (Value.pointer (some ⟨b1, 0, none⟩)) ∧ fq 3 = (Value.int .i64 ((c_Values).length : Int)) ∧ fq 4 = v_c_Values ∧ fq 5 = (Value.int .i64 (k80 : Int)) ∧ fq 6 = (Value.int .i64 (k99 : Int)) ∧ fq 7 = (Value.int .i64 (k119 : Int)) ∧ fq 8 = Value.int .i64 (k : Int) ∧ InR .i64 (k : Int) ∧ St wd2 wq []) hres139 ⟨hf128, hf129, hf130, hf131, hf132, hf133, rfl, (inL rfl), hS135⟩ ?_ ?_
                  · intro k140 s1056 ct141 f142 wd143 hk144 hb145 hI146 hbrk147 hret148
                    obtain ⟨⟩ := s1056
                    replace hI146 : f142 1 = (Value.pointer (some ⟨b1, 0, none⟩)) ∧ f142 3 = (Value.int .i64 ((c_Values).length : Int)) ∧ f142 4 = v_c_Values ∧ f142 5 = (Value.int .i64 (k80 : Int)) ∧ f142 6 = (Value.int .i64 (k99 : Int)) ∧ f142 7 = (Value.int .i64 (k119 : Int)) ∧ f142 8 = Value.int .i64 (k140 : Int) ∧ InR .i64 (k140 : Int) ∧ St wd2 wd143 [] := hI146
                    replace hb145 : p_spec_l17Fault_L4 c_Orders k80 k99 k119 c_Values c_Modulus k140  = some ct141 := hb145
                    unfold p_spec_l17Fault_L4 at hb145
                    obtain ⟨hf149, hf150, hf151, hf152, hf153, hf154, hf155, hr156, hS157⟩ := hI146
                    refine W.seq (W.seq (W.region ?_))
                    refine WL.val (Value.int .i64 (k140 : Int)) _ (op_move hf155) rfl ?_
                    refine WL.val (Value.int .i64 ((c_Values).length : Int)) _ (op_move hf150) rfl ?_
                    refine WL.val (Value.bool (decide ((k140 : Int) < ((c_Values).length : Int)))) _ (op_lss rfl rfl) rfl ?_
                    have hl158 : (k140 : Int) < ((c_Values).length : Int) := by omega
                    refine WL.nil ?_
                    refine W.condT (decide ((k140 : Int) < ((c_Values).length : Int))) rfl (decide_eq_true hl158) ?_
                    refine W.skip ?_
                    refine W.seq ?_
                    refine W.block ?_
                    refine W.seq ?_
                    obtain ⟨x211, hx212, hb145⟩ := bs hb145
                    obtain ⟨x268, hx269, hb145⟩ := bs hb145
                    refine W.drawR mixo 14 [] [fun _ v _ _ => v = (Value.pointer (some ⟨b1, 0, none⟩)), fun _ v _ _ => v = v_c_Orders, fun _ v _ _ => v = (Value.int .i64 (k80 : Int)) ∧ InR .i64 (k80 : Int), fun _ v _ _ => v = (Value.int .i64 (k99 : Int)) ∧ InR .i64 (k99 : Int), fun _ v _ _ => v = (Value.int .i64 x211) ∧ InR .i64 x211, fun _ v _ _ => v = (Value.pointer (some ⟨b1, 0, none⟩)), fun _ v _ _ => v = v_c_Orders, fun _ v _ _ => v = (Value.int .i64 (k99 : Int)) ∧ InR .i64 (k99 : Int), fun _ v _ _ => v = (Value.int .i64 (k119 : Int)) ∧ InR .i64 (k119 : Int), fun _ v _ _ => v = (Value.int .i64 x268) ∧ InR .i64 x268, fun _ v _ _ => v = (Value.pointer (some ⟨b1, 0, none⟩)), fun _ v _ _ => v = v_c_Orders, fun _ v _ _ => v = (Value.int .i64 (k119 : Int)) ∧ InR .i64 (k119 : Int), fun _ v _ _ => v = (Value.int .i64 (k140 : Int)) ∧ InR .i64 (k140 : Int)] (by kernel_rfl) (by kernel_rfl) ⟨pk, pk, pk, pk, pk, pk, pk, pk, pk, pk, pk, pk, pk, pk, trivial⟩ ⟨?_, ?_, ?_, ?_, ?_, ?_, ?_, ?_, ?_, ?_, ?_, ?_, ?_, ?_, trivial⟩ ?_
                    · refine ObX.op rfl fun f160 wd161 he162 hout163 hphi164 => ?_
                      have e166 : f160 1 = (Value.pointer (some ⟨b1, 0, none⟩)) := (hout163 1 rfl).trans hf149
                      exact OpX.val (Value.pointer (some ⟨b1, 0, none⟩)) wd161 rfl (op_fieldAddr fd_29_0 e166) (Ext.refl _) rfl
                    · refine ObX.op rfl fun f167 wd168 he169 hout170 hphi171 => ?_
                      have hS172 := St.extend hS157 he169
                      obtain ⟨S173, hS174, hf175⟩ := hphi171 0 37 _ rfl rfl rfl
                      have e176 : f167 37 = (Value.pointer (some ⟨b1, 0, none⟩)) := hf175
                      exact OpX.val v_c_Orders wd168 rfl (op_load one_22 e176 (BoxAt.cell (BoxAt.lift hS172.ext hx6) rfl)) (Ext.refl _) rfl
                    · refine ObX.op rfl fun f177 wd178 he179 hout180 hphi181 => ?_
                      have e183 : f177 5 = (Value.int .i64 (k80 : Int)) := (hout180 5 rfl).trans hf152
                      exact OpX.val (Value.int .i64 (k80 : Int)) wd178 rfl (op_move e183) (Ext.refl _) ⟨rfl, hr93⟩
                    · refine ObX.op rfl fun f184 wd185 he186 hout187 hphi188 => ?_
                      have e190 : f184 6 = (Value.int .i64 (k99 : Int)) := (hout187 6 rfl).trans hf153
                      exact OpX.val (Value.int .i64 (k99 : Int)) wd185 rfl (op_move e190) (Ext.refl _) ⟨rfl, hr113⟩
                    · refine ObX.op rfl fun f191 wd192 he193 hout194 hphi195 => ?_
                      have hS196 := St.extend hS157 he193
                      obtain ⟨S197, hS198, hf199⟩ := hphi195 1 38 _ rfl rfl rfl
                      have e200 : f191 38 = v_c_Orders := hf199
                      obtain ⟨S201, hS202, hf203⟩ := hphi195 2 39 _ rfl rfl rfl
                      obtain ⟨e204, hr205⟩ := hf203
                      obtain ⟨S206, hS207, hf208⟩ := hphi195 3 40 _ rfl rfl rfl
                      obtain ⟨e209, hr210⟩ := hf208
                      refine OpX.call rfl (op_call fn_47 (args3 e200 e204 e209)) (Ret.mono (c_spec_l06Add (Ty.lift _ (Ext.trans hE7 hS196.ext) r_c_Orders) hr205 hr210 hx212) ?_)
                      rintro _ wd214 ⟨rfl, hr213, he215⟩
                      exact ⟨he215, _, noS _ _, ⟨rfl, hr213⟩⟩
                    · refine ObX.op rfl fun f217 wd218 he219 hout220 hphi221 => ?_
                      have e223 : f217 1 = (Value.pointer (some ⟨b1, 0, none⟩)) := (hout220 1 rfl).trans hf149
                      exact OpX.val (Value.pointer (some ⟨b1, 0, none⟩)) wd218 rfl (op_fieldAddr fd_29_0 e223) (Ext.refl _) rfl
                    · refine ObX.op rfl fun f224 wd225 he226 hout227 hphi228 => ?_
                      have hS229 := St.extend hS157 he226
                      obtain ⟨S230, hS231, hf232⟩ := hphi228 5 42 _ rfl rfl rfl
                      have e233 : f224 42 = (Value.pointer (some ⟨b1, 0, none⟩)) := hf232
                      exact OpX.val v_c_Orders wd225 rfl (op_load one_22 e233 (BoxAt.cell (BoxAt.lift hS229.ext hx6) rfl)) (Ext.refl _) rfl
                    · refine ObX.op rfl fun f234 wd235 he236 hout237 hphi238 => ?_
                      have e240 : f234 6 = (Value.int .i64 (k99 : Int)) := (hout237 6 rfl).trans hf153
                      exact OpX.val (Value.int .i64 (k99 : Int)) wd235 rfl (op_move e240) (Ext.refl _) ⟨rfl, hr113⟩
                    · refine ObX.op rfl fun f241 wd242 he243 hout244 hphi245 => ?_
                      have e247 : f241 7 = (Value.int .i64 (k119 : Int)) := (hout244 7 rfl).trans hf154
                      exact OpX.val (Value.int .i64 (k119 : Int)) wd242 rfl (op_move e247) (Ext.refl _) ⟨rfl, hr134⟩
                    · refine ObX.op rfl fun f248 wd249 he250 hout251 hphi252 => ?_
                      have hS253 := St.extend hS157 he250
                      obtain ⟨S254, hS255, hf256⟩ := hphi252 6 43 _ rfl rfl rfl
                      have e257 : f248 43 = v_c_Orders := hf256
                      obtain ⟨S258, hS259, hf260⟩ := hphi252 7 44 _ rfl rfl rfl
                      obtain ⟨e261, hr262⟩ := hf260
                      obtain ⟨S263, hS264, hf265⟩ := hphi252 8 45 _ rfl rfl rfl
                      obtain ⟨e266, hr267⟩ := hf265
                      refine OpX.call rfl (op_call fn_47 (args3 e257 e261 e266)) (Ret.mono (c_spec_l06Add (Ty.lift _ (Ext.trans hE7 hS253.ext) r_c_Orders) hr262 hr267 hx269) ?_)
                      rintro _ wd271 ⟨rfl, hr270, he272⟩
                      exact ⟨he272, _, noS _ _, ⟨rfl, hr270⟩⟩
                    · refine ObX.op rfl fun f274 wd275 he276 hout277 hphi278 => ?_
                      have e280 : f274 1 = (Value.pointer (some ⟨b1, 0, none⟩)) := (hout277 1 rfl).trans hf149
                      exact OpX.val (Value.pointer (some ⟨b1, 0, none⟩)) wd275 rfl (op_fieldAddr fd_29_0 e280) (Ext.refl _) rfl
                    · refine ObX.op rfl fun f281 wd282 he283 hout284 hphi285 => ?_
                      have hS286 := St.extend hS157 he283
                      obtain ⟨S287, hS288, hf289⟩ := hphi285 10 47 _ rfl rfl rfl
                      have e290 : f281 47 = (Value.pointer (some ⟨b1, 0, none⟩)) := hf289
                      exact OpX.val v_c_Orders wd282 rfl (op_load one_22 e290 (BoxAt.cell (BoxAt.lift hS286.ext hx6) rfl)) (Ext.refl _) rfl
                    · refine ObX.op rfl fun f291 wd292 he293 hout294 hphi295 => ?_
                      have e297 : f291 7 = (Value.int .i64 (k119 : Int)) := (hout294 7 rfl).trans hf154
                      exact OpX.val (Value.int .i64 (k119 : Int)) wd292 rfl (op_move e297) (Ext.refl _) ⟨rfl, hr134⟩
                    · refine ObX.op rfl fun f298 wd299 he300 hout301 hphi302 => ?_
                      have e304 : f298 8 = (Value.int .i64 (k140 : Int)) := (hout301 8 rfl).trans hf155
                      exact OpX.val (Value.int .i64 (k140 : Int)) wd299 rfl (op_move e304) (Ext.refl _) ⟨rfl, hr156⟩
                    · intro f305 wd306 Ss307 he308 hout309 hSn310 hSd311 hphi312
                      show WL _ _ _ _ _ _ _
                      have hS313 := St.extend hS157 he308
                      obtain ⟨e314, hr315⟩ := hphi312 4 41 _ (by decide) rfl rfl
                      obtain ⟨e316, hr317⟩ := hphi312 9 46 _ (by decide) rfl rfl
                      have e318 : f305 48 = v_c_Orders := hphi312 11 48 _ (by decide) rfl rfl
                      obtain ⟨e319, hr320⟩ := hphi312 12 49 _ (by decide) rfl rfl
                      obtain ⟨e321, hr322⟩ := hphi312 13 50 _ (by decide) rfl rfl
                      have e323 : f305 1 = (Value.pointer (some ⟨b1, 0, none⟩)) := (hout309 1 rfl).trans hf149
                      have e324 : f305 3 = (Value.int .i64 ((c_Values).length : Int)) := (hout309 3 rfl).trans hf150
                      have e325 : f305 4 = v_c_Values := (hout309 4 rfl).trans hf151
                      have e326 : f305 5 = (Value.int .i64 (k80 : Int)) := (hout309 5 rfl).trans hf152
                      have e327 : f305 6 = (Value.int .i64 (k99 : Int)) := (hout309 6 rfl).trans hf153
                      have e328 : f305 7 = (Value.int .i64 (k119 : Int)) := (hout309 7 rfl).trans hf154
                      have e329 : f305 8 = (Value.int .i64 (k140 : Int)) := (hout309 8 rfl).trans hf155
                      obtain ⟨x330, hx331, hb145⟩ := bs hb145
                      refine WL.call _ (op_call fn_47 (args3 e318 e319 e321)) (c_spec_l06Add (Ty.lift _ (Ext.trans hE7 hS313.ext) r_c_Orders) hr320 hr322 hx331) rfl ?_
                      rintro _ wd333 ⟨rfl, hr332, he334⟩
                      have hS336 := St.extend hS313 he334
                      replace hS336 : St wd2 wd333 [] := hS336
                      refine WL.val (Value.int .i64 x211) _ (op_assign e314) rfl ?_
                      refine WL.val (Value.int .i64 x268) _ (op_assign e316) rfl ?_
                      refine WL.val (Value.int .i64 x330) _ (op_assign rfl) rfl ?_
                      refine WL.nil ?_
                      refine W.seq ?_
                      obtain ⟨x366, hx369, hb145⟩ := bs hb145
                      obtain ⟨ha367, hb368, hx369⟩ := idx_some hx369
                      obtain ⟨u380, hc381, hr382⟩ := repSl.el r_c_Values hx369
                      obtain ⟨x405, hx408, hb145⟩ := bs hb145
                      obtain ⟨ha406, hb407, hx408⟩ := idx_some hx408
                      obtain ⟨u419, hc420, hr421⟩ := repSl.el hr382 hx408
                      obtain ⟨x444, hx447, hb145⟩ := bs hb145
                      obtain ⟨ha445, hb446, hx447⟩ := idx_some hx447
                      obtain ⟨u458, hc459, hr460⟩ := repSl.el hr421 hx447
                      obtain ⟨rfl, hr460⟩ := hr460
                      obtain ⟨x490, hx493, hb145⟩ := bs hb145
                      obtain ⟨ha491, hb492, hx493⟩ := idx_some hx493
                      obtain ⟨u504, hc505, hr506⟩ := repSl.el r_c_Values hx493
                      obtain ⟨x529, hx532, hb145⟩ := bs hb145
                      obtain ⟨ha530, hb531, hx532⟩ := idx_some hx532
                      obtain ⟨u543, hc544, hr545⟩ := repSl.el hr506 hx532
                      obtain ⟨x568, hx571, hb145⟩ := bs hb145
                      obtain ⟨ha569, hb570, hx571⟩ := idx_some hx571
                      obtain ⟨u582, hc583, hr584⟩ := repSl.el hr545 hx571
                      obtain ⟨rfl, hr584⟩ := hr584
                      obtain ⟨x630, hx633, hb145⟩ := bs hb145
                      obtain ⟨ha631, hb632, hx633⟩ := idx_some hx633
                      obtain ⟨u644, hc645, hr646⟩ := repSl.el r_c_Values hx633
                      obtain ⟨x669, hx672, hb145⟩ := bs hb145
                      obtain ⟨ha670, hb671, hx672⟩ := idx_some hx672
                      obtain ⟨u683, hc684, hr685⟩ := repSl.el hr646 hx672
                      obtain ⟨x708, hx711, hb145⟩ := bs hb145
                      obtain ⟨ha709, hb710, hx711⟩ := idx_some hx711
                      obtain ⟨u722, hc723, hr724⟩ := repSl.el hr685 hx711
                      obtain ⟨rfl, hr724⟩ := hr724
                      obtain ⟨u780, hc781, hr782⟩ := repSl.el r_c_Values hx633
                      obtain ⟨x805, hx808, hb145⟩ := bs hb145
                      obtain ⟨ha806, hb807, hx808⟩ := idx_some hx808
                      obtain ⟨u819, hc820, hr821⟩ := repSl.el hr782 hx808
                      obtain ⟨x844, hx847, hb145⟩ := bs hb145
                      obtain ⟨ha845, hb846, hx847⟩ := idx_some hx847
                      obtain ⟨u858, hc859, hr860⟩ := repSl.el hr821 hx847
                      obtain ⟨rfl, hr860⟩ := hr860
                      obtain ⟨u916, hc917, hr918⟩ := repSl.el r_c_Values hx633
                      obtain ⟨u951, hc952, hr953⟩ := repSl.el hr918 hx808
                      obtain ⟨x976, hx979, hb145⟩ := bs hb145
                      obtain ⟨ha977, hb978, hx979⟩ := idx_some hx979
                      obtain ⟨u990, hc991, hr992⟩ := repSl.el hr953 hx979
                      obtain ⟨rfl, hr992⟩ := hr992
                      refine W.drawR mixo 56 [] [fun _ v _ _ => v = v_c_Values, fun _ v _ _ => v = (Value.int .i64 (k99 : Int)) ∧ InR .i64 (k99 : Int), fun _ v _ _ => v = (Value.pointer (some (elA v_c_Values ((k99 : Int)).toNat))), fun _ v _ _ => v = u380, fun _ v _ _ => v = (Value.int .i64 (k119 : Int)) ∧ InR .i64 (k119 : Int), fun _ v _ _ => v = (Value.pointer (some (elA u380 ((k119 : Int)).toNat))), fun _ v _ _ => v = u419, fun _ v _ _ => v = (Value.int .i64 (k140 : Int)) ∧ InR .i64 (k140 : Int), fun _ v _ _ => v = (Value.pointer (some (elA u419 ((k140 : Int)).toNat))), fun _ v _ _ => v = (Value.int .i64 x444) ∧ InR .i64 x444, fun _ v _ _ => v = v_c_Values, fun _ v _ _ => v = (Value.int .i64 x211) ∧ InR .i64 x211, fun _ v _ _ => v = (Value.pointer (some (elA v_c_Values (x211).toNat))), fun _ v _ _ => v = u504, fun _ v _ _ => v = (Value.int .i64 (k119 : Int)) ∧ InR .i64 (k119 : Int), fun _ v _ _ => v = (Value.pointer (some (elA u504 ((k119 : Int)).toNat))), fun _ v _ _ => v = u543, fun _ v _ _ => v = (Value.int .i64 (k140 : Int)) ∧ InR .i64 (k140 : Int), fun _ v _ _ => v = (Value.pointer (some (elA u543 ((k140 : Int)).toNat))), fun _ v _ _ => v = (Value.int .i64 x568) ∧ InR .i64 x568, fun _ v _ _ => v = (Value.int .i64 (w64 (x444 - x568))) ∧ InR .i64 (w64 (x444 - x568)), fun _ v _ _ => v = v_c_Values, fun _ v _ _ => v = (Value.int .i64 (k80 : Int)) ∧ InR .i64 (k80 : Int), fun _ v _ _ => v = (Value.pointer (some (elA v_c_Values ((k80 : Int)).toNat))), fun _ v _ _ => v = u644, fun _ v _ _ => v = (Value.int .i64 x268) ∧ InR .i64 x268, fun _ v _ _ => v = (Value.pointer (some (elA u644 (x268).toNat))), fun _ v _ _ => v = u683, fun _ v _ _ => v = (Value.int .i64 (k140 : Int)) ∧ InR .i64 (k140 : Int), fun _ v _ _ => v = (Value.pointer (some (elA u683 ((k140 : Int)).toNat))), fun _ v _ _ => v = (Value.int .i64 x708) ∧ InR .i64 x708, fun _ v _ _ => v = (Value.int .i64 (w64 ((w64 (x444 - x568)) + x708))) ∧ InR .i64 (w64 ((w64 (x444 - x568)) + x708)), fun _ v _ _ => v = v_c_Values, fun _ v _ _ => v = (Value.int .i64 (k80 : Int)) ∧ InR .i64 (k80 : Int), fun _ v _ _ => v = (Value.pointer (some (elA v_c_Values ((k80 : Int)).toNat))), fun _ v _ _ => v = u780, fun _ v _ _ => v = (Value.int .i64 (k99 : Int)) ∧ InR .i64 (k99 : Int), fun _ v _ _ => v = (Value.pointer (some (elA u780 ((k99 : Int)).toNat))), fun _ v _ _ => v = u819, fun _ v _ _ => v = (Value.int .i64 x330) ∧ InR .i64 x330, fun _ v _ _ => v = (Value.pointer (some (elA u819 (x330).toNat))), fun _ v _ _ => v = (Value.int .i64 x844) ∧ InR .i64 x844, fun _ v _ _ => v = (Value.int .i64 (w64 ((w64 ((w64 (x444 - x568)) + x708)) - x844))) ∧ InR .i64 (w64 ((w64 ((w64 (x444 - x568)) + x708)) - x844)), fun _ v _ _ => v = v_c_Values, fun _ v _ _ => v = (Value.int .i64 (k80 : Int)) ∧ InR .i64 (k80 : Int), fun _ v _ _ => v = (Value.pointer (some (elA v_c_Values ((k80 : Int)).toNat))), fun _ v _ _ => v = u916, fun _ v _ _ => v = (Value.int .i64 (k99 : Int)) ∧ InR .i64 (k99 : Int), fun _ v _ _ => v = (Value.pointer (some (elA u916 ((k99 : Int)).toNat))), fun _ v _ _ => v = u951, fun _ v _ _ => v = (Value.int .i64 (k119 : Int)) ∧ InR .i64 (k119 : Int), fun _ v _ _ => v = (Value.pointer (some (elA u951 ((k119 : Int)).toNat))), fun _ v _ _ => v = (Value.int .i64 x976) ∧ InR .i64 x976, fun _ v _ _ => v = (Value.int .i64 (w64 ((w64 ((w64 ((w64 (x444 - x568)) + x708)) - x844)) + x976))) ∧ InR .i64 (w64 ((w64 ((w64 ((w64 (x444 - x568)) + x708)) - x844)) + x976)), fun _ v _ _ => v = (Value.pointer (some ⟨b1, 1, none⟩)), fun _ v _ _ => v = (Value.int .i64 c_Modulus) ∧ InR .i64 c_Modulus] (by kernel_rfl) (by kernel_rfl) ⟨pk, pk, pk, pk, pk, pk, pk, pk, pk, pk, pk, pk, pk, pk, pk, pk, pk, pk, pk, pk, pk, pk, pk, pk, pk, pk, pk, pk, pk, pk, pk, pk, pk, pk, pk, pk, pk, pk, pk, pk, pk, pk, pk, pk, pk, pk, pk, pk, pk, pk, pk, pk, pk, pk, pk, pk, trivial⟩ ⟨?_, ?_, ?_, ?_, ?_, ?_, ?_, ?_, ?_, ?_, ?_, ?_, ?_, ?_, ?_, ?_, ?_, ?_, ?_, ?_, ?_, ?_, ?_, ?_, ?_, ?_, ?_, ?_, ?_, ?_, ?_, ?_, ?_, ?_, ?_, ?_, ?_, ?_, ?_, ?_, ?_, ?_, ?_, ?_, ?_, ?_, ?_, ?_, ?_, ?_, ?_, ?_, ?_, ?_, ?_, ?_, trivial⟩ ?_
                      · refine ObX.op rfl fun f337 wd338 he339 hout340 hphi341 => ?_
                        have e343 : f337 4 = v_c_Values := (hout340 4 rfl).trans e325
                        exact OpX.val v_c_Values wd338 rfl (op_move e343) (Ext.refl _) rfl
                      · refine ObX.op rfl fun f344 wd345 he346 hout347 hphi348 => ?_
                        have e350 : f344 6 = (Value.int .i64 (k99 : Int)) := (hout347 6 rfl).trans e327
                        exact OpX.val (Value.int .i64 (k99 : Int)) wd345 rfl (op_move e350) (Ext.refl _) ⟨rfl, hr113⟩
                      · refine ObX.op rfl fun f351 wd352 he353 hout354 hphi355 => ?_
                        have hS356 := St.extend hS336 he353
                        obtain ⟨S357, hS358, hf359⟩ := hphi355 0 52 _ rfl rfl rfl
                        have e360 : f351 52 = v_c_Values := hf359
                        obtain ⟨S361, hS362, hf363⟩ := hphi355 1 53 _ rfl rfl rfl
                        obtain ⟨e364, hr365⟩ := hf363
                        exact OpX.val (Value.pointer (some (elA v_c_Values ((k99 : Int)).toNat))) wd352 rfl (op_idx sl_23 (Ty.lift _ (Ext.trans hE7 hS356.ext) r_c_Values) e360 e364 ha367 hb368) (Ext.refl _) rfl
                      · refine ObX.op rfl fun f370 wd371 he372 hout373 hphi374 => ?_
                        have hS375 := St.extend hS336 he372
                        obtain ⟨S376, hS377, hf378⟩ := hphi374 2 54 _ rfl rfl rfl
                        have e379 : f370 54 = (Value.pointer (some (elA v_c_Values ((k99 : Int)).toNat))) := hf378
                        exact OpX.val u380 wd371 rfl (op_load one_37 e379 (Ext.cell (Ext.trans hE7 hS375.ext) hc381)) (Ext.refl _) rfl
                      · refine ObX.op rfl fun f383 wd384 he385 hout386 hphi387 => ?_
                        have e389 : f383 7 = (Value.int .i64 (k119 : Int)) := (hout386 7 rfl).trans e328
                        exact OpX.val (Value.int .i64 (k119 : Int)) wd384 rfl (op_move e389) (Ext.refl _) ⟨rfl, hr134⟩
                      · refine ObX.op rfl fun f390 wd391 he392 hout393 hphi394 => ?_
                        have hS395 := St.extend hS336 he392
                        obtain ⟨S396, hS397, hf398⟩ := hphi394 3 55 _ rfl rfl rfl
                        have e399 : f390 55 = u380 := hf398
                        obtain ⟨S400, hS401, hf402⟩ := hphi394 4 56 _ rfl rfl rfl
                        obtain ⟨e403, hr404⟩ := hf402
                        exact OpX.val (Value.pointer (some (elA u380 ((k119 : Int)).toNat))) wd391 rfl (op_idx sl_37 (Ty.lift _ (Ext.trans hE7 hS395.ext) hr382) e399 e403 ha406 hb407) (Ext.refl _) rfl
                      · refine ObX.op rfl fun f409 wd410 he411 hout412 hphi413 => ?_
                        have hS414 := St.extend hS336 he411
                        obtain ⟨S415, hS416, hf417⟩ := hphi413 5 57 _ rfl rfl rfl
                        have e418 : f409 57 = (Value.pointer (some (elA u380 ((k119 : Int)).toNat))) := hf417
                        exact OpX.val u419 wd410 rfl (op_load one_22 e418 (Ext.cell (Ext.trans hE7 hS414.ext) hc420)) (Ext.refl _) rfl
                      · refine ObX.op rfl fun f422 wd423 he424 hout425 hphi426 => ?_
                        have e428 : f422 8 = (Value.int .i64 (k140 : Int)) := (hout425 8 rfl).trans e329
                        exact OpX.val (Value.int .i64 (k140 : Int)) wd423 rfl (op_move e428) (Ext.refl _) ⟨rfl, hr156⟩
                      · refine ObX.op rfl fun f429 wd430 he431 hout432 hphi433 => ?_
                        have hS434 := St.extend hS336 he431
                        obtain ⟨S435, hS436, hf437⟩ := hphi433 6 58 _ rfl rfl rfl
                        have e438 : f429 58 = u419 := hf437
                        obtain ⟨S439, hS440, hf441⟩ := hphi433 7 59 _ rfl rfl rfl
                        obtain ⟨e442, hr443⟩ := hf441
                        exact OpX.val (Value.pointer (some (elA u419 ((k140 : Int)).toNat))) wd430 rfl (op_idx sl_22 (Ty.lift _ (Ext.trans hE7 hS434.ext) hr421) e438 e442 ha445 hb446) (Ext.refl _) rfl
                      · refine ObX.op rfl fun f448 wd449 he450 hout451 hphi452 => ?_
                        have hS453 := St.extend hS336 he450
                        obtain ⟨S454, hS455, hf456⟩ := hphi452 8 60 _ rfl rfl rfl
                        have e457 : f448 60 = (Value.pointer (some (elA u419 ((k140 : Int)).toNat))) := hf456
                        exact OpX.val (Value.int .i64 x444) wd449 rfl (op_load one_2 e457 (Ext.cell (Ext.trans hE7 hS453.ext) hc459)) (Ext.refl _) ⟨rfl, hr460⟩
                      · refine ObX.op rfl fun f461 wd462 he463 hout464 hphi465 => ?_
                        have e467 : f461 4 = v_c_Values := (hout464 4 rfl).trans e325
                        exact OpX.val v_c_Values wd462 rfl (op_move e467) (Ext.refl _) rfl
                      · refine ObX.op rfl fun f468 wd469 he470 hout471 hphi472 => ?_
                        have e474 : f468 9 = (Value.int .i64 x211) := (hout471 9 rfl).trans rfl
                        exact OpX.val (Value.int .i64 x211) wd469 rfl (op_move e474) (Ext.refl _) ⟨rfl, hr315⟩
                      · refine ObX.op rfl fun f475 wd476 he477 hout478 hphi479 => ?_
                        have hS480 := St.extend hS336 he477
                        obtain ⟨S481, hS482, hf483⟩ := hphi479 10 62 _ rfl rfl rfl
                        have e484 : f475 62 = v_c_Values := hf483
                        obtain ⟨S485, hS486, hf487⟩ := hphi479 11 63 _ rfl rfl rfl
                        obtain ⟨e488, hr489⟩ := hf487
                        exact OpX.val (Value.pointer (some (elA v_c_Values (x211).toNat))) wd476 rfl (op_idx sl_23 (Ty.lift _ (Ext.trans hE7 hS480.ext) r_c_Values) e484 e488 ha491 hb492) (Ext.refl _) rfl
                      · refine ObX.op rfl fun f494 wd495 he496 hout497 hphi498 => ?_
                        have hS499 := St.extend hS336 he496
                        obtain ⟨S500, hS501, hf502⟩ := hphi498 12 64 _ rfl rfl rfl
                        have e503 : f494 64 = (Value.pointer (some (elA v_c_Values (x211).toNat))) := hf502
                        exact OpX.val u504 wd495 rfl (op_load one_37 e503 (Ext.cell (Ext.trans hE7 hS499.ext) hc505)) (Ext.refl _) rfl
                      · refine ObX.op rfl fun f507 wd508 he509 hout510 hphi511 => ?_
                        have e513 : f507 7 = (Value.int .i64 (k119 : Int)) := (hout510 7 rfl).trans e328
                        exact OpX.val (Value.int .i64 (k119 : Int)) wd508 rfl (op_move e513) (Ext.refl _) ⟨rfl, hr134⟩
                      · refine ObX.op rfl fun f514 wd515 he516 hout517 hphi518 => ?_
                        have hS519 := St.extend hS336 he516
                        obtain ⟨S520, hS521, hf522⟩ := hphi518 13 65 _ rfl rfl rfl
                        have e523 : f514 65 = u504 := hf522
                        obtain ⟨S524, hS525, hf526⟩ := hphi518 14 66 _ rfl rfl rfl
                        obtain ⟨e527, hr528⟩ := hf526
                        exact OpX.val (Value.pointer (some (elA u504 ((k119 : Int)).toNat))) wd515 rfl (op_idx sl_37 (Ty.lift _ (Ext.trans hE7 hS519.ext) hr506) e523 e527 ha530 hb531) (Ext.refl _) rfl
                      · refine ObX.op rfl fun f533 wd534 he535 hout536 hphi537 => ?_
                        have hS538 := St.extend hS336 he535
                        obtain ⟨S539, hS540, hf541⟩ := hphi537 15 67 _ rfl rfl rfl
                        have e542 : f533 67 = (Value.pointer (some (elA u504 ((k119 : Int)).toNat))) := hf541
                        exact OpX.val u543 wd534 rfl (op_load one_22 e542 (Ext.cell (Ext.trans hE7 hS538.ext) hc544)) (Ext.refl _) rfl
                      · refine ObX.op rfl fun f546 wd547 he548 hout549 hphi550 => ?_
                        have e552 : f546 8 = (Value.int .i64 (k140 : Int)) := (hout549 8 rfl).trans e329
                        exact OpX.val (Value.int .i64 (k140 : Int)) wd547 rfl (op_move e552) (Ext.refl _) ⟨rfl, hr156⟩
                      · refine ObX.op rfl fun f553 wd554 he555 hout556 hphi557 => ?_
                        have hS558 := St.extend hS336 he555
                        obtain ⟨S559, hS560, hf561⟩ := hphi557 16 68 _ rfl rfl rfl
                        have e562 : f553 68 = u543 := hf561
                        obtain ⟨S563, hS564, hf565⟩ := hphi557 17 69 _ rfl rfl rfl
                        obtain ⟨e566, hr567⟩ := hf565
                        exact OpX.val (Value.pointer (some (elA u543 ((k140 : Int)).toNat))) wd554 rfl (op_idx sl_22 (Ty.lift _ (Ext.trans hE7 hS558.ext) hr545) e562 e566 ha569 hb570) (Ext.refl _) rfl
                      · refine ObX.op rfl fun f572 wd573 he574 hout575 hphi576 => ?_
                        have hS577 := St.extend hS336 he574
                        obtain ⟨S578, hS579, hf580⟩ := hphi576 18 70 _ rfl rfl rfl
                        have e581 : f572 70 = (Value.pointer (some (elA u543 ((k140 : Int)).toNat))) := hf580
                        exact OpX.val (Value.int .i64 x568) wd573 rfl (op_load one_2 e581 (Ext.cell (Ext.trans hE7 hS577.ext) hc583)) (Ext.refl _) ⟨rfl, hr584⟩
                      · refine ObX.op rfl fun f585 wd586 he587 hout588 hphi589 => ?_
                        obtain ⟨S591, hS592, hf593⟩ := hphi589 9 61 _ rfl rfl rfl
                        obtain ⟨e594, hr595⟩ := hf593
                        obtain ⟨S596, hS597, hf598⟩ := hphi589 19 71 _ rfl rfl rfl
                        obtain ⟨e599, hr600⟩ := hf598
                        exact OpX.val (Value.int .i64 (w64 (x444 - x568))) wd586 rfl (op_sub e594 e599) (Ext.refl _) ⟨rfl, (inR_wrap _ _)⟩
                      · refine ObX.op rfl fun f601 wd602 he603 hout604 hphi605 => ?_
                        have e607 : f601 4 = v_c_Values := (hout604 4 rfl).trans e325
                        exact OpX.val v_c_Values wd602 rfl (op_move e607) (Ext.refl _) rfl
                      · refine ObX.op rfl fun f608 wd609 he610 hout611 hphi612 => ?_
                        have e614 : f608 5 = (Value.int .i64 (k80 : Int)) := (hout611 5 rfl).trans e326
                        exact OpX.val (Value.int .i64 (k80 : Int)) wd609 rfl (op_move e614) (Ext.refl _) ⟨rfl, hr93⟩
                      · refine ObX.op rfl fun f615 wd616 he617 hout618 hphi619 => ?_
                        have hS620 := St.extend hS336 he617
                        obtain ⟨S621, hS622, hf623⟩ := hphi619 21 73 _ rfl rfl rfl
                        have e624 : f615 73 = v_c_Values := hf623
                        obtain ⟨S625, hS626, hf627⟩ := hphi619 22 74 _ rfl rfl rfl
                        obtain ⟨e628, hr629⟩ := hf627
                        exact OpX.val (Value.pointer (some (elA v_c_Values ((k80 : Int)).toNat))) wd616 rfl (op_idx sl_23 (Ty.lift _ (Ext.trans hE7 hS620.ext) r_c_Values) e624 e628 ha631 hb632) (Ext.refl _) rfl
                      · refine ObX.op rfl fun f634 wd635 he636 hout637 hphi638 => ?_
                        have hS639 := St.extend hS336 he636
                        obtain ⟨S640, hS641, hf642⟩ := hphi638 23 75 _ rfl rfl rfl
                        have e643 : f634 75 = (Value.pointer (some (elA v_c_Values ((k80 : Int)).toNat))) := hf642
                        exact OpX.val u644 wd635 rfl (op_load one_37 e643 (Ext.cell (Ext.trans hE7 hS639.ext) hc645)) (Ext.refl _) rfl
                      · refine ObX.op rfl fun f647 wd648 he649 hout650 hphi651 => ?_
                        have e653 : f647 10 = (Value.int .i64 x268) := (hout650 10 rfl).trans rfl
                        exact OpX.val (Value.int .i64 x268) wd648 rfl (op_move e653) (Ext.refl _) ⟨rfl, hr317⟩
                      · refine ObX.op rfl fun f654 wd655 he656 hout657 hphi658 => ?_
                        have hS659 := St.extend hS336 he656
                        obtain ⟨S660, hS661, hf662⟩ := hphi658 24 76 _ rfl rfl rfl
                        have e663 : f654 76 = u644 := hf662
                        obtain ⟨S664, hS665, hf666⟩ := hphi658 25 77 _ rfl rfl rfl
                        obtain ⟨e667, hr668⟩ := hf666
                        exact OpX.val (Value.pointer (some (elA u644 (x268).toNat))) wd655 rfl (op_idx sl_37 (Ty.lift _ (Ext.trans hE7 hS659.ext) hr646) e663 e667 ha670 hb671) (Ext.refl _) rfl
                      · refine ObX.op rfl fun f673 wd674 he675 hout676 hphi677 => ?_
                        have hS678 := St.extend hS336 he675
                        obtain ⟨S679, hS680, hf681⟩ := hphi677 26 78 _ rfl rfl rfl
                        have e682 : f673 78 = (Value.pointer (some (elA u644 (x268).toNat))) := hf681
                        exact OpX.val u683 wd674 rfl (op_load one_22 e682 (Ext.cell (Ext.trans hE7 hS678.ext) hc684)) (Ext.refl _) rfl
                      · refine ObX.op rfl fun f686 wd687 he688 hout689 hphi690 => ?_
                        have e692 : f686 8 = (Value.int .i64 (k140 : Int)) := (hout689 8 rfl).trans e329
                        exact OpX.val (Value.int .i64 (k140 : Int)) wd687 rfl (op_move e692) (Ext.refl _) ⟨rfl, hr156⟩
                      · refine ObX.op rfl fun f693 wd694 he695 hout696 hphi697 => ?_
                        have hS698 := St.extend hS336 he695
                        obtain ⟨S699, hS700, hf701⟩ := hphi697 27 79 _ rfl rfl rfl
                        have e702 : f693 79 = u683 := hf701
                        obtain ⟨S703, hS704, hf705⟩ := hphi697 28 80 _ rfl rfl rfl
                        obtain ⟨e706, hr707⟩ := hf705
                        exact OpX.val (Value.pointer (some (elA u683 ((k140 : Int)).toNat))) wd694 rfl (op_idx sl_22 (Ty.lift _ (Ext.trans hE7 hS698.ext) hr685) e702 e706 ha709 hb710) (Ext.refl _) rfl
                      · refine ObX.op rfl fun f712 wd713 he714 hout715 hphi716 => ?_
                        have hS717 := St.extend hS336 he714
                        obtain ⟨S718, hS719, hf720⟩ := hphi716 29 81 _ rfl rfl rfl
                        have e721 : f712 81 = (Value.pointer (some (elA u683 ((k140 : Int)).toNat))) := hf720
                        exact OpX.val (Value.int .i64 x708) wd713 rfl (op_load one_2 e721 (Ext.cell (Ext.trans hE7 hS717.ext) hc723)) (Ext.refl _) ⟨rfl, hr724⟩
                      · refine ObX.op rfl fun f725 wd726 he727 hout728 hphi729 => ?_
                        obtain ⟨S731, hS732, hf733⟩ := hphi729 20 72 _ rfl rfl rfl
                        obtain ⟨e734, hr735⟩ := hf733
                        obtain ⟨S736, hS737, hf738⟩ := hphi729 30 82 _ rfl rfl rfl
                        obtain ⟨e739, hr740⟩ := hf738
                        exact OpX.val (Value.int .i64 (w64 ((w64 (x444 - x568)) + x708))) wd726 rfl (op_add e734 e739) (Ext.refl _) ⟨rfl, (inR_wrap _ _)⟩
                      · refine ObX.op rfl fun f741 wd742 he743 hout744 hphi745 => ?_
                        have e747 : f741 4 = v_c_Values := (hout744 4 rfl).trans e325
                        exact OpX.val v_c_Values wd742 rfl (op_move e747) (Ext.refl _) rfl
                      · refine ObX.op rfl fun f748 wd749 he750 hout751 hphi752 => ?_
                        have e754 : f748 5 = (Value.int .i64 (k80 : Int)) := (hout751 5 rfl).trans e326
                        exact OpX.val (Value.int .i64 (k80 : Int)) wd749 rfl (op_move e754) (Ext.refl _) ⟨rfl, hr93⟩
                      · refine ObX.op rfl fun f755 wd756 he757 hout758 hphi759 => ?_
                        have hS760 := St.extend hS336 he757
                        obtain ⟨S761, hS762, hf763⟩ := hphi759 32 84 _ rfl rfl rfl
                        have e764 : f755 84 = v_c_Values := hf763
                        obtain ⟨S765, hS766, hf767⟩ := hphi759 33 85 _ rfl rfl rfl
                        obtain ⟨e768, hr769⟩ := hf767
                        exact OpX.val (Value.pointer (some (elA v_c_Values ((k80 : Int)).toNat))) wd756 rfl (op_idx sl_23 (Ty.lift _ (Ext.trans hE7 hS760.ext) r_c_Values) e764 e768 ha631 hb632) (Ext.refl _) rfl
                      · refine ObX.op rfl fun f770 wd771 he772 hout773 hphi774 => ?_
                        have hS775 := St.extend hS336 he772
                        obtain ⟨S776, hS777, hf778⟩ := hphi774 34 86 _ rfl rfl rfl
                        have e779 : f770 86 = (Value.pointer (some (elA v_c_Values ((k80 : Int)).toNat))) := hf778
                        exact OpX.val u780 wd771 rfl (op_load one_37 e779 (Ext.cell (Ext.trans hE7 hS775.ext) hc781)) (Ext.refl _) rfl
                      · refine ObX.op rfl fun f783 wd784 he785 hout786 hphi787 => ?_
                        have e789 : f783 6 = (Value.int .i64 (k99 : Int)) := (hout786 6 rfl).trans e327
                        exact OpX.val (Value.int .i64 (k99 : Int)) wd784 rfl (op_move e789) (Ext.refl _) ⟨rfl, hr113⟩
                      · refine ObX.op rfl fun f790 wd791 he792 hout793 hphi794 => ?_
                        have hS795 := St.extend hS336 he792
                        obtain ⟨S796, hS797, hf798⟩ := hphi794 35 87 _ rfl rfl rfl
                        have e799 : f790 87 = u780 := hf798
                        obtain ⟨S800, hS801, hf802⟩ := hphi794 36 88 _ rfl rfl rfl
                        obtain ⟨e803, hr804⟩ := hf802
                        exact OpX.val (Value.pointer (some (elA u780 ((k99 : Int)).toNat))) wd791 rfl (op_idx sl_37 (Ty.lift _ (Ext.trans hE7 hS795.ext) hr782) e799 e803 ha806 hb807) (Ext.refl _) rfl
                      · refine ObX.op rfl fun f809 wd810 he811 hout812 hphi813 => ?_
                        have hS814 := St.extend hS336 he811
                        obtain ⟨S815, hS816, hf817⟩ := hphi813 37 89 _ rfl rfl rfl
                        have e818 : f809 89 = (Value.pointer (some (elA u780 ((k99 : Int)).toNat))) := hf817
                        exact OpX.val u819 wd810 rfl (op_load one_22 e818 (Ext.cell (Ext.trans hE7 hS814.ext) hc820)) (Ext.refl _) rfl
                      · refine ObX.op rfl fun f822 wd823 he824 hout825 hphi826 => ?_
                        have e828 : f822 11 = (Value.int .i64 x330) := (hout825 11 rfl).trans rfl
                        exact OpX.val (Value.int .i64 x330) wd823 rfl (op_move e828) (Ext.refl _) ⟨rfl, hr332⟩
                      · refine ObX.op rfl fun f829 wd830 he831 hout832 hphi833 => ?_
                        have hS834 := St.extend hS336 he831
                        obtain ⟨S835, hS836, hf837⟩ := hphi833 38 90 _ rfl rfl rfl
                        have e838 : f829 90 = u819 := hf837
                        obtain ⟨S839, hS840, hf841⟩ := hphi833 39 91 _ rfl rfl rfl
                        obtain ⟨e842, hr843⟩ := hf841
                        exact OpX.val (Value.pointer (some (elA u819 (x330).toNat))) wd830 rfl (op_idx sl_22 (Ty.lift _ (Ext.trans hE7 hS834.ext) hr821) e838 e842 ha845 hb846) (Ext.refl _) rfl
                      · refine ObX.op rfl fun f848 wd849 he850 hout851 hphi852 => ?_
                        have hS853 := St.extend hS336 he850
                        obtain ⟨S854, hS855, hf856⟩ := hphi852 40 92 _ rfl rfl rfl
                        have e857 : f848 92 = (Value.pointer (some (elA u819 (x330).toNat))) := hf856
                        exact OpX.val (Value.int .i64 x844) wd849 rfl (op_load one_2 e857 (Ext.cell (Ext.trans hE7 hS853.ext) hc859)) (Ext.refl _) ⟨rfl, hr860⟩
                      · refine ObX.op rfl fun f861 wd862 he863 hout864 hphi865 => ?_
                        obtain ⟨S867, hS868, hf869⟩ := hphi865 31 83 _ rfl rfl rfl
                        obtain ⟨e870, hr871⟩ := hf869
                        obtain ⟨S872, hS873, hf874⟩ := hphi865 41 93 _ rfl rfl rfl
                        obtain ⟨e875, hr876⟩ := hf874
                        exact OpX.val (Value.int .i64 (w64 ((w64 ((w64 (x444 - x568)) + x708)) - x844))) wd862 rfl (op_sub e870 e875) (Ext.refl _) ⟨rfl, (inR_wrap _ _)⟩
                      · refine ObX.op rfl fun f877 wd878 he879 hout880 hphi881 => ?_
                        have e883 : f877 4 = v_c_Values := (hout880 4 rfl).trans e325
                        exact OpX.val v_c_Values wd878 rfl (op_move e883) (Ext.refl _) rfl
                      · refine ObX.op rfl fun f884 wd885 he886 hout887 hphi888 => ?_
                        have e890 : f884 5 = (Value.int .i64 (k80 : Int)) := (hout887 5 rfl).trans e326
                        exact OpX.val (Value.int .i64 (k80 : Int)) wd885 rfl (op_move e890) (Ext.refl _) ⟨rfl, hr93⟩
                      · refine ObX.op rfl fun f891 wd892 he893 hout894 hphi895 => ?_
                        have hS896 := St.extend hS336 he893
                        obtain ⟨S897, hS898, hf899⟩ := hphi895 43 95 _ rfl rfl rfl
                        have e900 : f891 95 = v_c_Values := hf899
                        obtain ⟨S901, hS902, hf903⟩ := hphi895 44 96 _ rfl rfl rfl
                        obtain ⟨e904, hr905⟩ := hf903
                        exact OpX.val (Value.pointer (some (elA v_c_Values ((k80 : Int)).toNat))) wd892 rfl (op_idx sl_23 (Ty.lift _ (Ext.trans hE7 hS896.ext) r_c_Values) e900 e904 ha631 hb632) (Ext.refl _) rfl
                      · refine ObX.op rfl fun f906 wd907 he908 hout909 hphi910 => ?_
                        have hS911 := St.extend hS336 he908
                        obtain ⟨S912, hS913, hf914⟩ := hphi910 45 97 _ rfl rfl rfl
                        have e915 : f906 97 = (Value.pointer (some (elA v_c_Values ((k80 : Int)).toNat))) := hf914
                        exact OpX.val u916 wd907 rfl (op_load one_37 e915 (Ext.cell (Ext.trans hE7 hS911.ext) hc917)) (Ext.refl _) rfl
                      · refine ObX.op rfl fun f919 wd920 he921 hout922 hphi923 => ?_
                        have e925 : f919 6 = (Value.int .i64 (k99 : Int)) := (hout922 6 rfl).trans e327
                        exact OpX.val (Value.int .i64 (k99 : Int)) wd920 rfl (op_move e925) (Ext.refl _) ⟨rfl, hr113⟩
                      · refine ObX.op rfl fun f926 wd927 he928 hout929 hphi930 => ?_
                        have hS931 := St.extend hS336 he928
                        obtain ⟨S932, hS933, hf934⟩ := hphi930 46 98 _ rfl rfl rfl
                        have e935 : f926 98 = u916 := hf934
                        obtain ⟨S936, hS937, hf938⟩ := hphi930 47 99 _ rfl rfl rfl
                        obtain ⟨e939, hr940⟩ := hf938
                        exact OpX.val (Value.pointer (some (elA u916 ((k99 : Int)).toNat))) wd927 rfl (op_idx sl_37 (Ty.lift _ (Ext.trans hE7 hS931.ext) hr918) e935 e939 ha806 hb807) (Ext.refl _) rfl
                      · refine ObX.op rfl fun f941 wd942 he943 hout944 hphi945 => ?_
                        have hS946 := St.extend hS336 he943
                        obtain ⟨S947, hS948, hf949⟩ := hphi945 48 100 _ rfl rfl rfl
                        have e950 : f941 100 = (Value.pointer (some (elA u916 ((k99 : Int)).toNat))) := hf949
                        exact OpX.val u951 wd942 rfl (op_load one_22 e950 (Ext.cell (Ext.trans hE7 hS946.ext) hc952)) (Ext.refl _) rfl
                      · refine ObX.op rfl fun f954 wd955 he956 hout957 hphi958 => ?_
                        have e960 : f954 7 = (Value.int .i64 (k119 : Int)) := (hout957 7 rfl).trans e328
                        exact OpX.val (Value.int .i64 (k119 : Int)) wd955 rfl (op_move e960) (Ext.refl _) ⟨rfl, hr134⟩
                      · refine ObX.op rfl fun f961 wd962 he963 hout964 hphi965 => ?_
                        have hS966 := St.extend hS336 he963
                        obtain ⟨S967, hS968, hf969⟩ := hphi965 49 101 _ rfl rfl rfl
                        have e970 : f961 101 = u951 := hf969
                        obtain ⟨S971, hS972, hf973⟩ := hphi965 50 102 _ rfl rfl rfl
                        obtain ⟨e974, hr975⟩ := hf973
                        exact OpX.val (Value.pointer (some (elA u951 ((k119 : Int)).toNat))) wd962 rfl (op_idx sl_22 (Ty.lift _ (Ext.trans hE7 hS966.ext) hr953) e970 e974 ha977 hb978) (Ext.refl _) rfl
                      · refine ObX.op rfl fun f980 wd981 he982 hout983 hphi984 => ?_
                        have hS985 := St.extend hS336 he982
                        obtain ⟨S986, hS987, hf988⟩ := hphi984 51 103 _ rfl rfl rfl
                        have e989 : f980 103 = (Value.pointer (some (elA u951 ((k119 : Int)).toNat))) := hf988
                        exact OpX.val (Value.int .i64 x976) wd981 rfl (op_load one_2 e989 (Ext.cell (Ext.trans hE7 hS985.ext) hc991)) (Ext.refl _) ⟨rfl, hr992⟩
                      · refine ObX.op rfl fun f993 wd994 he995 hout996 hphi997 => ?_
                        obtain ⟨S999, hS1000, hf1001⟩ := hphi997 42 94 _ rfl rfl rfl
                        obtain ⟨e1002, hr1003⟩ := hf1001
                        obtain ⟨S1004, hS1005, hf1006⟩ := hphi997 52 104 _ rfl rfl rfl
                        obtain ⟨e1007, hr1008⟩ := hf1006
                        exact OpX.val (Value.int .i64 (w64 ((w64 ((w64 ((w64 (x444 - x568)) + x708)) - x844)) + x976))) wd994 rfl (op_add e1002 e1007) (Ext.refl _) ⟨rfl, (inR_wrap _ _)⟩
                      · refine ObX.op rfl fun f1009 wd1010 he1011 hout1012 hphi1013 => ?_
                        have e1015 : f1009 1 = (Value.pointer (some ⟨b1, 0, none⟩)) := (hout1012 1 rfl).trans e323
                        exact OpX.val (Value.pointer (some ⟨b1, 1, none⟩)) wd1010 rfl (op_fieldAddr fd_29_1 e1015) (Ext.refl _) rfl
                      · refine ObX.op rfl fun f1016 wd1017 he1018 hout1019 hphi1020 => ?_
                        have hS1021 := St.extend hS336 he1018
                        obtain ⟨S1022, hS1023, hf1024⟩ := hphi1020 54 106 _ rfl rfl rfl
                        have e1025 : f1016 106 = (Value.pointer (some ⟨b1, 1, none⟩)) := hf1024
                        exact OpX.val (Value.int .i64 c_Modulus) wd1017 rfl (op_load one_2 e1025 (BoxAt.cell (BoxAt.lift hS1021.ext hx6) rfl)) (Ext.refl _) ⟨rfl, r_c_Modulus⟩
                      · intro f1026 wd1027 Ss1028 he1029 hout1030 hSn1031 hSd1032 hphi1033
                        show WL _ _ _ _ _ _ _
                        have hS1034 := St.extend hS336 he1029
                        obtain ⟨e1035, hr1036⟩ := hphi1033 53 105 _ (by decide) rfl rfl
                        obtain ⟨e1037, hr1038⟩ := hphi1033 55 107 _ (by decide) rfl rfl
                        have e1039 : f1026 1 = (Value.pointer (some ⟨b1, 0, none⟩)) := (hout1030 1 rfl).trans e323
                        have e1040 : f1026 3 = (Value.int .i64 ((c_Values).length : Int)) := (hout1030 3 rfl).trans e324
                        have e1041 : f1026 4 = v_c_Values := (hout1030 4 rfl).trans e325
                        have e1042 : f1026 5 = (Value.int .i64 (k80 : Int)) := (hout1030 5 rfl).trans e326
                        have e1043 : f1026 6 = (Value.int .i64 (k99 : Int)) := (hout1030 6 rfl).trans e327
                        have e1044 : f1026 7 = (Value.int .i64 (k119 : Int)) := (hout1030 7 rfl).trans e328
                        have e1045 : f1026 8 = (Value.int .i64 (k140 : Int)) := (hout1030 8 rfl).trans e329
                        obtain ⟨x1046, hz1047, hb145⟩ := bs hb145
                        obtain ⟨h01048, hz1047⟩ := remI_some hz1047
                        have hr1049 : InR .i64 x1046 := by rw [hz1047]; exact inR_tmod hr1036
                        refine WL.val (Value.int .i64 x1046) _ (by rw [hz1047]; exact op_rem e1035 e1037 h01048) rfl ?_
                        refine WL.val (Value.bool (x1046 != (0 : Int))) _ (op_neq rfl rfl) rfl ?_
                        refine WL.nil ?_
                        refine W.cond (x1046 != (0 : Int)) rfl (fun hc1050 => ?_) (fun hc1050 => ?_)
                        · replace hb145 := ip hb145 hc1050
                          refine W.seq (W.region ?_)
                          refine WL.val (Value.int .i64 (k80 : Int)) _ (op_move e1042) rfl ?_
                          refine WL.val (Value.int .i64 (k99 : Int)) _ (op_move e1043) rfl ?_
                          refine WL.val (Value.int .i64 (k119 : Int)) _ (op_move e1044) rfl ?_
                          refine WL.val (Value.int .i64 (k140 : Int)) _ (op_move e1045) rfl ?_
                          refine WL.litFlat (t := (Ty.i .i64)) (flat_i .i64) [(Value.int .i64 (k80 : Int)), (Value.int .i64 (k99 : Int)), (Value.int .i64 (k119 : Int)), (Value.int .i64 (k140 : Int))] [(k80 : Int), (k99 : Int), (k119 : Int), (k140 : Int)] hS1034 sl_22 rfl rfl (fillL rfl ⟨rfl, rfl, rfl, rfl, rfl, rfl, rfl, rfl, rfl, rfl, rfl, rfl, trivial⟩) rfl rfl (litL ⟨⟨rfl, hr93⟩, ⟨rfl, hr113⟩, ⟨rfl, hr134⟩, ⟨rfl, hr156⟩, trivial⟩) rfl ?_
                          intro u1052 wd1053 hS1054 he1055
                          replace hS1054 : St wd2 wd1053 [(Ty.sl (Ty.i .i64)).at u1052 ([(k80 : Int), (k99 : Int), (k119 : Int), (k140 : Int)] : (List Int))] := hS1054
                          refine WL.val u1052 _ (op_assign rfl) rfl ?_
                          refine WL.nil ?_
                          refine W.ret ?_
                          obtain rfl := Option.some.inj hb145
                          obtain rfl := hret148 _ rfl
                          replace hb124 := onRes_ret hb124
                          obtain rfl := Option.some.inj hb124
                          obtain rfl := hret127 _ rfl
                          replace hb104 := onRes_ret hb104
                          obtain rfl := Option.some.inj hb104
                          obtain rfl := hret107 _ rfl
                          replace hb85 := onRes_ret hb85
                          obtain rfl := Option.some.inj hb85
                          obtain rfl := hret88 _ rfl
                          replace h := onRes_ret h
                          obtain rfl := Option.some.inj h
                          show FinP _ _ _ _ _ _ _
                          exact FinP.ret _ (res1 rfl rfl) ⟨u1052, rfl, (Ext.trans hE7 hS1054.ext), (St.out (St.pick hS1054 [0] rfl) (hE7))⟩
                        · replace hb145 := inegb hb145 hc1050
                          refine W.skip ?_
                          show W _ _ _ _ _ _
                          refine W.region ?_
                          refine WL.val (Value.int .i64 (k140 : Int)) _ (op_move e1045) rfl ?_
                          refine WL.val (Value.int .i64 (w64 ((k140 : Int) + (1 : Int)))) _ (op_add rfl rfl) rfl ?_
                          refine WL.val (Value.int .i64 (w64 ((k140 : Int) + (1 : Int)))) _ (op_assign rfl) rfl ?_
                          refine WL.nil ?_
                          obtain rfl := Option.some.inj hb145
                          show ∃ s, _ = Ctl.next s ∧ _
                          exact ⟨_, rfl, e1039, e1040, e1041, e1042, e1043, e1044, (ctr_next hl158 hr76), (ctr_rng hl158 hr76), hS1034⟩
                  · intro s1061 f1057 wd1058 hs1059 hI1060
                    obtain ⟨⟩ := s1061
                    replace hI1060 : f1057 1 = (Value.pointer (some ⟨b1, 0, none⟩)) ∧ f1057 3 = (Value.int .i64 ((c_Values).length : Int)) ∧ f1057 4 = v_c_Values ∧ f1057 5 = (Value.int .i64 (k80 : Int)) ∧ f1057 6 = (Value.int .i64 (k99 : Int)) ∧ f1057 7 = (Value.int .i64 (k119 : Int)) ∧ f1057 8 = Value.int .i64 (((((c_Values).length : Int)).toNat : Nat) : Int) ∧ InR .i64 (((((c_Values).length : Int)).toNat : Nat) : Int) ∧ St wd2 wd1058 [] := hI1060
                    obtain ⟨hf1062, hf1063, hf1064, hf1065, hf1066, hf1067, hf1068, hr1069, hS1070⟩ := hI1060
                    refine W.seq (W.seq (W.region ?_))
                    refine WL.val (Value.int .i64 (((((c_Values).length : Int)).toNat : Nat) : Int)) _ (op_move hf1068) rfl ?_
                    refine WL.val (Value.int .i64 ((c_Values).length : Int)) _ (op_move hf1063) rfl ?_
                    refine WL.val (Value.bool (decide ((((((c_Values).length : Int)).toNat : Nat) : Int) < ((c_Values).length : Int)))) _ (op_lss rfl rfl) rfl ?_
                    have hl1071 : ¬ (((((c_Values).length : Int)).toNat : Nat) : Int) < ((c_Values).length : Int) := by omega
                    refine WL.nil ?_
                    refine W.condF (decide ((((((c_Values).length : Int)).toNat : Nat) : Int) < ((c_Values).length : Int))) rfl (decide_eq_false hl1071) ?_
                    refine W.exit ?_
                    show _ = _ ∧ _
                    exact ⟨rfl, _, hs1059, hf1062, hf1063, hf1064, hf1065, hf1066, hf1067, hS1070⟩
                · rintro f1072 wd1073 ⟨s1075, rfl, hq1074⟩
                  replace hb124 := onRes_fin hb124
                  obtain ⟨⟩ := s1075
                  replace hq1074 : f1072 1 = (Value.pointer (some ⟨b1, 0, none⟩)) ∧ f1072 3 = (Value.int .i64 ((c_Values).length : Int)) ∧ f1072 4 = v_c_Values ∧ f1072 5 = (Value.int .i64 (k80 : Int)) ∧ f1072 6 = (Value.int .i64 (k99 : Int)) ∧ f1072 7 = (Value.int .i64 (k119 : Int)) ∧ St wd2 wd1073 [] := hq1074
                  obtain ⟨hf1076, hf1077, hf1078, hf1079, hf1080, hf1081, hS1082⟩ := hq1074
                  show W _ _ _ _ _ _
                  refine W.region ?_
                  refine WL.val (Value.int .i64 (k119 : Int)) _ (op_move hf1081) rfl ?_
                  refine WL.val (Value.int .i64 (w64 ((k119 : Int) + (1 : Int)))) _ (op_add rfl rfl) rfl ?_
                  refine WL.val (Value.int .i64 (w64 ((k119 : Int) + (1 : Int)))) _ (op_assign rfl) rfl ?_
                  refine WL.nil ?_
                  obtain rfl := Option.some.inj hb124
                  show ∃ s, _ = Ctl.next s ∧ _
                  exact ⟨_, rfl, hf1076, hf1077, hf1078, hf1079, hf1080, (ctr_next hl136 hr76), (ctr_rng hl136 hr76), hS1082⟩
              · intro s1089 f1085 wd1086 hs1087 hI1088
                obtain ⟨⟩ := s1089
                replace hI1088 : f1085 1 = (Value.pointer (some ⟨b1, 0, none⟩)) ∧ f1085 3 = (Value.int .i64 ((c_Values).length : Int)) ∧ f1085 4 = v_c_Values ∧ f1085 5 = (Value.int .i64 (k80 : Int)) ∧ f1085 6 = (Value.int .i64 (k99 : Int)) ∧ f1085 7 = Value.int .i64 (((((c_Values).length : Int)).toNat : Nat) : Int) ∧ InR .i64 (((((c_Values).length : Int)).toNat : Nat) : Int) ∧ St wd2 wd1086 [] := hI1088
                obtain ⟨hf1090, hf1091, hf1092, hf1093, hf1094, hf1095, hr1096, hS1097⟩ := hI1088
                refine W.seq (W.seq (W.region ?_))
                refine WL.val (Value.int .i64 (((((c_Values).length : Int)).toNat : Nat) : Int)) _ (op_move hf1095) rfl ?_
                refine WL.val (Value.int .i64 ((c_Values).length : Int)) _ (op_move hf1091) rfl ?_
                refine WL.val (Value.bool (decide ((((((c_Values).length : Int)).toNat : Nat) : Int) < ((c_Values).length : Int)))) _ (op_lss rfl rfl) rfl ?_
                have hl1098 : ¬ (((((c_Values).length : Int)).toNat : Nat) : Int) < ((c_Values).length : Int) := by omega
                refine WL.nil ?_
                refine W.condF (decide ((((((c_Values).length : Int)).toNat : Nat) : Int) < ((c_Values).length : Int))) rfl (decide_eq_false hl1098) ?_
                refine W.exit ?_
                show _ = _ ∧ _
                exact ⟨rfl, _, hs1087, hf1090, hf1091, hf1092, hf1093, hf1094, hS1097⟩
            · rintro f1099 wd1100 ⟨s1102, rfl, hq1101⟩
              replace hb104 := onRes_fin hb104
              obtain ⟨⟩ := s1102
              replace hq1101 : f1099 1 = (Value.pointer (some ⟨b1, 0, none⟩)) ∧ f1099 3 = (Value.int .i64 ((c_Values).length : Int)) ∧ f1099 4 = v_c_Values ∧ f1099 5 = (Value.int .i64 (k80 : Int)) ∧ f1099 6 = (Value.int .i64 (k99 : Int)) ∧ St wd2 wd1100 [] := hq1101
              obtain ⟨hf1103, hf1104, hf1105, hf1106, hf1107, hS1108⟩ := hq1101
              show W _ _ _ _ _ _
              refine W.region ?_
              refine WL.val (Value.int .i64 (k99 : Int)) _ (op_move hf1107) rfl ?_
              refine WL.val (Value.int .i64 (w64 ((k99 : Int) + (1 : Int)))) _ (op_add rfl rfl) rfl ?_
              refine WL.val (Value.int .i64 (w64 ((k99 : Int) + (1 : Int)))) _ (op_assign rfl) rfl ?_
              refine WL.nil ?_
              obtain rfl := Option.some.inj hb104
              show ∃ s, _ = Ctl.next s ∧ _
              exact ⟨_, rfl, hf1103, hf1104, hf1105, hf1106, (ctr_next hl115 hr76), (ctr_rng hl115 hr76), hS1108⟩
          · intro s1115 f1111 wd1112 hs1113 hI1114
            obtain ⟨⟩ := s1115
            replace hI1114 : f1111 1 = (Value.pointer (some ⟨b1, 0, none⟩)) ∧ f1111 3 = (Value.int .i64 ((c_Values).length : Int)) ∧ f1111 4 = v_c_Values ∧ f1111 5 = (Value.int .i64 (k80 : Int)) ∧ f1111 6 = Value.int .i64 (((((c_Values).length : Int)).toNat : Nat) : Int) ∧ InR .i64 (((((c_Values).length : Int)).toNat : Nat) : Int) ∧ St wd2 wd1112 [] := hI1114
            obtain ⟨hf1116, hf1117, hf1118, hf1119, hf1120, hr1121, hS1122⟩ := hI1114
            refine W.seq (W.seq (W.region ?_))
            refine WL.val (Value.int .i64 (((((c_Values).length : Int)).toNat : Nat) : Int)) _ (op_move hf1120) rfl ?_
            refine WL.val (Value.int .i64 ((c_Values).length : Int)) _ (op_move hf1117) rfl ?_
            refine WL.val (Value.bool (decide ((((((c_Values).length : Int)).toNat : Nat) : Int) < ((c_Values).length : Int)))) _ (op_lss rfl rfl) rfl ?_
            have hl1123 : ¬ (((((c_Values).length : Int)).toNat : Nat) : Int) < ((c_Values).length : Int) := by omega
            refine WL.nil ?_
            refine W.condF (decide ((((((c_Values).length : Int)).toNat : Nat) : Int) < ((c_Values).length : Int))) rfl (decide_eq_false hl1123) ?_
            refine W.exit ?_
            show _ = _ ∧ _
            exact ⟨rfl, _, hs1113, hf1116, hf1117, hf1118, hf1119, hS1122⟩
        · rintro f1124 wd1125 ⟨s1127, rfl, hq1126⟩
          replace hb85 := onRes_fin hb85
          obtain ⟨⟩ := s1127
          replace hq1126 : f1124 1 = (Value.pointer (some ⟨b1, 0, none⟩)) ∧ f1124 3 = (Value.int .i64 ((c_Values).length : Int)) ∧ f1124 4 = v_c_Values ∧ f1124 5 = (Value.int .i64 (k80 : Int)) ∧ St wd2 wd1125 [] := hq1126
          obtain ⟨hf1128, hf1129, hf1130, hf1131, hS1132⟩ := hq1126
          show W _ _ _ _ _ _
          refine W.region ?_
          refine WL.val (Value.int .i64 (k80 : Int)) _ (op_move hf1131) rfl ?_
          refine WL.val (Value.int .i64 (w64 ((k80 : Int) + (1 : Int)))) _ (op_add rfl rfl) rfl ?_
          refine WL.val (Value.int .i64 (w64 ((k80 : Int) + (1 : Int)))) _ (op_assign rfl) rfl ?_
          refine WL.nil ?_
          obtain rfl := Option.some.inj hb85
          show ∃ s, _ = Ctl.next s ∧ _
          exact ⟨_, rfl, hf1128, hf1129, hf1130, (ctr_next hl95 hr76), (ctr_rng hl95 hr76), hS1132⟩
      · intro s1139 f1135 wd1136 hs1137 hI1138
        obtain ⟨⟩ := s1139
        replace hI1138 : f1135 1 = (Value.pointer (some ⟨b1, 0, none⟩)) ∧ f1135 3 = (Value.int .i64 ((c_Values).length : Int)) ∧ f1135 4 = v_c_Values ∧ f1135 5 = Value.int .i64 (((((c_Values).length : Int)).toNat : Nat) : Int) ∧ InR .i64 (((((c_Values).length : Int)).toNat : Nat) : Int) ∧ St wd2 wd1136 [] := hI1138
        obtain ⟨hf1140, hf1141, hf1142, hf1143, hr1144, hS1145⟩ := hI1138
        refine W.seq (W.seq (W.region ?_))
        refine WL.val (Value.int .i64 (((((c_Values).length : Int)).toNat : Nat) : Int)) _ (op_move hf1143) rfl ?_
        refine WL.val (Value.int .i64 ((c_Values).length : Int)) _ (op_move hf1141) rfl ?_
        refine WL.val (Value.bool (decide ((((((c_Values).length : Int)).toNat : Nat) : Int) < ((c_Values).length : Int)))) _ (op_lss rfl rfl) rfl ?_
        have hl1146 : ¬ (((((c_Values).length : Int)).toNat : Nat) : Int) < ((c_Values).length : Int) := by omega
        refine WL.nil ?_
        refine W.condF (decide ((((((c_Values).length : Int)).toNat : Nat) : Int) < ((c_Values).length : Int))) rfl (decide_eq_false hl1146) ?_
        refine W.exit ?_
        show _ = _ ∧ _
        exact ⟨rfl, _, hs1137, hS1145⟩
    · rintro f1147 wd1148 ⟨s1150, rfl, hq1149⟩
      replace h := onRes_fin h
      obtain ⟨⟩ := s1150
      replace hq1149 : St wd2 wd1148 [] := hq1149
      have hS1151 := hq1149
      refine W.seq (W.region ?_)
      refine WL.val (Value.slice none 0 0) _ (op_assign rfl) rfl ?_
      refine WL.nil ?_
      refine W.ret ?_
      obtain rfl := Option.some.inj h
      show FinP _ _ _ _ _ _ _
      exact FinP.ret _ (res1 rfl rfl) ⟨(Value.slice none 0 0), rfl, (Ext.trans hE7 hS1151.ext), (St.out (St.pick (St.addNil (Ty.i .i64) hS1151) [0] rfl) (hE7))⟩

theorem c_spec_l17Is {w : World} {c_Orders : (List Int)} {v_c_Orders : Value} {c_Modulus : Int} {c_Values : (List (List (List Int)))} {v_c_Values : Value} (r_c_Orders : (Ty.sl (Ty.i .i64)).rep w v_c_Orders c_Orders) (r_c_Modulus : InR .i64 c_Modulus) (r_c_Values : (Ty.sl (Ty.sl (Ty.sl (Ty.i .i64)))).rep w v_c_Values c_Values) {res : Bool} (h : p_spec_l17Is c_Orders c_Modulus c_Values  = some res) :
    Ret Try.prog 11 #[(Value.agg #[v_c_Orders, (Value.int .i64 c_Modulus), v_c_Values])] w (fun v w' => v = Value.bool res ∧ Ext w w') := by
  unfold p_spec_l17Is at h
  have hS0 : St w w [] := St.start w
  refine Ret.start (fn := Try.f11) Try.func11 rfl 15 rfl rfl ?_
  refine W.seq (W.region ?_)
  refine WL.box hS0 rfl (cs := [v_c_Orders, (Value.int .i64 c_Modulus), v_c_Values]) rfl rfl ?_
  intro b1 wd2 hS3 he4 hx5
  replace hS3 : St w wd2 [bx b1 [v_c_Orders, (Value.int .i64 c_Modulus), v_c_Values]] := hS3
  have hx6 := St.boxAt hS3 0 rfl
  have hE7 : Ext w wd2 := hS3.ext
  have hS8 : St wd2 wd2 [] := St.start wd2
  refine WL.val (Value.bool false) _ (op_assign rfl) rfl ?_
  refine WL.nil ?_
  refine W.seq (W.region ?_)
  refine WL.val (Value.agg #[v_c_Orders, (Value.int .i64 c_Modulus), v_c_Values]) _ (op_loadBox st_29 rfl (BoxAt.lift hS8.ext hx6) rfl rfl) rfl ?_
  obtain ⟨x9, hx10, h⟩ := bs h
  refine WL.call _ (op_call fn_26 (args1 rfl)) (c_spec_l17Shape (Ty.lift _ (Ext.trans hE7 hS8.ext) r_c_Orders) r_c_Modulus (Ty.lift _ (Ext.trans hE7 hS8.ext) r_c_Values) hx10) rfl ?_
  rintro _ wd11 ⟨rfl, he12⟩
  have hS14 := St.extend hS8 he12
  replace hS14 : St wd2 wd11 [] := hS14
  refine WL.val (Value.bool x9) _ (op_move rfl) rfl ?_
  obtain ⟨x16, hj17, h⟩ := bs h
  refine WL.cut 3 (fun fq wq => fq 1 = (Value.pointer (some ⟨b1, 0, none⟩)) ∧ fq 8 = Value.bool x16 ∧ St wd2 wq []) ?_ ?_
  · rcases Bool.eq_false_or_eq_true x9 with hc15 | hc15
    · replace hj17 := ip hj17 hc15
      refine WL.grun rfl (bool_of rfl hc15) ?_
      refine WL.val (Value.agg #[v_c_Orders, (Value.int .i64 c_Modulus), v_c_Values]) _ (op_loadBox st_29 rfl (BoxAt.lift hS14.ext hx6) rfl rfl) rfl ?_
      refine WL.grun rfl (bool_of rfl hc15) ?_
      obtain ⟨x21, hx22, hj17⟩ := bs hj17
      refine WL.call _ (op_call fn_27 (args1 rfl)) (c_spec_l17Normal (Ty.lift _ (Ext.trans hE7 hS14.ext) r_c_Orders) r_c_Modulus (Ty.lift _ (Ext.trans hE7 hS14.ext) r_c_Values) hx22) rfl ?_
      rintro _ wd23 ⟨rfl, he24⟩
      have hS26 := St.extend hS14 he24
      replace hS26 : St wd2 wd23 [] := hS26
      refine WL.val (Value.bool x21) _ (op_pick_t (evb_of rfl hc15) rfl) rfl ?_
      refine WL.nil ?_
      obtain rfl := Option.some.inj hj17
      exact ⟨rfl, rfl, rfl, hS26⟩
    · replace hj17 := inegb hj17 hc15
      refine WL.gskip rfl (bool_of rfl hc15) rfl ?_
      refine WL.gskip rfl (bool_of rfl hc15) rfl ?_
      refine WL.val (Value.bool false) _ (op_pick_f (evb_of rfl hc15) rfl) rfl ?_
      refine WL.nil ?_
      obtain rfl := Option.some.inj hj17
      exact ⟨rfl, rfl, rfl, hS14⟩
  · intro f18 wd19 hq20
    obtain ⟨hf27, hf28, hS29⟩ := hq20
    refine WL.val (Value.bool x16) _ (op_move hf28) rfl ?_
    obtain ⟨x31, hj32, h⟩ := bs h
    refine WL.cut 5 (fun fq wq => fq 14 = Value.bool x31 ∧ St wd2 wq []) ?_ ?_
    · rcases Bool.eq_false_or_eq_true x16 with hc30 | hc30
      · replace hj32 := ip hj32 hc30
        refine WL.grun rfl (bool_of rfl hc30) ?_
        refine WL.val (Value.agg #[v_c_Orders, (Value.int .i64 c_Modulus), v_c_Values]) _ (op_loadBox st_29 hf27 (BoxAt.lift hS29.ext hx6) rfl rfl) rfl ?_
        refine WL.grun rfl (bool_of rfl hc30) ?_
        obtain ⟨x36, hx37, hj32⟩ := bs hj32
        refine WL.call _ (op_call fn_28 (args1 rfl)) (c_spec_l17Fault (Ty.lift _ (Ext.trans hE7 hS29.ext) r_c_Orders) r_c_Modulus (Ty.lift _ (Ext.trans hE7 hS29.ext) r_c_Values) hx37) rfl ?_
        rintro u38 wd39 ⟨_, rfl, he40, hs41⟩
        have hS42 := St.join hS29 he40 hs41
        replace hS42 : St wd2 wd39 [(Ty.sl (Ty.i .i64)).at u38 x36] := hS42
        refine WL.grun rfl (bool_of rfl hc30) ?_
        have hr43 := inR_len (St.rep (t := (Ty.sl (Ty.i .i64))) hS42 0 rfl)
        refine WL.val (Value.int .i64 ((x36).length : Int)) _ (op_lenL sl_22 (St.rep (t := (Ty.sl (Ty.i .i64))) hS42 0 rfl) rfl) rfl ?_
        refine WL.grun rfl (bool_of rfl hc30) ?_
        refine WL.val (Value.bool (((x36).length : Int) == (0 : Int))) _ (op_eql rfl rfl) rfl ?_
        refine WL.val (Value.bool (((x36).length : Int) == (0 : Int))) _ (op_pick_t (evb_of rfl hc30) rfl) rfl ?_
        refine WL.nil ?_
        obtain rfl := Option.some.inj hj32
        exact ⟨rfl, rfl, (St.pick hS42 [] rfl)⟩
      · replace hj32 := inegb hj32 hc30
        refine WL.gskip rfl (bool_of rfl hc30) rfl ?_
        refine WL.gskip rfl (bool_of rfl hc30) rfl ?_
        refine WL.gskip rfl (bool_of rfl hc30) rfl ?_
        refine WL.gskip rfl (bool_of rfl hc30) rfl ?_
        refine WL.val (Value.bool false) _ (op_pick_f (evb_of rfl hc30) rfl) rfl ?_
        refine WL.nil ?_
        obtain rfl := Option.some.inj hj32
        exact ⟨rfl, rfl, hS29⟩
    · intro f33 wd34 hq35
      obtain ⟨hf44, hS45⟩ := hq35
      refine WL.val (Value.bool x31) _ (op_assign hf44) rfl ?_
      refine WL.nil ?_
      refine W.ret ?_
      obtain rfl := Option.some.inj h
      show FinP _ _ _ _ _ _ _
      exact FinP.ret _ (res1 rfl rfl) ⟨rfl, (Ext.trans hE7 hS45.ext)⟩

theorem c_spec_l17Prime {w : World} {p : Int} (r_p : InR .i64 p) {res : Bool} (h : p_spec_l17Prime p  = some res) :
    Ret Try.prog 12 #[(Value.int .i64 p)] w (fun v w' => v = Value.bool res ∧ Ext w w') := by
  unfold p_spec_l17Prime at h
  have hS0 : St w w [] := St.start w
  refine Ret.start (fn := Try.f12) Try.func12 rfl 17 rfl rfl ?_
  refine W.seq (W.region ?_)
  refine WL.val (Value.bool false) _ (op_assign rfl) rfl ?_
  refine WL.nil ?_
  refine W.seq (W.region ?_)
  refine WL.val (Value.int .i64 p) _ (op_move rfl) rfl ?_
  refine WL.val (Value.bool (p == (2 : Int))) _ (op_eql rfl rfl) rfl ?_
  refine WL.val (Value.bool (p == (2 : Int))) _ (op_move rfl) rfl ?_
  refine WL.cut 3 (fun fq wq => fq 0 = (Value.int .i64 p) ∧ fq 8 = (Value.bool ((p == (2 : Int)) || (p == (3 : Int)))) ∧ St w wq []) ?_ ?_
  · rcases Bool.eq_false_or_eq_true (p == (2 : Int)) with hc1 | hc1
    · refine WL.gskip rfl (bool_of rfl hc1) rfl ?_
      refine WL.gskip rfl (bool_of rfl hc1) rfl ?_
      refine WL.val (Value.bool true) _ (op_pick_t (evb_of rfl hc1) rfl) rfl ?_
      refine WL.nil ?_
      exact ⟨rfl, rfl, (orT hc1), hS0⟩
    · refine WL.grun rfl (bool_of rfl hc1) ?_
      refine WL.val (Value.int .i64 p) _ (op_move rfl) rfl ?_
      refine WL.grun rfl (bool_of rfl hc1) ?_
      refine WL.val (Value.bool (p == (3 : Int))) _ (op_eql rfl rfl) rfl ?_
      refine WL.val (Value.bool (p == (3 : Int))) _ (op_pick_f (evb_of rfl hc1) rfl) rfl ?_
      refine WL.nil ?_
      exact ⟨rfl, rfl, (orF hc1), hS0⟩
  · intro f2 wd3 hq4
    obtain ⟨hf5, hf6, hS7⟩ := hq4
    refine WL.val (Value.bool ((p == (2 : Int)) || (p == (3 : Int)))) _ (op_move hf6) rfl ?_
    refine WL.cut 3 (fun fq wq => fq 0 = (Value.int .i64 p) ∧ fq 12 = (Value.bool (((p == (2 : Int)) || (p == (3 : Int))) || (p == (5 : Int)))) ∧ St w wq []) ?_ ?_
    · rcases Bool.eq_false_or_eq_true ((p == (2 : Int)) || (p == (3 : Int))) with hc8 | hc8
      · refine WL.gskip rfl (bool_of rfl hc8) rfl ?_
        refine WL.gskip rfl (bool_of rfl hc8) rfl ?_
        refine WL.val (Value.bool true) _ (op_pick_t (evb_of rfl hc8) rfl) rfl ?_
        refine WL.nil ?_
        exact ⟨rfl, hf5, (orT hc8), hS7⟩
      · refine WL.grun rfl (bool_of rfl hc8) ?_
        refine WL.val (Value.int .i64 p) _ (op_move hf5) rfl ?_
        refine WL.grun rfl (bool_of rfl hc8) ?_
        refine WL.val (Value.bool (p == (5 : Int))) _ (op_eql rfl rfl) rfl ?_
        refine WL.val (Value.bool (p == (5 : Int))) _ (op_pick_f (evb_of rfl hc8) rfl) rfl ?_
        refine WL.nil ?_
        exact ⟨rfl, hf5, (orF hc8), hS7⟩
    · intro f9 wd10 hq11
      obtain ⟨hf12, hf13, hS14⟩ := hq11
      refine WL.val (Value.bool (((p == (2 : Int)) || (p == (3 : Int))) || (p == (5 : Int)))) _ (op_move hf13) rfl ?_
      refine WL.cut 3 (fun fq wq => fq 16 = (Value.bool ((((p == (2 : Int)) || (p == (3 : Int))) || (p == (5 : Int))) || (p == (7 : Int)))) ∧ St w wq []) ?_ ?_
      · rcases Bool.eq_false_or_eq_true (((p == (2 : Int)) || (p == (3 : Int))) || (p == (5 : Int))) with hc15 | hc15
        · refine WL.gskip rfl (bool_of rfl hc15) rfl ?_
          refine WL.gskip rfl (bool_of rfl hc15) rfl ?_
          refine WL.val (Value.bool true) _ (op_pick_t (evb_of rfl hc15) rfl) rfl ?_
          refine WL.nil ?_
          exact ⟨rfl, (orT hc15), hS14⟩
        · refine WL.grun rfl (bool_of rfl hc15) ?_
          refine WL.val (Value.int .i64 p) _ (op_move hf12) rfl ?_
          refine WL.grun rfl (bool_of rfl hc15) ?_
          refine WL.val (Value.bool (p == (7 : Int))) _ (op_eql rfl rfl) rfl ?_
          refine WL.val (Value.bool (p == (7 : Int))) _ (op_pick_f (evb_of rfl hc15) rfl) rfl ?_
          refine WL.nil ?_
          exact ⟨rfl, (orF hc15), hS14⟩
      · intro f16 wd17 hq18
        obtain ⟨hf19, hS20⟩ := hq18
        refine WL.val (Value.bool ((((p == (2 : Int)) || (p == (3 : Int))) || (p == (5 : Int))) || (p == (7 : Int)))) _ (op_assign hf19) rfl ?_
        refine WL.nil ?_
        refine W.ret ?_
        obtain rfl := Option.some.inj h
        show FinP _ _ _ _ _ _ _
        exact FinP.ret _ (res1 rfl rfl) ⟨rfl, hS20.ext⟩

theorem c_spec_l01Own {w : World} {list : (List Int)} {v_list : Value} (r_list : (Ty.sl (Ty.i .i64)).rep w v_list list) {res : (List Int)} (h : p_spec_l01Own list  = some res) :
    Ret Try.prog 31 #[v_list] w (fun v w' => ∃ (u0 : Value), v = u0 ∧ Ext w w' ∧ Sep w.heap.size w' [(Ty.sl (Ty.i .i64)).at u0 res]) := by
  unfold p_spec_l01Own at h
  have hS0 : St w w [] := St.start w
  refine Ret.start (fn := Try.f31) Try.func31 rfl 6 rfl rfl ?_
  refine W.seq (W.region ?_)
  refine WL.val (Value.slice none 0 0) _ (op_assign rfl) rfl ?_
  refine WL.nil ?_
  refine W.seq (W.region ?_)
  refine WL.lit0 (t := (Ty.i .i64)) hS0 sl_22 rfl rfl ?_
  intro u1 wd2 hS3 he4
  replace hS3 : St w wd2 [(Ty.sl (Ty.i .i64)).at u1 ([] : (List Int))] := hS3
  refine WL.val v_list _ (op_move rfl) rfl ?_
  obtain ⟨x5, hx6, h⟩ := bs h
  refine WL.append (flat_i .i64) hS3 (k := 0) rfl sl_22 rfl rfl rfl rfl (Ty.lift _ hS3.ext r_list) hx6 rfl ?_
  intro u7 wd8 hS9 hz10
  replace hS9 : St w wd8 [(Ty.sl (Ty.i .i64)).at u7 x5] := hS9
  refine WL.val u7 _ (op_assign rfl) rfl ?_
  refine WL.nil ?_
  refine W.ret ?_
  obtain rfl := Option.some.inj h
  show FinP _ _ _ _ _ _ _
  exact FinP.ret _ (res1 rfl rfl) ⟨u7, rfl, hS9.ext, (St.out (St.pick hS9 [0] rfl) (Ext.refl _))⟩

theorem c_spec_l06Empty {w : World} {n : Int} (r_n : InR .i64 n) {res : (List (List (List Int)))} (h : p_spec_l06Empty n  = some res) :
    Ret Try.prog 49 #[(Value.int .i64 n)] w (fun v w' => ∃ (u0 : Value), v = u0 ∧ Ext w w' ∧ Sep w.heap.size w' [(Ty.sl (Ty.sl (Ty.sl (Ty.i .i64)))).at u0 res]) := by
  unfold p_spec_l06Empty at h
  have hS0 : St w w [] := St.start w
  refine Ret.start (fn := Try.f49) Try.func49 rfl 29 rfl rfl ?_
  refine W.seq (W.region ?_)
  refine WL.val (Value.slice none 0 0) _ (op_assign rfl) rfl ?_
  refine WL.nil ?_
  refine W.seq (W.region ?_)
  refine WL.lit0 (t := (Ty.sl (Ty.sl (Ty.i .i64)))) hS0 sl_23 rfl rfl ?_
  intro u1 wd2 hS3 he4
  replace hS3 : St w wd2 [(Ty.sl (Ty.sl (Ty.sl (Ty.i .i64)))).at u1 ([] : (List (List (List Int))))] := hS3
  refine WL.val u1 _ (op_assign rfl) rfl ?_
  refine WL.nil ?_
  refine W.seq (W.seq (W.region ?_))
  refine WL.val (Value.int .i64 (0 : Int)) _ (op_assign rfl) rfl ?_
  refine WL.nil ?_
  show W _ _ _ _ _ _
  obtain ⟨res5, hres6, h⟩ := bs h
  refine W.blockLoop (fun fq wq => ∃ s, res5 = Res.fin s ∧ ∃ (uu0 : Value), fq 3 = uu0 ∧ St w wq [(Ty.sl (Ty.sl (Ty.sl (Ty.i .i64)))).at uu0 s]) ?_ ?_
  · refine W.forN (fun k (s : (List (List (List Int)))) fq wq => ∃ (uu0 : Value), fq 0 = (Value.int .i64 n) ∧ fq 3 = uu0 ∧ fq 4 = Value.int .i64 (k : Int) ∧ InR .i64 (k : Int) ∧ St w wq [(Ty.sl (Ty.sl (Ty.sl (Ty.i .i64)))).at uu0 s]) hres6 ⟨u1, rfl, rfl, rfl, (inL rfl), hS3⟩ ?_ ?_
    · intro k7 x8 ct9 f10 wd11 hk12 hb13 hI14 hbrk15 hret16
      replace hI14 : ∃ (uu0 : Value), f10 0 = (Value.int .i64 n) ∧ f10 3 = uu0 ∧ f10 4 = Value.int .i64 (k7 : Int) ∧ InR .i64 (k7 : Int) ∧ St w wd11 [(Ty.sl (Ty.sl (Ty.sl (Ty.i .i64)))).at uu0 x8] := hI14
      replace hb13 : p_spec_l06Empty_L1 n k7 x8 = some ct9 := hb13
      unfold p_spec_l06Empty_L1 at hb13
      obtain ⟨u17, hf18, hf19, hf20, hr21, hS22⟩ := hI14
      refine W.seq (W.seq (W.region ?_))
      refine WL.val (Value.int .i64 (k7 : Int)) _ (op_move hf20) rfl ?_
      refine WL.val (Value.int .i64 n) _ (op_move hf18) rfl ?_
      refine WL.val (Value.bool (decide ((k7 : Int) < n))) _ (op_lss rfl rfl) rfl ?_
      have hl23 : (k7 : Int) < n := by omega
      refine WL.nil ?_
      refine W.condT (decide ((k7 : Int) < n)) rfl (decide_eq_true hl23) ?_
      refine W.skip ?_
      refine W.seq ?_
      refine W.block ?_
      refine W.seq (W.region ?_)
      refine WL.lit0 (t := (Ty.sl (Ty.i .i64))) hS22 sl_37 rfl rfl ?_
      intro u25 wd26 hS27 he28
      replace hS27 : St w wd26 [(Ty.sl (Ty.sl (Ty.sl (Ty.i .i64)))).at u17 x8, (Ty.sl (Ty.sl (Ty.i .i64))).at u25 ([] : (List (List Int)))] := hS27
      refine WL.val u25 _ (op_assign rfl) rfl ?_
      refine WL.nil ?_
      refine W.seq (W.seq (W.region ?_))
      refine WL.val (Value.int .i64 (0 : Int)) _ (op_assign rfl) rfl ?_
      refine WL.nil ?_
      show W _ _ _ _ _ _
      obtain ⟨res29, hres30, hb13⟩ := bs hb13
      refine W.blockLoop (fun fq wq => ∃ s, res29 = Res.fin s ∧ ∃ (uu0 : Value), fq 0 = (Value.int .i64 n) ∧ fq 3 = u17 ∧ fq 4 = (Value.int .i64 (k7 : Int)) ∧ fq 5 = uu0 ∧ St w wq [(Ty.sl (Ty.sl (Ty.sl (Ty.i .i64)))).at u17 x8, (Ty.sl (Ty.sl (Ty.i .i64))).at uu0 s]) ?_ ?_
      · refine W.forN (fun k (s : (List (List Int))) fq wq => ∃ (uu0 : Value), fq 0 = (Value.int .i64 n) ∧ fq 3 = u17 ∧ fq 4 = (Value.int .i64 (k7 : Int)) ∧ fq 5 = uu0 ∧ fq 6 = Value.int .i64 (k : Int) ∧ InR .i64 (k : Int) ∧ St w wq [(Ty.sl (Ty.sl (Ty.sl (Ty.i .i64)))).at u17 x8, (Ty.sl (Ty.sl (Ty.i .i64))).at uu0 s]) hres30 ⟨u25, hf18, hf19, hf20, rfl, rfl, (inL rfl), hS27⟩ ?_ ?_
        · intro k31 x32 ct33 f34 wd35 hk36 hb37 hI38 hbrk39 hret40
          replace hI38 : ∃ (uu0 : Value), f34 0 = (Value.int .i64 n) ∧ f34 3 = u17 ∧ f34 4 = (Value.int .i64 (k7 : Int)) ∧ f34 5 = uu0 ∧ f34 6 = Value.int .i64 (k31 : Int) ∧ InR .i64 (k31 : Int) ∧ St w wd35 [(Ty.sl (Ty.sl (Ty.sl (Ty.i .i64)))).at u17 x8, (Ty.sl (Ty.sl (Ty.i .i64))).at uu0 x32] := hI38
          replace hb37 : p_spec_l06Empty_L2 n k31 x32 = some ct33 := hb37
          unfold p_spec_l06Empty_L2 at hb37
          obtain ⟨u41, hf42, hf43, hf44, hf45, hf46, hr47, hS48⟩ := hI38
          refine W.seq (W.seq (W.region ?_))
          refine WL.val (Value.int .i64 (k31 : Int)) _ (op_move hf46) rfl ?_
          refine WL.val (Value.int .i64 n) _ (op_move hf42) rfl ?_
          refine WL.val (Value.bool (decide ((k31 : Int) < n))) _ (op_lss rfl rfl) rfl ?_
          have hl49 : (k31 : Int) < n := by omega
          refine WL.nil ?_
          refine W.condT (decide ((k31 : Int) < n)) rfl (decide_eq_true hl49) ?_
          refine W.skip ?_
          refine W.seq ?_
          refine W.block ?_
          refine W.region ?_
          refine WL.val u41 _ (op_move hf45) rfl ?_
          refine WL.val (Value.int .i64 n) _ (op_move hf42) rfl ?_
          obtain ⟨x51, hx52, hb37⟩ := bs hb37
          refine WL.make (t := (Ty.i .i64)) hS48 sl_22 (fun _ _ => ⟨rfl, (inL rfl)⟩) rfl rfl hx52 rfl rfl ?_
          intro u53 wd54 hS55 he56
          replace hS55 : St w wd54 [(Ty.sl (Ty.sl (Ty.sl (Ty.i .i64)))).at u17 x8, (Ty.sl (Ty.sl (Ty.i .i64))).at u41 x32, (Ty.sl (Ty.i .i64)).at u53 x51] := hS55
          refine WL.lit [u53] hS55 sl_37 rfl rfl (fillL rfl ⟨rfl, rfl, (cells_rep (St.rep (t := (Ty.sl (Ty.i .i64))) hS55 2 rfl)), trivial⟩) rfl rfl ?_
          intro b61 wd58 hS59 he60 hx62
          replace hS59 : St w wd58 [(Ty.sl (Ty.sl (Ty.sl (Ty.i .i64)))).at u17 x8, (Ty.sl (Ty.sl (Ty.i .i64))).at u41 x32, (Ty.sl (Ty.i .i64)).at u53 x51, bx b61 [u53]] := hS59
          obtain ⟨x63, hx64, hb37⟩ := bs hb37
          refine WL.appendRow hS59 (k := 1) (k2 := 2) (k3 := 3) rfl rfl rfl rfl sl_37 rfl rfl rfl rfl hx64 rfl ?_
          intro u65 wd66 hS67 hz68
          replace hS67 : St w wd66 [(Ty.sl (Ty.sl (Ty.sl (Ty.i .i64)))).at u17 x8, (Ty.sl (Ty.sl (Ty.i .i64))).at u65 x63, emp, bx b61 [u53]] := hS67
          refine WL.val u65 _ (op_assign rfl) rfl ?_
          refine WL.nil ?_
          show W _ _ _ _ _ _
          refine W.region ?_
          refine WL.val (Value.int .i64 (k31 : Int)) _ (op_move hf46) rfl ?_
          refine WL.val (Value.int .i64 (w64 ((k31 : Int) + (1 : Int)))) _ (op_add rfl rfl) rfl ?_
          refine WL.val (Value.int .i64 (w64 ((k31 : Int) + (1 : Int)))) _ (op_assign rfl) rfl ?_
          refine WL.nil ?_
          obtain rfl := Option.some.inj hb37
          show ∃ s, _ = Ctl.next s ∧ _
          exact ⟨_, rfl, u65, hf42, hf43, hf44, rfl, (ctr_next hl49 r_n), (ctr_rng hl49 r_n), (St.pick hS67 [0, 1] rfl)⟩
        · intro x75 f70 wd71 hs72 hI73
          replace hI73 : ∃ (uu0 : Value), f70 0 = (Value.int .i64 n) ∧ f70 3 = u17 ∧ f70 4 = (Value.int .i64 (k7 : Int)) ∧ f70 5 = uu0 ∧ f70 6 = Value.int .i64 (((n).toNat : Nat) : Int) ∧ InR .i64 (((n).toNat : Nat) : Int) ∧ St w wd71 [(Ty.sl (Ty.sl (Ty.sl (Ty.i .i64)))).at u17 x8, (Ty.sl (Ty.sl (Ty.i .i64))).at uu0 x75] := hI73
          obtain ⟨u76, hf77, hf78, hf79, hf80, hf81, hr82, hS83⟩ := hI73
          refine W.seq (W.seq (W.region ?_))
          refine WL.val (Value.int .i64 (((n).toNat : Nat) : Int)) _ (op_move hf81) rfl ?_
          refine WL.val (Value.int .i64 n) _ (op_move hf77) rfl ?_
          refine WL.val (Value.bool (decide ((((n).toNat : Nat) : Int) < n))) _ (op_lss rfl rfl) rfl ?_
          have hl84 : ¬ (((n).toNat : Nat) : Int) < n := by omega
          refine WL.nil ?_
          refine W.condF (decide ((((n).toNat : Nat) : Int) < n)) rfl (decide_eq_false hl84) ?_
          refine W.exit ?_
          show _ = _ ∧ _
          exact ⟨rfl, _, hs72, u76, hf77, hf78, hf79, hf80, hS83⟩
      · rintro f85 wd86 ⟨x89, rfl, hq87⟩
        replace hb13 := onRes_fin hb13
        replace hq87 : ∃ (uu0 : Value), f85 0 = (Value.int .i64 n) ∧ f85 3 = u17 ∧ f85 4 = (Value.int .i64 (k7 : Int)) ∧ f85 5 = uu0 ∧ St w wd86 [(Ty.sl (Ty.sl (Ty.sl (Ty.i .i64)))).at u17 x8, (Ty.sl (Ty.sl (Ty.i .i64))).at uu0 x89] := hq87
        obtain ⟨u90, hf91, hf92, hf93, hf94, hS95⟩ := hq87
        show W _ _ _ _ _ _
        refine W.region ?_
        refine WL.val u17 _ (op_move hf92) rfl ?_
        refine WL.val u90 _ (op_move hf94) rfl ?_
        refine WL.lit [u90] hS95 sl_23 rfl rfl (fillL rfl ⟨rfl, rfl, (cells_rep (St.rep (t := (Ty.sl (Ty.sl (Ty.i .i64)))) hS95 1 rfl)), trivial⟩) rfl rfl ?_
        intro b100 wd97 hS98 he99 hx101
        replace hS98 : St w wd97 [(Ty.sl (Ty.sl (Ty.sl (Ty.i .i64)))).at u17 x8, (Ty.sl (Ty.sl (Ty.i .i64))).at u90 x89, bx b100 [u90]] := hS98
        obtain ⟨x102, hx103, hb13⟩ := bs hb13
        refine WL.appendRow hS98 (k := 0) (k2 := 1) (k3 := 2) rfl rfl rfl rfl sl_23 rfl rfl rfl rfl hx103 rfl ?_
        intro u104 wd105 hS106 hz107
        replace hS106 : St w wd105 [(Ty.sl (Ty.sl (Ty.sl (Ty.i .i64)))).at u104 x102, emp, bx b100 [u90]] := hS106
        refine WL.val u104 _ (op_assign rfl) rfl ?_
        refine WL.nil ?_
        show W _ _ _ _ _ _
        refine W.region ?_
        refine WL.val (Value.int .i64 (k7 : Int)) _ (op_move hf93) rfl ?_
        refine WL.val (Value.int .i64 (w64 ((k7 : Int) + (1 : Int)))) _ (op_add rfl rfl) rfl ?_
        refine WL.val (Value.int .i64 (w64 ((k7 : Int) + (1 : Int)))) _ (op_assign rfl) rfl ?_
        refine WL.nil ?_
        obtain rfl := Option.some.inj hb13
        show ∃ s, _ = Ctl.next s ∧ _
        exact ⟨_, rfl, u104, hf91, rfl, (ctr_next hl23 r_n), (ctr_rng hl23 r_n), (St.pick hS106 [0] rfl)⟩
    · intro x115 f110 wd111 hs112 hI113
      replace hI113 : ∃ (uu0 : Value), f110 0 = (Value.int .i64 n) ∧ f110 3 = uu0 ∧ f110 4 = Value.int .i64 (((n).toNat : Nat) : Int) ∧ InR .i64 (((n).toNat : Nat) : Int) ∧ St w wd111 [(Ty.sl (Ty.sl (Ty.sl (Ty.i .i64)))).at uu0 x115] := hI113
      obtain ⟨u116, hf117, hf118, hf119, hr120, hS121⟩ := hI113
      refine W.seq (W.seq (W.region ?_))
      refine WL.val (Value.int .i64 (((n).toNat : Nat) : Int)) _ (op_move hf119) rfl ?_
      refine WL.val (Value.int .i64 n) _ (op_move hf117) rfl ?_
      refine WL.val (Value.bool (decide ((((n).toNat : Nat) : Int) < n))) _ (op_lss rfl rfl) rfl ?_
      have hl122 : ¬ (((n).toNat : Nat) : Int) < n := by omega
      refine WL.nil ?_
      refine W.condF (decide ((((n).toNat : Nat) : Int) < n)) rfl (decide_eq_false hl122) ?_
      refine W.exit ?_
      show _ = _ ∧ _
      exact ⟨rfl, _, hs112, u116, hf118, hS121⟩
  · rintro f123 wd124 ⟨x127, rfl, hq125⟩
    replace h := onRes_fin h
    replace hq125 : ∃ (uu0 : Value), f123 3 = uu0 ∧ St w wd124 [(Ty.sl (Ty.sl (Ty.sl (Ty.i .i64)))).at uu0 x127] := hq125
    obtain ⟨u128, hf129, hS130⟩ := hq125
    refine W.seq (W.region ?_)
    refine WL.val u128 _ (op_move hf129) rfl ?_
    refine WL.val u128 _ (op_assign rfl) rfl ?_
    refine WL.nil ?_
    refine W.ret ?_
    obtain rfl := Option.some.inj h
    show FinP _ _ _ _ _ _ _
    exact FinP.ret _ (res1 rfl rfl) ⟨u128, rfl, hS130.ext, (St.out (St.pick hS130 [0] rfl) (Ext.refl _))⟩

theorem c_spec_l17Coboundary {w : World} {orders : (List Int)} {v_orders : Value} {m : Int} {f1 : (List (List Int))} {v_f1 : Value} (r_orders : (Ty.sl (Ty.i .i64)).rep w v_orders orders) (r_m : InR .i64 m) (r_f1 : (Ty.sl (Ty.sl (Ty.i .i64))).rep w v_f1 f1) {res : (List Int) × Int × (List (List (List Int)))} (h : p_spec_l17Coboundary orders m f1  = some res) :
    Ret Try.prog 30 #[v_orders, (Value.int .i64 m), v_f1] w (fun v w' => ∃ (u0 : Value) (u2 : Value), v = (Value.agg #[u0, Value.int .i64 res.2.1, u2]) ∧ InR .i64 res.2.1 ∧ Ext w w' ∧ Sep w.heap.size w' [(Ty.sl (Ty.i .i64)).at u0 res.1, (Ty.sl (Ty.sl (Ty.sl (Ty.i .i64)))).at u2 res.2.2]) := by
  unfold p_spec_l17Coboundary at h
  have hS0 : St w w [] := St.start w
  refine Ret.start (fn := Try.f30) Try.func30 rfl 90 rfl rfl ?_
  refine W.seq (W.region ?_)
  refine WL.alloc hS0 ze_29 (cs := [(Value.slice none 0 0), (Value.int .i64 (0 : Int)), (Value.slice none 0 0)]) rfl rfl ?_
  intro b1 wd2 hS3 he4
  replace hS3 : St w wd2 [bx b1 [(Value.slice none 0 0), (Value.int .i64 (0 : Int)), (Value.slice none 0 0)]] := hS3
  refine WL.nil ?_
  refine W.seq (W.region ?_)
  refine WL.val v_f1 _ (op_move rfl) rfl ?_
  have hr5 := inR_len (Ty.lift _ hS3.ext r_f1)
  refine WL.val (Value.int .i64 ((f1).length : Int)) _ (op_lenL sl_37 (Ty.lift _ hS3.ext r_f1) rfl) rfl ?_
  refine WL.val (Value.int .i64 ((f1).length : Int)) _ (op_assign rfl) rfl ?_
  refine WL.nil ?_
  refine W.seq (W.region ?_)
  refine WL.val v_orders _ (op_move rfl) rfl ?_
  obtain ⟨x6, hx7, h⟩ := bs h
  refine WL.call _ (op_call fn_31 (args1 rfl)) (c_spec_l01Own (Ty.lift _ hS3.ext r_orders) hx7) rfl ?_
  rintro u8 wd9 ⟨_, rfl, he10, hs11⟩
  have hS12 := St.join hS3 he10 hs11
  replace hS12 : St w wd9 [bx b1 [(Value.slice none 0 0), (Value.int .i64 (0 : Int)), (Value.slice none 0 0)], (Ty.sl (Ty.i .i64)).at u8 x6] := hS12
  refine WL.val (Value.int .i64 m) _ (op_move rfl) rfl ?_
  refine WL.val (Value.int .i64 ((f1).length : Int)) _ (op_move rfl) rfl ?_
  obtain ⟨x13, hx14, h⟩ := bs h
  refine WL.call _ (op_call fn_49 (args1 rfl)) (c_spec_l06Empty hr5 hx14) rfl ?_
  rintro u15 wd16 ⟨_, rfl, he17, hs18⟩
  have hS19 := St.join hS12 he17 hs18
  replace hS19 : St w wd16 [bx b1 [(Value.slice none 0 0), (Value.int .i64 (0 : Int)), (Value.slice none 0 0)], (Ty.sl (Ty.i .i64)).at u8 x6, (Ty.sl (Ty.sl (Ty.sl (Ty.i .i64)))).at u15 x13] := hS19
  refine WL.val (Value.agg #[u8, (Value.int .i64 m), u15]) _ (op_build bd_29 (parts := [(0, u8, [u8]), (1, (Value.int .i64 m), [(Value.int .i64 m)]), (2, u15, [u15])]) (partsL ⟨rfl, rfl, rfl, rfl, rfl, rfl, trivial⟩) ⟨(cells_rep (St.rep (t := (Ty.sl (Ty.i .i64))) hS19 1 rfl)), rfl, (cells_rep (St.rep (t := (Ty.sl (Ty.sl (Ty.sl (Ty.i .i64))))) hS19 2 rfl)), trivial⟩ rfl) rfl ?_
  refine WL.alloc hS19 ze_29 (cs := [(Value.slice none 0 0), (Value.int .i64 (0 : Int)), (Value.slice none 0 0)]) rfl rfl ?_
  intro b20 wd21 hS22 he23
  replace hS22 : St w wd21 [bx b1 [(Value.slice none 0 0), (Value.int .i64 (0 : Int)), (Value.slice none 0 0)], (Ty.sl (Ty.i .i64)).at u8 x6, (Ty.sl (Ty.sl (Ty.sl (Ty.i .i64)))).at u15 x13, bx b20 [(Value.slice none 0 0), (Value.int .i64 (0 : Int)), (Value.slice none 0 0)]] := hS22
  refine WL.storeBox [u8, (Value.int .i64 m), u15] hS22 (k := 3) rfl rfl rfl (us := [u8, (Value.int .i64 m), u15]) rfl sz_29 rfl rfl (all_rep (St.rep (t := (Ty.sl (Ty.i .i64))) hS22 1 rfl) (all_cons rfl (all_rep (St.rep (t := (Ty.sl (Ty.sl (Ty.sl (Ty.i .i64))))) hS22 2 rfl) all_nil))) rfl ?_
  intro wd24 hS25
  replace hS25 : St w wd24 [bx b1 [(Value.slice none 0 0), (Value.int .i64 (0 : Int)), (Value.slice none 0 0)], (Ty.sl (Ty.i .i64)).at u8 x6, (Ty.sl (Ty.sl (Ty.sl (Ty.i .i64)))).at u15 x13, bx b20 [u8, (Value.int .i64 m), u15]] := hS25
  refine WL.nil ?_
  refine W.seq (W.seq (W.region ?_))
  refine WL.val (Value.int .i64 (0 : Int)) _ (op_assign rfl) rfl ?_
  refine WL.nil ?_
  show W _ _ _ _ _ _
  obtain ⟨res26, hres27, h⟩ := bs h
  refine W.blockLoop (fun fq wq => ∃ s, res26 = Res.fin s ∧ fq 6 = (Value.pointer (some ⟨b1, 0, none⟩)) ∧ fq 8 = (Value.pointer (some ⟨b20, 0, none⟩)) ∧ St w wq [bx b1 [(Value.slice none 0 0), (Value.int .i64 (0 : Int)), (Value.slice none 0 0)], (Ty.sl (Ty.i .i64)).at u8 x6, (Ty.sl (Ty.sl (Ty.sl (Ty.i .i64)))).at u15 s, bx b20 [u8, (Value.int .i64 m), u15]]) ?_ ?_
  · refine W.forN (fun k (s : (List (List (List Int)))) fq wq => fq 0 = v_orders ∧ fq 1 = (Value.int .i64 m) ∧ fq 2 = v_f1 ∧ fq 6 = (Value.pointer (some ⟨b1, 0, none⟩)) ∧ fq 7 = (Value.int .i64 ((f1).length : Int)) ∧ fq 8 = (Value.pointer (some ⟨b20, 0, none⟩)) ∧ fq 9 = Value.int .i64 (k : Int) ∧ InR .i64 (k : Int) ∧ St w wq [bx b1 [(Value.slice none 0 0), (Value.int .i64 (0 : Int)), (Value.slice none 0 0)], (Ty.sl (Ty.i .i64)).at u8 x6, (Ty.sl (Ty.sl (Ty.sl (Ty.i .i64)))).at u15 s, bx b20 [u8, (Value.int .i64 m), u15]]) hres27 ⟨rfl, rfl, rfl, rfl, rfl, rfl, rfl, (inL rfl), hS25⟩ ?_ ?_
    · intro k28 x29 ct30 f31 wd32 hk33 hb34 hI35 hbrk36 hret37
      replace hI35 : f31 0 = v_orders ∧ f31 1 = (Value.int .i64 m) ∧ f31 2 = v_f1 ∧ f31 6 = (Value.pointer (some ⟨b1, 0, none⟩)) ∧ f31 7 = (Value.int .i64 ((f1).length : Int)) ∧ f31 8 = (Value.pointer (some ⟨b20, 0, none⟩)) ∧ f31 9 = Value.int .i64 (k28 : Int) ∧ InR .i64 (k28 : Int) ∧ St w wd32 [bx b1 [(Value.slice none 0 0), (Value.int .i64 (0 : Int)), (Value.slice none 0 0)], (Ty.sl (Ty.i .i64)).at u8 x6, (Ty.sl (Ty.sl (Ty.sl (Ty.i .i64)))).at u15 x29, bx b20 [u8, (Value.int .i64 m), u15]] := hI35
      replace hb34 : p_spec_l17Coboundary_L1 f1 orders m k28 x29 = some ct30 := hb34
      unfold p_spec_l17Coboundary_L1 at hb34
      obtain ⟨hf38, hf39, hf40, hf41, hf42, hf43, hf44, hr45, hS46⟩ := hI35
      refine W.seq (W.seq (W.region ?_))
      refine WL.val (Value.int .i64 (k28 : Int)) _ (op_move hf44) rfl ?_
      refine WL.val (Value.int .i64 ((f1).length : Int)) _ (op_move hf42) rfl ?_
      refine WL.val (Value.bool (decide ((k28 : Int) < ((f1).length : Int)))) _ (op_lss rfl rfl) rfl ?_
      have hl47 : (k28 : Int) < ((f1).length : Int) := by omega
      refine WL.nil ?_
      refine W.condT (decide ((k28 : Int) < ((f1).length : Int))) rfl (decide_eq_true hl47) ?_
      refine W.skip ?_
      refine W.seq ?_
      refine W.block ?_
      refine W.seq (W.region ?_)
      refine WL.val (Value.int .i64 (0 : Int)) _ (op_assign rfl) rfl ?_
      refine WL.nil ?_
      show W _ _ _ _ _ _
      obtain ⟨res49, hres50, hb34⟩ := bs hb34
      refine W.blockLoop (fun fq wq => ∃ s, res49 = Res.fin s ∧ fq 0 = v_orders ∧ fq 1 = (Value.int .i64 m) ∧ fq 2 = v_f1 ∧ fq 6 = (Value.pointer (some ⟨b1, 0, none⟩)) ∧ fq 7 = (Value.int .i64 ((f1).length : Int)) ∧ fq 8 = (Value.pointer (some ⟨b20, 0, none⟩)) ∧ fq 9 = (Value.int .i64 (k28 : Int)) ∧ St w wq [bx b1 [(Value.slice none 0 0), (Value.int .i64 (0 : Int)), (Value.slice none 0 0)], (Ty.sl (Ty.i .i64)).at u8 x6, (Ty.sl (Ty.sl (Ty.sl (Ty.i .i64)))).at u15 s, bx b20 [u8, (Value.int .i64 m), u15]]) ?_ ?_
      · refine W.forN (fun k (s : (List (List (List Int)))) fq wq => fq 0 = v_orders ∧ fq 1 = (Value.int .i64 m) ∧ fq 2 = v_f1 ∧ fq 6 = (Value.pointer (some ⟨b1, 0, none⟩)) ∧ fq 7 = (Value.int .i64 ((f1).length : Int)) ∧ fq 8 = (Value.pointer (some ⟨b20, 0, none⟩)) ∧ fq 9 = (Value.int .i64 (k28 : Int)) ∧ fq 10 = Value.int .i64 (k : Int) ∧ InR .i64 (k : Int) ∧ St w wq [bx b1 [(Value.slice none 0 0), (Value.int .i64 (0 : Int)), (Value.slice none 0 0)], (Ty.sl (Ty.i .i64)).at u8 x6, (Ty.sl (Ty.sl (Ty.sl (Ty.i .i64)))).at u15 s, bx b20 [u8, (Value.int .i64 m), u15]]) hres50 ⟨hf38, hf39, hf40, hf41, hf42, hf43, hf44, rfl, (inL rfl), hS46⟩ ?_ ?_
        · intro k51 x52 ct53 f54 wd55 hk56 hb57 hI58 hbrk59 hret60
          replace hI58 : f54 0 = v_orders ∧ f54 1 = (Value.int .i64 m) ∧ f54 2 = v_f1 ∧ f54 6 = (Value.pointer (some ⟨b1, 0, none⟩)) ∧ f54 7 = (Value.int .i64 ((f1).length : Int)) ∧ f54 8 = (Value.pointer (some ⟨b20, 0, none⟩)) ∧ f54 9 = (Value.int .i64 (k28 : Int)) ∧ f54 10 = Value.int .i64 (k51 : Int) ∧ InR .i64 (k51 : Int) ∧ St w wd55 [bx b1 [(Value.slice none 0 0), (Value.int .i64 (0 : Int)), (Value.slice none 0 0)], (Ty.sl (Ty.i .i64)).at u8 x6, (Ty.sl (Ty.sl (Ty.sl (Ty.i .i64)))).at u15 x52, bx b20 [u8, (Value.int .i64 m), u15]] := hI58
          replace hb57 : p_spec_l17Coboundary_L2 f1 orders k28 m k51 x52 = some ct53 := hb57
          unfold p_spec_l17Coboundary_L2 at hb57
          obtain ⟨hf61, hf62, hf63, hf64, hf65, hf66, hf67, hf68, hr69, hS70⟩ := hI58
          refine W.seq (W.seq (W.region ?_))
          refine WL.val (Value.int .i64 (k51 : Int)) _ (op_move hf68) rfl ?_
          refine WL.val (Value.int .i64 ((f1).length : Int)) _ (op_move hf65) rfl ?_
          refine WL.val (Value.bool (decide ((k51 : Int) < ((f1).length : Int)))) _ (op_lss rfl rfl) rfl ?_
          have hl71 : (k51 : Int) < ((f1).length : Int) := by omega
          refine WL.nil ?_
          refine W.condT (decide ((k51 : Int) < ((f1).length : Int))) rfl (decide_eq_true hl71) ?_
          refine W.skip ?_
          refine W.seq ?_
          refine W.block ?_
          refine W.seq (W.region ?_)
          refine WL.val (Value.int .i64 (0 : Int)) _ (op_assign rfl) rfl ?_
          refine WL.nil ?_
          show W _ _ _ _ _ _
          obtain ⟨res73, hres74, hb57⟩ := bs hb57
          refine W.blockLoop (fun fq wq => ∃ s, res73 = Res.fin s ∧ fq 0 = v_orders ∧ fq 1 = (Value.int .i64 m) ∧ fq 2 = v_f1 ∧ fq 6 = (Value.pointer (some ⟨b1, 0, none⟩)) ∧ fq 7 = (Value.int .i64 ((f1).length : Int)) ∧ fq 8 = (Value.pointer (some ⟨b20, 0, none⟩)) ∧ fq 9 = (Value.int .i64 (k28 : Int)) ∧ fq 10 = (Value.int .i64 (k51 : Int)) ∧ St w wq [bx b1 [(Value.slice none 0 0), (Value.int .i64 (0 : Int)), (Value.slice none 0 0)], (Ty.sl (Ty.i .i64)).at u8 x6, (Ty.sl (Ty.sl (Ty.sl (Ty.i .i64)))).at u15 s, bx b20 [u8, (Value.int .i64 m), u15]]) ?_ ?_
          · refine W.forN (fun k (s : (List (List (List Int)))) fq wq => fq 0 = v_orders ∧ fq 1 = (Value.int .i64 m) ∧ fq 2 = v_f1 ∧ fq 6 = (Value.pointer (some ⟨b1, 0, none⟩)) ∧ fq 7 = (Value.int .i64 ((f1).length : Int)) ∧ fq 8 = (Value.pointer (some ⟨b20, 0, none⟩)) ∧ fq 9 = (Value.int .i64 (k28 : Int)) ∧ fq 10 = (Value.int .i64 (k51 : Int)) ∧ fq 11 = Value.int .i64 (k : Int) ∧ InR .i64 (k : Int) ∧ St w wq [bx b1 [(Value.slice none 0 0), (Value.int .i64 (0 : Int)), (Value.slice none 0 0)], (Ty.sl (Ty.i .i64)).at u8 x6, (Ty.sl (Ty.sl (Ty.sl (Ty.i .i64)))).at u15 s, bx b20 [u8, (Value.int .i64 m), u15]]) hres74 ⟨hf61, hf62, hf63, hf64, hf65, hf66, hf67, hf68, rfl, (inL rfl), hS70⟩ ?_ ?_
            · intro k75 x76 ct77 f78 wd79 hk80 hb81 hI82 hbrk83 hret84
              replace hI82 : f78 0 = v_orders ∧ f78 1 = (Value.int .i64 m) ∧ f78 2 = v_f1 ∧ f78 6 = (Value.pointer (some ⟨b1, 0, none⟩)) ∧ f78 7 = (Value.int .i64 ((f1).length : Int)) ∧ f78 8 = (Value.pointer (some ⟨b20, 0, none⟩)) ∧ f78 9 = (Value.int .i64 (k28 : Int)) ∧ f78 10 = (Value.int .i64 (k51 : Int)) ∧ f78 11 = Value.int .i64 (k75 : Int) ∧ InR .i64 (k75 : Int) ∧ St w wd79 [bx b1 [(Value.slice none 0 0), (Value.int .i64 (0 : Int)), (Value.slice none 0 0)], (Ty.sl (Ty.i .i64)).at u8 x6, (Ty.sl (Ty.sl (Ty.sl (Ty.i .i64)))).at u15 x76, bx b20 [u8, (Value.int .i64 m), u15]] := hI82
              replace hb81 : p_spec_l17Coboundary_L3 f1 k51 orders k28 m k75 x76 = some ct77 := hb81
              unfold p_spec_l17Coboundary_L3 at hb81
              obtain ⟨hf85, hf86, hf87, hf88, hf89, hf90, hf91, hf92, hf93, hr94, hS95⟩ := hI82
              refine W.seq (W.seq (W.region ?_))
              refine WL.val (Value.int .i64 (k75 : Int)) _ (op_move hf93) rfl ?_
              refine WL.val (Value.int .i64 ((f1).length : Int)) _ (op_move hf89) rfl ?_
              refine WL.val (Value.bool (decide ((k75 : Int) < ((f1).length : Int)))) _ (op_lss rfl rfl) rfl ?_
              have hl96 : (k75 : Int) < ((f1).length : Int) := by omega
              refine WL.nil ?_
              refine W.condT (decide ((k75 : Int) < ((f1).length : Int))) rfl (decide_eq_true hl96) ?_
              refine W.skip ?_
              refine W.seq ?_
              refine W.block ?_
              refine W.seq ?_
              obtain ⟨x127, hx130, hb81⟩ := bs hb81
              obtain ⟨ha128, hb129, hx130⟩ := idx_some hx130
              obtain ⟨u141, hc142, hr143⟩ := repSl.el r_f1 hx130
              obtain ⟨x166, hx169, hb81⟩ := bs hb81
              obtain ⟨ha167, hb168, hx169⟩ := idx_some hx169
              obtain ⟨u180, hc181, hr182⟩ := repSl.el hr143 hx169
              obtain ⟨rfl, hr182⟩ := hr182
              obtain ⟨x231, hx232, hb81⟩ := bs hb81
              obtain ⟨x252, hx255, hb81⟩ := bs hb81
              obtain ⟨ha253, hb254, hx255⟩ := idx_some hx255
              obtain ⟨u266, hc267, hr268⟩ := repSl.el r_f1 hx255
              obtain ⟨x291, hx294, hb81⟩ := bs hb81
              obtain ⟨ha292, hb293, hx294⟩ := idx_some hx294
              obtain ⟨u305, hc306, hr307⟩ := repSl.el hr268 hx294
              obtain ⟨rfl, hr307⟩ := hr307
              obtain ⟨x353, hx356, hb81⟩ := bs hb81
              obtain ⟨ha354, hb355, hx356⟩ := idx_some hx356
              obtain ⟨u367, hc368, hr369⟩ := repSl.el r_f1 hx356
              obtain ⟨x411, hx412, hb81⟩ := bs hb81
              obtain ⟨x432, hx435, hb81⟩ := bs hb81
              obtain ⟨ha433, hb434, hx435⟩ := idx_some hx435
              obtain ⟨u446, hc447, hr448⟩ := repSl.el hr369 hx435
              obtain ⟨rfl, hr448⟩ := hr448
              obtain ⟨u504, hc505, hr506⟩ := repSl.el r_f1 hx356
              obtain ⟨x529, hx532, hb81⟩ := bs hb81
              obtain ⟨ha530, hb531, hx532⟩ := idx_some hx532
              obtain ⟨u543, hc544, hr545⟩ := repSl.el hr506 hx532
              obtain ⟨rfl, hr545⟩ := hr545
              refine W.drawR mixo 36 [] [fun _ v _ _ => v = v_f1, fun _ v _ _ => v = (Value.int .i64 (k51 : Int)) ∧ InR .i64 (k51 : Int), fun _ v _ _ => v = (Value.pointer (some (elA v_f1 ((k51 : Int)).toNat))), fun _ v _ _ => v = u141, fun _ v _ _ => v = (Value.int .i64 (k75 : Int)) ∧ InR .i64 (k75 : Int), fun _ v _ _ => v = (Value.pointer (some (elA u141 ((k75 : Int)).toNat))), fun _ v _ _ => v = (Value.int .i64 x166) ∧ InR .i64 x166, fun _ v _ _ => v = v_f1, fun _ v _ _ => v = v_orders, fun _ v _ _ => v = (Value.int .i64 (k28 : Int)) ∧ InR .i64 (k28 : Int), fun _ v _ _ => v = (Value.int .i64 (k51 : Int)) ∧ InR .i64 (k51 : Int), fun _ v _ _ => v = (Value.int .i64 x231) ∧ InR .i64 x231, fun _ v _ _ => v = (Value.pointer (some (elA v_f1 (x231).toNat))), fun _ v _ _ => v = u266, fun _ v _ _ => v = (Value.int .i64 (k75 : Int)) ∧ InR .i64 (k75 : Int), fun _ v _ _ => v = (Value.pointer (some (elA u266 ((k75 : Int)).toNat))), fun _ v _ _ => v = (Value.int .i64 x291) ∧ InR .i64 x291, fun _ v _ _ => v = (Value.int .i64 (w64 (x166 - x291))) ∧ InR .i64 (w64 (x166 - x291)), fun _ v _ _ => v = v_f1, fun _ v _ _ => v = (Value.int .i64 (k28 : Int)) ∧ InR .i64 (k28 : Int), fun _ v _ _ => v = (Value.pointer (some (elA v_f1 ((k28 : Int)).toNat))), fun _ v _ _ => v = u367, fun _ v _ _ => v = v_orders, fun _ v _ _ => v = (Value.int .i64 (k51 : Int)) ∧ InR .i64 (k51 : Int), fun _ v _ _ => v = (Value.int .i64 (k75 : Int)) ∧ InR .i64 (k75 : Int), fun _ v _ _ => v = (Value.int .i64 x411) ∧ InR .i64 x411, fun _ v _ _ => v = (Value.pointer (some (elA u367 (x411).toNat))), fun _ v _ _ => v = (Value.int .i64 x432) ∧ InR .i64 x432, fun _ v _ _ => v = (Value.int .i64 (w64 ((w64 (x166 - x291)) + x432))) ∧ InR .i64 (w64 ((w64 (x166 - x291)) + x432)), fun _ v _ _ => v = v_f1, fun _ v _ _ => v = (Value.int .i64 (k28 : Int)) ∧ InR .i64 (k28 : Int), fun _ v _ _ => v = (Value.pointer (some (elA v_f1 ((k28 : Int)).toNat))), fun _ v _ _ => v = u504, fun _ v _ _ => v = (Value.int .i64 (k51 : Int)) ∧ InR .i64 (k51 : Int), fun _ v _ _ => v = (Value.pointer (some (elA u504 ((k51 : Int)).toNat))), fun _ v _ _ => v = (Value.int .i64 x529) ∧ InR .i64 x529] (by kernel_rfl) (by kernel_rfl) ⟨pk, pk, pk, pk, pk, pk, pk, pk, pk, pk, pk, pk, pk, pk, pk, pk, pk, pk, pk, pk, pk, pk, pk, pk, pk, pk, pk, pk, pk, pk, pk, pk, pk, pk, pk, pk, trivial⟩ ⟨?_, ?_, ?_, ?_, ?_, ?_, ?_, ?_, ?_, ?_, ?_, ?_, ?_, ?_, ?_, ?_, ?_, ?_, ?_, ?_, ?_, ?_, ?_, ?_, ?_, ?_, ?_, ?_, ?_, ?_, ?_, ?_, ?_, ?_, ?_, ?_, trivial⟩ ?_
              · refine ObX.op rfl fun f98 wd99 he100 hout101 hphi102 => ?_
                have e104 : f98 2 = v_f1 := (hout101 2 rfl).trans hf87
                exact OpX.val v_f1 wd99 rfl (op_move e104) (Ext.refl _) rfl
              · refine ObX.op rfl fun f105 wd106 he107 hout108 hphi109 => ?_
                have e111 : f105 10 = (Value.int .i64 (k51 : Int)) := (hout108 10 rfl).trans hf92
                exact OpX.val (Value.int .i64 (k51 : Int)) wd106 rfl (op_move e111) (Ext.refl _) ⟨rfl, hr69⟩
              · refine ObX.op rfl fun f112 wd113 he114 hout115 hphi116 => ?_
                have hS117 := St.extend hS95 he114
                obtain ⟨S118, hS119, hf120⟩ := hphi116 0 36 _ rfl rfl rfl
                have e121 : f112 36 = v_f1 := hf120
                obtain ⟨S122, hS123, hf124⟩ := hphi116 1 37 _ rfl rfl rfl
                obtain ⟨e125, hr126⟩ := hf124
                exact OpX.val (Value.pointer (some (elA v_f1 ((k51 : Int)).toNat))) wd113 rfl (op_idx sl_37 (Ty.lift _ hS117.ext r_f1) e121 e125 ha128 hb129) (Ext.refl _) rfl
              · refine ObX.op rfl fun f131 wd132 he133 hout134 hphi135 => ?_
                have hS136 := St.extend hS95 he133
                obtain ⟨S137, hS138, hf139⟩ := hphi135 2 38 _ rfl rfl rfl
                have e140 : f131 38 = (Value.pointer (some (elA v_f1 ((k51 : Int)).toNat))) := hf139
                exact OpX.val u141 wd132 rfl (op_load one_22 e140 (Ext.cell hS136.ext hc142)) (Ext.refl _) rfl
              · refine ObX.op rfl fun f144 wd145 he146 hout147 hphi148 => ?_
                have e150 : f144 11 = (Value.int .i64 (k75 : Int)) := (hout147 11 rfl).trans hf93
                exact OpX.val (Value.int .i64 (k75 : Int)) wd145 rfl (op_move e150) (Ext.refl _) ⟨rfl, hr94⟩
              · refine ObX.op rfl fun f151 wd152 he153 hout154 hphi155 => ?_
                have hS156 := St.extend hS95 he153
                obtain ⟨S157, hS158, hf159⟩ := hphi155 3 39 _ rfl rfl rfl
                have e160 : f151 39 = u141 := hf159
                obtain ⟨S161, hS162, hf163⟩ := hphi155 4 40 _ rfl rfl rfl
                obtain ⟨e164, hr165⟩ := hf163
                exact OpX.val (Value.pointer (some (elA u141 ((k75 : Int)).toNat))) wd152 rfl (op_idx sl_22 (Ty.lift _ hS156.ext hr143) e160 e164 ha167 hb168) (Ext.refl _) rfl
              · refine ObX.op rfl fun f170 wd171 he172 hout173 hphi174 => ?_
                have hS175 := St.extend hS95 he172
                obtain ⟨S176, hS177, hf178⟩ := hphi174 5 41 _ rfl rfl rfl
                have e179 : f170 41 = (Value.pointer (some (elA u141 ((k75 : Int)).toNat))) := hf178
                exact OpX.val (Value.int .i64 x166) wd171 rfl (op_load one_2 e179 (Ext.cell hS175.ext hc181)) (Ext.refl _) ⟨rfl, hr182⟩
              · refine ObX.op rfl fun f183 wd184 he185 hout186 hphi187 => ?_
                have e189 : f183 2 = v_f1 := (hout186 2 rfl).trans hf87
                exact OpX.val v_f1 wd184 rfl (op_move e189) (Ext.refl _) rfl
              · refine ObX.op rfl fun f190 wd191 he192 hout193 hphi194 => ?_
                have e196 : f190 0 = v_orders := (hout193 0 rfl).trans hf85
                exact OpX.val v_orders wd191 rfl (op_move e196) (Ext.refl _) rfl
              · refine ObX.op rfl fun f197 wd198 he199 hout200 hphi201 => ?_
                have e203 : f197 9 = (Value.int .i64 (k28 : Int)) := (hout200 9 rfl).trans hf91
                exact OpX.val (Value.int .i64 (k28 : Int)) wd198 rfl (op_move e203) (Ext.refl _) ⟨rfl, hr45⟩
              · refine ObX.op rfl fun f204 wd205 he206 hout207 hphi208 => ?_
                have e210 : f204 10 = (Value.int .i64 (k51 : Int)) := (hout207 10 rfl).trans hf92
                exact OpX.val (Value.int .i64 (k51 : Int)) wd205 rfl (op_move e210) (Ext.refl _) ⟨rfl, hr69⟩
              · refine ObX.op rfl fun f211 wd212 he213 hout214 hphi215 => ?_
                have hS216 := St.extend hS95 he213
                obtain ⟨S217, hS218, hf219⟩ := hphi215 8 44 _ rfl rfl rfl
                have e220 : f211 44 = v_orders := hf219
                obtain ⟨S221, hS222, hf223⟩ := hphi215 9 45 _ rfl rfl rfl
                obtain ⟨e224, hr225⟩ := hf223
                obtain ⟨S226, hS227, hf228⟩ := hphi215 10 46 _ rfl rfl rfl
                obtain ⟨e229, hr230⟩ := hf228
                refine OpX.call rfl (op_call fn_47 (args3 e220 e224 e229)) (Ret.mono (c_spec_l06Add (Ty.lift _ hS216.ext r_orders) hr225 hr230 hx232) ?_)
                rintro _ wd234 ⟨rfl, hr233, he235⟩
                exact ⟨he235, _, noS _ _, ⟨rfl, hr233⟩⟩
              · refine ObX.op rfl fun f237 wd238 he239 hout240 hphi241 => ?_
                have hS242 := St.extend hS95 he239
                obtain ⟨S243, hS244, hf245⟩ := hphi241 7 43 _ rfl rfl rfl
                have e246 : f237 43 = v_f1 := hf245
                obtain ⟨S247, hS248, hf249⟩ := hphi241 11 47 _ rfl rfl rfl
                obtain ⟨e250, hr251⟩ := hf249
                exact OpX.val (Value.pointer (some (elA v_f1 (x231).toNat))) wd238 rfl (op_idx sl_37 (Ty.lift _ hS242.ext r_f1) e246 e250 ha253 hb254) (Ext.refl _) rfl
              · refine ObX.op rfl fun f256 wd257 he258 hout259 hphi260 => ?_
                have hS261 := St.extend hS95 he258
                obtain ⟨S262, hS263, hf264⟩ := hphi260 12 48 _ rfl rfl rfl
                have e265 : f256 48 = (Value.pointer (some (elA v_f1 (x231).toNat))) := hf264
                exact OpX.val u266 wd257 rfl (op_load one_22 e265 (Ext.cell hS261.ext hc267)) (Ext.refl _) rfl
              · refine ObX.op rfl fun f269 wd270 he271 hout272 hphi273 => ?_
                have e275 : f269 11 = (Value.int .i64 (k75 : Int)) := (hout272 11 rfl).trans hf93
                exact OpX.val (Value.int .i64 (k75 : Int)) wd270 rfl (op_move e275) (Ext.refl _) ⟨rfl, hr94⟩
              · refine ObX.op rfl fun f276 wd277 he278 hout279 hphi280 => ?_
                have hS281 := St.extend hS95 he278
                obtain ⟨S282, hS283, hf284⟩ := hphi280 13 49 _ rfl rfl rfl
                have e285 : f276 49 = u266 := hf284
                obtain ⟨S286, hS287, hf288⟩ := hphi280 14 50 _ rfl rfl rfl
                obtain ⟨e289, hr290⟩ := hf288
                exact OpX.val (Value.pointer (some (elA u266 ((k75 : Int)).toNat))) wd277 rfl (op_idx sl_22 (Ty.lift _ hS281.ext hr268) e285 e289 ha292 hb293) (Ext.refl _) rfl
              · refine ObX.op rfl fun f295 wd296 he297 hout298 hphi299 => ?_
                have hS300 := St.extend hS95 he297
                obtain ⟨S301, hS302, hf303⟩ := hphi299 15 51 _ rfl rfl rfl
                have e304 : f295 51 = (Value.pointer (some (elA u266 ((k75 : Int)).toNat))) := hf303
                exact OpX.val (Value.int .i64 x291) wd296 rfl (op_load one_2 e304 (Ext.cell hS300.ext hc306)) (Ext.refl _) ⟨rfl, hr307⟩
              · refine ObX.op rfl fun f308 wd309 he310 hout311 hphi312 => ?_
                obtain ⟨S314, hS315, hf316⟩ := hphi312 6 42 _ rfl rfl rfl
                obtain ⟨e317, hr318⟩ := hf316
                obtain ⟨S319, hS320, hf321⟩ := hphi312 16 52 _ rfl rfl rfl
                obtain ⟨e322, hr323⟩ := hf321
                exact OpX.val (Value.int .i64 (w64 (x166 - x291))) wd309 rfl (op_sub e317 e322) (Ext.refl _) ⟨rfl, (inR_wrap _ _)⟩
              · refine ObX.op rfl fun f324 wd325 he326 hout327 hphi328 => ?_
                have e330 : f324 2 = v_f1 := (hout327 2 rfl).trans hf87
                exact OpX.val v_f1 wd325 rfl (op_move e330) (Ext.refl _) rfl
              · refine ObX.op rfl fun f331 wd332 he333 hout334 hphi335 => ?_
                have e337 : f331 9 = (Value.int .i64 (k28 : Int)) := (hout334 9 rfl).trans hf91
                exact OpX.val (Value.int .i64 (k28 : Int)) wd332 rfl (op_move e337) (Ext.refl _) ⟨rfl, hr45⟩
              · refine ObX.op rfl fun f338 wd339 he340 hout341 hphi342 => ?_
                have hS343 := St.extend hS95 he340
                obtain ⟨S344, hS345, hf346⟩ := hphi342 18 54 _ rfl rfl rfl
                have e347 : f338 54 = v_f1 := hf346
                obtain ⟨S348, hS349, hf350⟩ := hphi342 19 55 _ rfl rfl rfl
                obtain ⟨e351, hr352⟩ := hf350
                exact OpX.val (Value.pointer (some (elA v_f1 ((k28 : Int)).toNat))) wd339 rfl (op_idx sl_37 (Ty.lift _ hS343.ext r_f1) e347 e351 ha354 hb355) (Ext.refl _) rfl
              · refine ObX.op rfl fun f357 wd358 he359 hout360 hphi361 => ?_
                have hS362 := St.extend hS95 he359
                obtain ⟨S363, hS364, hf365⟩ := hphi361 20 56 _ rfl rfl rfl
                have e366 : f357 56 = (Value.pointer (some (elA v_f1 ((k28 : Int)).toNat))) := hf365
                exact OpX.val u367 wd358 rfl (op_load one_22 e366 (Ext.cell hS362.ext hc368)) (Ext.refl _) rfl
              · refine ObX.op rfl fun f370 wd371 he372 hout373 hphi374 => ?_
                have e376 : f370 0 = v_orders := (hout373 0 rfl).trans hf85
                exact OpX.val v_orders wd371 rfl (op_move e376) (Ext.refl _) rfl
              · refine ObX.op rfl fun f377 wd378 he379 hout380 hphi381 => ?_
                have e383 : f377 10 = (Value.int .i64 (k51 : Int)) := (hout380 10 rfl).trans hf92
                exact OpX.val (Value.int .i64 (k51 : Int)) wd378 rfl (op_move e383) (Ext.refl _) ⟨rfl, hr69⟩
              · refine ObX.op rfl fun f384 wd385 he386 hout387 hphi388 => ?_
                have e390 : f384 11 = (Value.int .i64 (k75 : Int)) := (hout387 11 rfl).trans hf93
                exact OpX.val (Value.int .i64 (k75 : Int)) wd385 rfl (op_move e390) (Ext.refl _) ⟨rfl, hr94⟩
              · refine ObX.op rfl fun f391 wd392 he393 hout394 hphi395 => ?_
                have hS396 := St.extend hS95 he393
                obtain ⟨S397, hS398, hf399⟩ := hphi395 22 58 _ rfl rfl rfl
                have e400 : f391 58 = v_orders := hf399
                obtain ⟨S401, hS402, hf403⟩ := hphi395 23 59 _ rfl rfl rfl
                obtain ⟨e404, hr405⟩ := hf403
                obtain ⟨S406, hS407, hf408⟩ := hphi395 24 60 _ rfl rfl rfl
                obtain ⟨e409, hr410⟩ := hf408
                refine OpX.call rfl (op_call fn_47 (args3 e400 e404 e409)) (Ret.mono (c_spec_l06Add (Ty.lift _ hS396.ext r_orders) hr405 hr410 hx412) ?_)
                rintro _ wd414 ⟨rfl, hr413, he415⟩
                exact ⟨he415, _, noS _ _, ⟨rfl, hr413⟩⟩
              · refine ObX.op rfl fun f417 wd418 he419 hout420 hphi421 => ?_
                have hS422 := St.extend hS95 he419
                obtain ⟨S423, hS424, hf425⟩ := hphi421 21 57 _ rfl rfl rfl
                have e426 : f417 57 = u367 := hf425
                obtain ⟨S427, hS428, hf429⟩ := hphi421 25 61 _ rfl rfl rfl
                obtain ⟨e430, hr431⟩ := hf429
                exact OpX.val (Value.pointer (some (elA u367 (x411).toNat))) wd418 rfl (op_idx sl_22 (Ty.lift _ hS422.ext hr369) e426 e430 ha433 hb434) (Ext.refl _) rfl
              · refine ObX.op rfl fun f436 wd437 he438 hout439 hphi440 => ?_
                have hS441 := St.extend hS95 he438
                obtain ⟨S442, hS443, hf444⟩ := hphi440 26 62 _ rfl rfl rfl
                have e445 : f436 62 = (Value.pointer (some (elA u367 (x411).toNat))) := hf444
                exact OpX.val (Value.int .i64 x432) wd437 rfl (op_load one_2 e445 (Ext.cell hS441.ext hc447)) (Ext.refl _) ⟨rfl, hr448⟩
              · refine ObX.op rfl fun f449 wd450 he451 hout452 hphi453 => ?_
                obtain ⟨S455, hS456, hf457⟩ := hphi453 17 53 _ rfl rfl rfl
                obtain ⟨e458, hr459⟩ := hf457
                obtain ⟨S460, hS461, hf462⟩ := hphi453 27 63 _ rfl rfl rfl
                obtain ⟨e463, hr464⟩ := hf462
                exact OpX.val (Value.int .i64 (w64 ((w64 (x166 - x291)) + x432))) wd450 rfl (op_add e458 e463) (Ext.refl _) ⟨rfl, (inR_wrap _ _)⟩
              · refine ObX.op rfl fun f465 wd466 he467 hout468 hphi469 => ?_
                have e471 : f465 2 = v_f1 := (hout468 2 rfl).trans hf87
                exact OpX.val v_f1 wd466 rfl (op_move e471) (Ext.refl _) rfl
              · refine ObX.op rfl fun f472 wd473 he474 hout475 hphi476 => ?_
                have e478 : f472 9 = (Value.int .i64 (k28 : Int)) := (hout475 9 rfl).trans hf91
                exact OpX.val (Value.int .i64 (k28 : Int)) wd473 rfl (op_move e478) (Ext.refl _) ⟨rfl, hr45⟩
              · refine ObX.op rfl fun f479 wd480 he481 hout482 hphi483 => ?_
                have hS484 := St.extend hS95 he481
                obtain ⟨S485, hS486, hf487⟩ := hphi483 29 65 _ rfl rfl rfl
                have e488 : f479 65 = v_f1 := hf487
                obtain ⟨S489, hS490, hf491⟩ := hphi483 30 66 _ rfl rfl rfl
                obtain ⟨e492, hr493⟩ := hf491
                exact OpX.val (Value.pointer (some (elA v_f1 ((k28 : Int)).toNat))) wd480 rfl (op_idx sl_37 (Ty.lift _ hS484.ext r_f1) e488 e492 ha354 hb355) (Ext.refl _) rfl
              · refine ObX.op rfl fun f494 wd495 he496 hout497 hphi498 => ?_
                have hS499 := St.extend hS95 he496
                obtain ⟨S500, hS501, hf502⟩ := hphi498 31 67 _ rfl rfl rfl
                have e503 : f494 67 = (Value.pointer (some (elA v_f1 ((k28 : Int)).toNat))) := hf502
                exact OpX.val u504 wd495 rfl (op_load one_22 e503 (Ext.cell hS499.ext hc505)) (Ext.refl _) rfl
              · refine ObX.op rfl fun f507 wd508 he509 hout510 hphi511 => ?_
                have e513 : f507 10 = (Value.int .i64 (k51 : Int)) := (hout510 10 rfl).trans hf92
                exact OpX.val (Value.int .i64 (k51 : Int)) wd508 rfl (op_move e513) (Ext.refl _) ⟨rfl, hr69⟩
              · refine ObX.op rfl fun f514 wd515 he516 hout517 hphi518 => ?_
                have hS519 := St.extend hS95 he516
                obtain ⟨S520, hS521, hf522⟩ := hphi518 32 68 _ rfl rfl rfl
                have e523 : f514 68 = u504 := hf522
                obtain ⟨S524, hS525, hf526⟩ := hphi518 33 69 _ rfl rfl rfl
                obtain ⟨e527, hr528⟩ := hf526
                exact OpX.val (Value.pointer (some (elA u504 ((k51 : Int)).toNat))) wd515 rfl (op_idx sl_22 (Ty.lift _ hS519.ext hr506) e523 e527 ha530 hb531) (Ext.refl _) rfl
              · refine ObX.op rfl fun f533 wd534 he535 hout536 hphi537 => ?_
                have hS538 := St.extend hS95 he535
                obtain ⟨S539, hS540, hf541⟩ := hphi537 34 70 _ rfl rfl rfl
                have e542 : f533 70 = (Value.pointer (some (elA u504 ((k51 : Int)).toNat))) := hf541
                exact OpX.val (Value.int .i64 x529) wd534 rfl (op_load one_2 e542 (Ext.cell hS538.ext hc544)) (Ext.refl _) ⟨rfl, hr545⟩
              · intro f546 wd547 Ss548 he549 hout550 hSn551 hSd552 hphi553
                show WL _ _ _ _ _ _ _
                have hS554 := St.extend hS95 he549
                obtain ⟨e555, hr556⟩ := hphi553 28 64 _ (by decide) rfl rfl
                obtain ⟨e557, hr558⟩ := hphi553 35 71 _ (by decide) rfl rfl
                have e559 : f546 0 = v_orders := (hout550 0 rfl).trans hf85
                have e560 : f546 1 = (Value.int .i64 m) := (hout550 1 rfl).trans hf86
                have e561 : f546 2 = v_f1 := (hout550 2 rfl).trans hf87
                have e562 : f546 6 = (Value.pointer (some ⟨b1, 0, none⟩)) := (hout550 6 rfl).trans hf88
                have e563 : f546 7 = (Value.int .i64 ((f1).length : Int)) := (hout550 7 rfl).trans hf89
                have e564 : f546 8 = (Value.pointer (some ⟨b20, 0, none⟩)) := (hout550 8 rfl).trans hf90
                have e565 : f546 9 = (Value.int .i64 (k28 : Int)) := (hout550 9 rfl).trans hf91
                have e566 : f546 10 = (Value.int .i64 (k51 : Int)) := (hout550 10 rfl).trans hf92
                have e567 : f546 11 = (Value.int .i64 (k75 : Int)) := (hout550 11 rfl).trans hf93
                refine WL.val (Value.int .i64 (w64 ((w64 ((w64 (x166 - x291)) + x432)) - x529))) _ (op_sub e555 e557) rfl ?_
                refine WL.val (Value.int .i64 (w64 ((w64 ((w64 (x166 - x291)) + x432)) - x529))) _ (op_assign rfl) rfl ?_
                refine WL.nil ?_
                show W _ _ _ _ _ _
                obtain ⟨x607, hx610, hb81⟩ := bs hb81
                obtain ⟨ha608, hb609, hx610⟩ := idx_some hx610
                obtain ⟨u621, hc622, hr623⟩ := repSl.el (St.rep (t := (Ty.sl (Ty.sl (Ty.sl (Ty.i .i64))))) hS554 2 rfl) hx610
                obtain ⟨x646, hx649, hb81⟩ := bs hb81
                obtain ⟨ha647, hb648, hx649⟩ := idx_some hx649
                obtain ⟨u660, hc661, hr662⟩ := repSl.el hr623 hx649
                obtain ⟨x734, hz735, hb81⟩ := bs hb81
                obtain ⟨h0736, hz735⟩ := remI_some hz735
                refine W.drawR mixo 15 [] [fun _ v _ _ => v = (Value.pointer (some ⟨b20, 2, none⟩)), fun _ v _ _ => v = u15, fun _ v _ _ => v = (Value.int .i64 (k28 : Int)) ∧ InR .i64 (k28 : Int), fun _ v _ _ => v = (Value.pointer (some (elA u15 ((k28 : Int)).toNat))), fun _ v _ _ => v = u621, fun _ v _ _ => v = (Value.int .i64 (k51 : Int)) ∧ InR .i64 (k51 : Int), fun _ v _ _ => v = (Value.pointer (some (elA u621 ((k51 : Int)).toNat))), fun _ v _ _ => v = u660, fun _ v _ _ => v = (Value.int .i64 (k75 : Int)) ∧ InR .i64 (k75 : Int), fun _ v _ _ => v = (Value.int .i64 (w64 ((w64 ((w64 (x166 - x291)) + x432)) - x529))) ∧ InR .i64 (w64 ((w64 ((w64 (x166 - x291)) + x432)) - x529)), fun _ v _ _ => v = (Value.int .i64 m) ∧ InR .i64 m, fun _ v _ _ => v = (Value.int .i64 (w64 ((2 : Int) * m))) ∧ InR .i64 (w64 ((2 : Int) * m)), fun _ v _ _ => v = (Value.int .i64 (w64 ((w64 ((w64 ((w64 (x166 - x291)) + x432)) - x529)) + (w64 ((2 : Int) * m))))) ∧ InR .i64 (w64 ((w64 ((w64 ((w64 (x166 - x291)) + x432)) - x529)) + (w64 ((2 : Int) * m)))), fun _ v _ _ => v = (Value.int .i64 m) ∧ InR .i64 m, fun _ v _ _ => v = (Value.int .i64 x734) ∧ InR .i64 x734] (by kernel_rfl) (by kernel_rfl) ⟨pk, pk, pk, pk, pk, pk, pk, pk, pk, pk, pk, pk, pk, pk, pk, trivial⟩ ⟨?_, ?_, ?_, ?_, ?_, ?_, ?_, ?_, ?_, ?_, ?_, ?_, ?_, ?_, ?_, trivial⟩ ?_
                · refine ObX.op rfl fun f568 wd569 he570 hout571 hphi572 => ?_
                  have e574 : f568 8 = (Value.pointer (some ⟨b20, 0, none⟩)) := (hout571 8 rfl).trans e564
                  exact OpX.val (Value.pointer (some ⟨b20, 2, none⟩)) wd569 rfl (op_fieldAddr fd_29_2 e574) (Ext.refl _) rfl
                · refine ObX.op rfl fun f575 wd576 he577 hout578 hphi579 => ?_
                  have hS580 := St.extend hS554 he577
                  obtain ⟨S581, hS582, hf583⟩ := hphi579 0 73 _ rfl rfl rfl
                  have e584 : f575 73 = (Value.pointer (some ⟨b20, 2, none⟩)) := hf583
                  exact OpX.val u15 wd576 rfl (op_load one_23 e584 (BoxAt.cell (St.boxAt hS580 3 rfl) rfl)) (Ext.refl _) rfl
                · refine ObX.op rfl fun f585 wd586 he587 hout588 hphi589 => ?_
                  have e591 : f585 9 = (Value.int .i64 (k28 : Int)) := (hout588 9 rfl).trans e565
                  exact OpX.val (Value.int .i64 (k28 : Int)) wd586 rfl (op_move e591) (Ext.refl _) ⟨rfl, hr45⟩
                · refine ObX.op rfl fun f592 wd593 he594 hout595 hphi596 => ?_
                  have hS597 := St.extend hS554 he594
                  obtain ⟨S598, hS599, hf600⟩ := hphi596 1 74 _ rfl rfl rfl
                  have e601 : f592 74 = u15 := hf600
                  obtain ⟨S602, hS603, hf604⟩ := hphi596 2 75 _ rfl rfl rfl
                  obtain ⟨e605, hr606⟩ := hf604
                  exact OpX.val (Value.pointer (some (elA u15 ((k28 : Int)).toNat))) wd593 rfl (op_idx sl_23 (St.rep (t := (Ty.sl (Ty.sl (Ty.sl (Ty.i .i64))))) hS597 2 rfl) e601 e605 ha608 hb609) (Ext.refl _) rfl
                · refine ObX.op rfl fun f611 wd612 he613 hout614 hphi615 => ?_
                  obtain ⟨S617, hS618, hf619⟩ := hphi615 3 76 _ rfl rfl rfl
                  have e620 : f611 76 = (Value.pointer (some (elA u15 ((k28 : Int)).toNat))) := hf619
                  exact OpX.val u621 wd612 rfl (op_load one_37 e620 (Ext.cell he613 hc622)) (Ext.refl _) rfl
                · refine ObX.op rfl fun f624 wd625 he626 hout627 hphi628 => ?_
                  have e630 : f624 10 = (Value.int .i64 (k51 : Int)) := (hout627 10 rfl).trans e566
                  exact OpX.val (Value.int .i64 (k51 : Int)) wd625 rfl (op_move e630) (Ext.refl _) ⟨rfl, hr69⟩
                · refine ObX.op rfl fun f631 wd632 he633 hout634 hphi635 => ?_
                  obtain ⟨S637, hS638, hf639⟩ := hphi635 4 77 _ rfl rfl rfl
                  have e640 : f631 77 = u621 := hf639
                  obtain ⟨S641, hS642, hf643⟩ := hphi635 5 78 _ rfl rfl rfl
                  obtain ⟨e644, hr645⟩ := hf643
                  exact OpX.val (Value.pointer (some (elA u621 ((k51 : Int)).toNat))) wd632 rfl (op_idx sl_37 (Ty.lift _ he633 hr623) e640 e644 ha647 hb648) (Ext.refl _) rfl
                · refine ObX.op rfl fun f650 wd651 he652 hout653 hphi654 => ?_
                  obtain ⟨S656, hS657, hf658⟩ := hphi654 6 79 _ rfl rfl rfl
                  have e659 : f650 79 = (Value.pointer (some (elA u621 ((k51 : Int)).toNat))) := hf658
                  exact OpX.val u660 wd651 rfl (op_load one_22 e659 (Ext.cell he652 hc661)) (Ext.refl _) rfl
                · refine ObX.op rfl fun f663 wd664 he665 hout666 hphi667 => ?_
                  have e669 : f663 11 = (Value.int .i64 (k75 : Int)) := (hout666 11 rfl).trans e567
                  exact OpX.val (Value.int .i64 (k75 : Int)) wd664 rfl (op_move e669) (Ext.refl _) ⟨rfl, hr94⟩
                · refine ObX.op rfl fun f670 wd671 he672 hout673 hphi674 => ?_
                  have e676 : f670 12 = (Value.int .i64 (w64 ((w64 ((w64 (x166 - x291)) + x432)) - x529))) := (hout673 12 rfl).trans rfl
                  exact OpX.val (Value.int .i64 (w64 ((w64 ((w64 (x166 - x291)) + x432)) - x529))) wd671 rfl (op_move e676) (Ext.refl _) ⟨rfl, (inR_wrap _ _)⟩
                · refine ObX.op rfl fun f677 wd678 he679 hout680 hphi681 => ?_
                  have e683 : f677 1 = (Value.int .i64 m) := (hout680 1 rfl).trans e560
                  exact OpX.val (Value.int .i64 m) wd678 rfl (op_move e683) (Ext.refl _) ⟨rfl, r_m⟩
                · refine ObX.op rfl fun f684 wd685 he686 hout687 hphi688 => ?_
                  obtain ⟨S690, hS691, hf692⟩ := hphi688 10 83 _ rfl rfl rfl
                  obtain ⟨e693, hr694⟩ := hf692
                  exact OpX.val (Value.int .i64 (w64 ((2 : Int) * m))) wd685 rfl (op_mul rfl e693) (Ext.refl _) ⟨rfl, (inR_wrap _ _)⟩
                · refine ObX.op rfl fun f695 wd696 he697 hout698 hphi699 => ?_
                  obtain ⟨S701, hS702, hf703⟩ := hphi699 9 82 _ rfl rfl rfl
                  obtain ⟨e704, hr705⟩ := hf703
                  obtain ⟨S706, hS707, hf708⟩ := hphi699 11 84 _ rfl rfl rfl
                  obtain ⟨e709, hr710⟩ := hf708
                  exact OpX.val (Value.int .i64 (w64 ((w64 ((w64 ((w64 (x166 - x291)) + x432)) - x529)) + (w64 ((2 : Int) * m))))) wd696 rfl (op_add e704 e709) (Ext.refl _) ⟨rfl, (inR_wrap _ _)⟩
                · refine ObX.op rfl fun f711 wd712 he713 hout714 hphi715 => ?_
                  have e717 : f711 1 = (Value.int .i64 m) := (hout714 1 rfl).trans e560
                  exact OpX.val (Value.int .i64 m) wd712 rfl (op_move e717) (Ext.refl _) ⟨rfl, r_m⟩
                · refine ObX.op rfl fun f718 wd719 he720 hout721 hphi722 => ?_
                  obtain ⟨S724, hS725, hf726⟩ := hphi722 12 85 _ rfl rfl rfl
                  obtain ⟨e727, hr728⟩ := hf726
                  obtain ⟨S729, hS730, hf731⟩ := hphi722 13 86 _ rfl rfl rfl
                  obtain ⟨e732, hr733⟩ := hf731
                  have hr737 : InR .i64 x734 := by rw [hz735]; exact inR_tmod hr728
                  exact OpX.val (Value.int .i64 x734) wd719 rfl (by rw [hz735]; exact op_rem e727 e732 h0736) (Ext.refl _) ⟨rfl, hr737⟩
                · intro f738 wd739 Ss740 he741 hout742 hSn743 hSd744 hphi745
                  show WL _ _ _ _ _ _ _
                  have hS746 := St.extend hS554 he741
                  have e747 : f738 80 = u660 := hphi745 7 80 _ (by decide) rfl rfl
                  obtain ⟨e748, hr749⟩ := hphi745 8 81 _ (by decide) rfl rfl
                  obtain ⟨e750, hr751⟩ := hphi745 14 87 _ (by decide) rfl rfl
                  have e752 : f738 0 = v_orders := (hout742 0 rfl).trans e559
                  have e753 : f738 1 = (Value.int .i64 m) := (hout742 1 rfl).trans e560
                  have e754 : f738 2 = v_f1 := (hout742 2 rfl).trans e561
                  have e755 : f738 6 = (Value.pointer (some ⟨b1, 0, none⟩)) := (hout742 6 rfl).trans e562
                  have e756 : f738 7 = (Value.int .i64 ((f1).length : Int)) := (hout742 7 rfl).trans e563
                  have e757 : f738 8 = (Value.pointer (some ⟨b20, 0, none⟩)) := (hout742 8 rfl).trans e564
                  have e758 : f738 9 = (Value.int .i64 (k28 : Int)) := (hout742 9 rfl).trans e565
                  have e759 : f738 10 = (Value.int .i64 (k51 : Int)) := (hout742 10 rfl).trans e566
                  have e760 : f738 11 = (Value.int .i64 (k75 : Int)) := (hout742 11 rfl).trans e567
                  obtain ⟨x761, hx764, hb81⟩ := bs hb81
                  obtain ⟨ha762, hb763, hx764⟩ := idx_some hx764
                  refine WL.val (Value.pointer (some (elA u660 ((k75 : Int)).toNat))) _ (op_idx sl_22 (Ty.lift _ he741 hr662) e747 e748 ha762 hb763) rfl ?_
                  refine WL.storeEl3 (flat_i .i64) hS746 (k := 2) rfl sz_2 hx610 hx649 (Ext.cell he741 hc622) (Ext.cell he741 hc661) rfl e750 (lt_of_idx ha762 hb763) ⟨rfl, hr751⟩ ?_
                  intro wd765 hS766
                  replace hS766 : St w wd765 [bx b1 [(Value.slice none 0 0), (Value.int .i64 (0 : Int)), (Value.slice none 0 0)], (Ty.sl (Ty.i .i64)).at u8 x6, (Ty.sl (Ty.sl (Ty.sl (Ty.i .i64)))).at u15 ((x76).set ((k28 : Int)).toNat ((x607).set ((k51 : Int)).toNat ((x646).set ((k75 : Int)).toNat x734))), bx b20 [u8, (Value.int .i64 m), u15]] := hS766
                  refine WL.nil ?_
                  show W _ _ _ _ _ _
                  refine W.region ?_
                  refine WL.val (Value.int .i64 (k75 : Int)) _ (op_move e760) rfl ?_
                  refine WL.val (Value.int .i64 (w64 ((k75 : Int) + (1 : Int)))) _ (op_add rfl rfl) rfl ?_
                  refine WL.val (Value.int .i64 (w64 ((k75 : Int) + (1 : Int)))) _ (op_assign rfl) rfl ?_
                  refine WL.nil ?_
                  obtain rfl := Option.some.inj hb81
                  show ∃ s, _ = Ctl.next s ∧ _
                  exact ⟨_, rfl, e752, e753, e754, e755, e756, e757, e758, e759, (ctr_next hl96 hr5), (ctr_rng hl96 hr5), hS766⟩
            · intro x773 f768 wd769 hs770 hI771
              replace hI771 : f768 0 = v_orders ∧ f768 1 = (Value.int .i64 m) ∧ f768 2 = v_f1 ∧ f768 6 = (Value.pointer (some ⟨b1, 0, none⟩)) ∧ f768 7 = (Value.int .i64 ((f1).length : Int)) ∧ f768 8 = (Value.pointer (some ⟨b20, 0, none⟩)) ∧ f768 9 = (Value.int .i64 (k28 : Int)) ∧ f768 10 = (Value.int .i64 (k51 : Int)) ∧ f768 11 = Value.int .i64 (((f1).length : Nat) : Int) ∧ InR .i64 (((f1).length : Nat) : Int) ∧ St w wd769 [bx b1 [(Value.slice none 0 0), (Value.int .i64 (0 : Int)), (Value.slice none 0 0)], (Ty.sl (Ty.i .i64)).at u8 x6, (Ty.sl (Ty.sl (Ty.sl (Ty.i .i64)))).at u15 x773, bx b20 [u8, (Value.int .i64 m), u15]] := hI771
              obtain ⟨hf774, hf775, hf776, hf777, hf778, hf779, hf780, hf781, hf782, hr783, hS784⟩ := hI771
              refine W.seq (W.seq (W.region ?_))
              refine WL.val (Value.int .i64 (((f1).length : Nat) : Int)) _ (op_move hf782) rfl ?_
              refine WL.val (Value.int .i64 ((f1).length : Int)) _ (op_move hf778) rfl ?_
              refine WL.val (Value.bool (decide ((((f1).length : Nat) : Int) < ((f1).length : Int)))) _ (op_lss rfl rfl) rfl ?_
              have hl785 : ¬ (((f1).length : Nat) : Int) < ((f1).length : Int) := by omega
              refine WL.nil ?_
              refine W.condF (decide ((((f1).length : Nat) : Int) < ((f1).length : Int))) rfl (decide_eq_false hl785) ?_
              refine W.exit ?_
              show _ = _ ∧ _
              exact ⟨rfl, _, hs770, hf774, hf775, hf776, hf777, hf778, hf779, hf780, hf781, hS784⟩
          · rintro f786 wd787 ⟨x790, rfl, hq788⟩
            replace hb57 := onRes_fin hb57
            replace hq788 : f786 0 = v_orders ∧ f786 1 = (Value.int .i64 m) ∧ f786 2 = v_f1 ∧ f786 6 = (Value.pointer (some ⟨b1, 0, none⟩)) ∧ f786 7 = (Value.int .i64 ((f1).length : Int)) ∧ f786 8 = (Value.pointer (some ⟨b20, 0, none⟩)) ∧ f786 9 = (Value.int .i64 (k28 : Int)) ∧ f786 10 = (Value.int .i64 (k51 : Int)) ∧ St w wd787 [bx b1 [(Value.slice none 0 0), (Value.int .i64 (0 : Int)), (Value.slice none 0 0)], (Ty.sl (Ty.i .i64)).at u8 x6, (Ty.sl (Ty.sl (Ty.sl (Ty.i .i64)))).at u15 x790, bx b20 [u8, (Value.int .i64 m), u15]] := hq788
            obtain ⟨hf791, hf792, hf793, hf794, hf795, hf796, hf797, hf798, hS799⟩ := hq788
            show W _ _ _ _ _ _
            refine W.region ?_
            refine WL.val (Value.int .i64 (k51 : Int)) _ (op_move hf798) rfl ?_
            refine WL.val (Value.int .i64 (w64 ((k51 : Int) + (1 : Int)))) _ (op_add rfl rfl) rfl ?_
            refine WL.val (Value.int .i64 (w64 ((k51 : Int) + (1 : Int)))) _ (op_assign rfl) rfl ?_
            refine WL.nil ?_
            obtain rfl := Option.some.inj hb57
            show ∃ s, _ = Ctl.next s ∧ _
            exact ⟨_, rfl, hf791, hf792, hf793, hf794, hf795, hf796, hf797, (ctr_next hl71 hr5), (ctr_rng hl71 hr5), hS799⟩
        · intro x807 f802 wd803 hs804 hI805
          replace hI805 : f802 0 = v_orders ∧ f802 1 = (Value.int .i64 m) ∧ f802 2 = v_f1 ∧ f802 6 = (Value.pointer (some ⟨b1, 0, none⟩)) ∧ f802 7 = (Value.int .i64 ((f1).length : Int)) ∧ f802 8 = (Value.pointer (some ⟨b20, 0, none⟩)) ∧ f802 9 = (Value.int .i64 (k28 : Int)) ∧ f802 10 = Value.int .i64 (((f1).length : Nat) : Int) ∧ InR .i64 (((f1).length : Nat) : Int) ∧ St w wd803 [bx b1 [(Value.slice none 0 0), (Value.int .i64 (0 : Int)), (Value.slice none 0 0)], (Ty.sl (Ty.i .i64)).at u8 x6, (Ty.sl (Ty.sl (Ty.sl (Ty.i .i64)))).at u15 x807, bx b20 [u8, (Value.int .i64 m), u15]] := hI805
          obtain ⟨hf808, hf809, hf810, hf811, hf812, hf813, hf814, hf815, hr816, hS817⟩ := hI805
          refine W.seq (W.seq (W.region ?_))
          refine WL.val (Value.int .i64 (((f1).length : Nat) : Int)) _ (op_move hf815) rfl ?_
          refine WL.val (Value.int .i64 ((f1).length : Int)) _ (op_move hf812) rfl ?_
          refine WL.val (Value.bool (decide ((((f1).length : Nat) : Int) < ((f1).length : Int)))) _ (op_lss rfl rfl) rfl ?_
          have hl818 : ¬ (((f1).length : Nat) : Int) < ((f1).length : Int) := by omega
          refine WL.nil ?_
          refine W.condF (decide ((((f1).length : Nat) : Int) < ((f1).length : Int))) rfl (decide_eq_false hl818) ?_
          refine W.exit ?_
          show _ = _ ∧ _
          exact ⟨rfl, _, hs804, hf808, hf809, hf810, hf811, hf812, hf813, hf814, hS817⟩
      · rintro f819 wd820 ⟨x823, rfl, hq821⟩
        replace hb34 := onRes_fin hb34
        replace hq821 : f819 0 = v_orders ∧ f819 1 = (Value.int .i64 m) ∧ f819 2 = v_f1 ∧ f819 6 = (Value.pointer (some ⟨b1, 0, none⟩)) ∧ f819 7 = (Value.int .i64 ((f1).length : Int)) ∧ f819 8 = (Value.pointer (some ⟨b20, 0, none⟩)) ∧ f819 9 = (Value.int .i64 (k28 : Int)) ∧ St w wd820 [bx b1 [(Value.slice none 0 0), (Value.int .i64 (0 : Int)), (Value.slice none 0 0)], (Ty.sl (Ty.i .i64)).at u8 x6, (Ty.sl (Ty.sl (Ty.sl (Ty.i .i64)))).at u15 x823, bx b20 [u8, (Value.int .i64 m), u15]] := hq821
        obtain ⟨hf824, hf825, hf826, hf827, hf828, hf829, hf830, hS831⟩ := hq821
        show W _ _ _ _ _ _
        refine W.region ?_
        refine WL.val (Value.int .i64 (k28 : Int)) _ (op_move hf830) rfl ?_
        refine WL.val (Value.int .i64 (w64 ((k28 : Int) + (1 : Int)))) _ (op_add rfl rfl) rfl ?_
        refine WL.val (Value.int .i64 (w64 ((k28 : Int) + (1 : Int)))) _ (op_assign rfl) rfl ?_
        refine WL.nil ?_
        obtain rfl := Option.some.inj hb34
        show ∃ s, _ = Ctl.next s ∧ _
        exact ⟨_, rfl, hf824, hf825, hf826, hf827, hf828, hf829, (ctr_next hl47 hr5), (ctr_rng hl47 hr5), hS831⟩
    · intro x839 f834 wd835 hs836 hI837
      replace hI837 : f834 0 = v_orders ∧ f834 1 = (Value.int .i64 m) ∧ f834 2 = v_f1 ∧ f834 6 = (Value.pointer (some ⟨b1, 0, none⟩)) ∧ f834 7 = (Value.int .i64 ((f1).length : Int)) ∧ f834 8 = (Value.pointer (some ⟨b20, 0, none⟩)) ∧ f834 9 = Value.int .i64 (((f1).length : Nat) : Int) ∧ InR .i64 (((f1).length : Nat) : Int) ∧ St w wd835 [bx b1 [(Value.slice none 0 0), (Value.int .i64 (0 : Int)), (Value.slice none 0 0)], (Ty.sl (Ty.i .i64)).at u8 x6, (Ty.sl (Ty.sl (Ty.sl (Ty.i .i64)))).at u15 x839, bx b20 [u8, (Value.int .i64 m), u15]] := hI837
      obtain ⟨hf840, hf841, hf842, hf843, hf844, hf845, hf846, hr847, hS848⟩ := hI837
      refine W.seq (W.seq (W.region ?_))
      refine WL.val (Value.int .i64 (((f1).length : Nat) : Int)) _ (op_move hf846) rfl ?_
      refine WL.val (Value.int .i64 ((f1).length : Int)) _ (op_move hf844) rfl ?_
      refine WL.val (Value.bool (decide ((((f1).length : Nat) : Int) < ((f1).length : Int)))) _ (op_lss rfl rfl) rfl ?_
      have hl849 : ¬ (((f1).length : Nat) : Int) < ((f1).length : Int) := by omega
      refine WL.nil ?_
      refine W.condF (decide ((((f1).length : Nat) : Int) < ((f1).length : Int))) rfl (decide_eq_false hl849) ?_
      refine W.exit ?_
      show _ = _ ∧ _
      exact ⟨rfl, _, hs836, hf843, hf845, hS848⟩
  · rintro f850 wd851 ⟨x854, rfl, hq852⟩
    replace h := onRes_fin h
    replace hq852 : f850 6 = (Value.pointer (some ⟨b1, 0, none⟩)) ∧ f850 8 = (Value.pointer (some ⟨b20, 0, none⟩)) ∧ St w wd851 [bx b1 [(Value.slice none 0 0), (Value.int .i64 (0 : Int)), (Value.slice none 0 0)], (Ty.sl (Ty.i .i64)).at u8 x6, (Ty.sl (Ty.sl (Ty.sl (Ty.i .i64)))).at u15 x854, bx b20 [u8, (Value.int .i64 m), u15]] := hq852
    obtain ⟨hf855, hf856, hS857⟩ := hq852
    refine W.seq (W.region ?_)
    refine WL.val (Value.agg #[u8, (Value.int .i64 m), u15]) _ (op_loadBox st_29 hf856 (St.boxAt hS857 3 rfl) rfl rfl) rfl ?_
    refine WL.storeBox [u8, (Value.int .i64 m), u15] hS857 (k := 0) rfl hf855 rfl (us := [u8, (Value.int .i64 m), u15]) rfl sz_29 rfl rfl (all_rep (St.rep (t := (Ty.sl (Ty.i .i64))) hS857 1 rfl) (all_cons rfl (all_rep (St.rep (t := (Ty.sl (Ty.sl (Ty.sl (Ty.i .i64))))) hS857 2 rfl) all_nil))) rfl ?_
    intro wd858 hS859
    replace hS859 : St w wd858 [bx b1 [u8, (Value.int .i64 m), u15], (Ty.sl (Ty.i .i64)).at u8 x6, (Ty.sl (Ty.sl (Ty.sl (Ty.i .i64)))).at u15 x854, bx b20 [u8, (Value.int .i64 m), u15]] := hS859
    refine WL.nil ?_
    refine W.ret ?_
    obtain rfl := Option.some.inj h
    show FinP _ _ _ _ _ _ _
    exact FinP.ret _ (resC rfl hf855 st_29 (St.boxAt hS859 0 rfl) rfl) ⟨u8, u15, rfl, r_m, hS859.ext, (St.out (St.pick hS859 [1, 2] rfl) (Ext.refl _))⟩

end Go.VG
