/- The walks, part 1: each Go function returns what its plain twin returns. No condition beyond what each names. -/
import Derived.Test.YtbgebkgpodgjdaaGPure
import Derived.Test.YtbgebkgpodgjdaaGFacts
set_option linter.all false
namespace Go.VG
open Go.Proofs
attribute [local irreducible] W WL Sep FinP

theorem c_laws_szInt64S {w : World} {a : (List Int)} {v_a : Value} {left : Int} (r_a : (Ty.sl (Ty.i .i64)).rep w v_a a) (r_left : InR .i64 left) {res : Int} (h : p_laws_szInt64S a left  = some res) :
    Ret Try.prog 22 #[v_a, (Value.int .i64 left)] w (fun v w' => v = Value.int .i64 res ∧ InR .i64 res ∧ Ext w w') := by
  unfold p_laws_szInt64S at h
  have hS0 : St w w [] := St.start w
  refine Ret.start (fn := Try.f22) Try.func22 rfl 12 rfl rfl ?_
  refine W.seq (W.region ?_)
  refine WL.val (Value.int .i64 (0 : Int)) _ (op_assign rfl) rfl ?_
  refine WL.nil ?_
  refine W.seq (W.region ?_)
  refine WL.val (Value.int .i64 left) _ (op_move rfl) rfl ?_
  refine WL.val v_a _ (op_move rfl) rfl ?_
  have hr1 := inR_len (Ty.lift _ hS0.ext r_a)
  refine WL.val (Value.int .i64 ((a).length : Int)) _ (op_lenL sl_36 (Ty.lift _ hS0.ext r_a) rfl) rfl ?_
  refine WL.val (Value.int .i64 (w64 (left - ((a).length : Int)))) _ (op_sub rfl rfl) rfl ?_
  refine WL.val (Value.int .i64 (w64 (left - ((a).length : Int)))) _ (op_assign rfl) rfl ?_
  refine WL.nil ?_
  refine W.seq (W.seq (W.region ?_))
  refine WL.val (Value.int .i64 (w64 (left - ((a).length : Int)))) _ (op_move rfl) rfl ?_
  refine WL.val (Value.bool (decide ((w64 (left - ((a).length : Int))) < (0 : Int)))) _ (op_lss rfl rfl) rfl ?_
  refine WL.nil ?_
  refine W.cond (decide ((w64 (left - ((a).length : Int))) < (0 : Int))) rfl (fun hc2 => ?_) (fun hc2 => ?_)
  · replace h := ip h hc2
    refine W.seq (W.region ?_)
    refine WL.val (Value.int .i64 (-1 : Int)) _ (op_assign rfl) rfl ?_
    refine WL.nil ?_
    refine W.ret ?_
    obtain rfl := Option.some.inj h
    show FinP _ _ _ _ _ _ _
    exact FinP.ret _ (res1 rfl rfl) ⟨rfl, (inR_i64.2 (show (-9223372036854775808 : Int) ≤ -1 ∧ (-1 : Int) ≤ 9223372036854775807 from by decide)), hS0.ext⟩
  · replace h := inegb h hc2
    refine W.skip ?_
    refine W.seq (W.region ?_)
    refine WL.val (Value.int .i64 (w64 (left - ((a).length : Int)))) _ (op_move rfl) rfl ?_
    refine WL.val (Value.int .i64 (w64 (left - ((a).length : Int)))) _ (op_assign rfl) rfl ?_
    refine WL.nil ?_
    refine W.ret ?_
    obtain rfl := Option.some.inj h
    show FinP _ _ _ _ _ _ _
    exact FinP.ret _ (res1 rfl rfl) ⟨rfl, (inR_wrap _ _), hS0.ext⟩

theorem c_laws_szInt64SS {w : World} {a : (List (List Int))} {v_a : Value} {left : Int} (r_a : (Ty.sl (Ty.sl (Ty.i .i64))).rep w v_a a) (r_left : InR .i64 left) {res : Int} (h : p_laws_szInt64SS a left  = some res) :
    Ret Try.prog 6 #[v_a, (Value.int .i64 left)] w (fun v w' => v = Value.int .i64 res ∧ InR .i64 res ∧ Ext w w') := by
  unfold p_laws_szInt64SS at h
  have hS0 : St w w [] := St.start w
  refine Ret.start (fn := Try.f6) Try.func6 rfl 27 rfl rfl ?_
  refine W.seq (W.region ?_)
  refine WL.val (Value.int .i64 (0 : Int)) _ (op_assign rfl) rfl ?_
  refine WL.nil ?_
  refine W.seq (W.region ?_)
  refine WL.val (Value.int .i64 left) _ (op_move rfl) rfl ?_
  refine WL.val v_a _ (op_move rfl) rfl ?_
  have hr1 := inR_len (Ty.lift _ hS0.ext r_a)
  refine WL.val (Value.int .i64 ((a).length : Int)) _ (op_lenL sl_25 (Ty.lift _ hS0.ext r_a) rfl) rfl ?_
  refine WL.val (Value.int .i64 (w64 (left - ((a).length : Int)))) _ (op_sub rfl rfl) rfl ?_
  refine WL.val (Value.int .i64 (w64 (left - ((a).length : Int)))) _ (op_assign rfl) rfl ?_
  refine WL.nil ?_
  refine W.seq (W.seq (W.region ?_))
  refine WL.val (Value.int .i64 (w64 (left - ((a).length : Int)))) _ (op_move rfl) rfl ?_
  refine WL.val (Value.bool (decide ((w64 (left - ((a).length : Int))) < (0 : Int)))) _ (op_lss rfl rfl) rfl ?_
  refine WL.nil ?_
  refine W.cond (decide ((w64 (left - ((a).length : Int))) < (0 : Int))) rfl (fun hc2 => ?_) (fun hc2 => ?_)
  · replace h := ip h hc2
    refine W.seq (W.region ?_)
    refine WL.val (Value.int .i64 (-1 : Int)) _ (op_assign rfl) rfl ?_
    refine WL.nil ?_
    refine W.ret ?_
    obtain rfl := Option.some.inj h
    show FinP _ _ _ _ _ _ _
    exact FinP.ret _ (res1 rfl rfl) ⟨rfl, (inR_i64.2 (show (-9223372036854775808 : Int) ≤ -1 ∧ (-1 : Int) ≤ 9223372036854775807 from by decide)), hS0.ext⟩
  · replace h := inegb h hc2
    refine W.skip ?_
    refine W.seq (W.seq (W.region ?_))
    refine WL.val (Value.int .i64 (0 : Int)) _ (op_assign rfl) rfl ?_
    refine WL.nil ?_
    show W _ _ _ _ _ _
    obtain ⟨res4, hres5, h⟩ := bs h
    refine W.blockLoop (fun fq wq => ∃ s, res4 = Res.fin s ∧ fq 1 = Value.int .i64 s ∧ InR .i64 s ∧ St w wq []) ?_ ?_
    · refine W.forN (fun k (s : Int) fq wq => fq 0 = v_a ∧ fq 1 = Value.int .i64 s ∧ InR .i64 s ∧ fq 5 = Value.int .i64 (k : Int) ∧ InR .i64 (k : Int) ∧ St w wq []) hres5 ⟨rfl, rfl, (inR_wrap _ _), rfl, (inL rfl), hS0⟩ ?_ ?_
      · intro k6 x7 ct8 f9 wd10 hk11 hb12 hI13 hbrk14 hret15
        replace hI13 : f9 0 = v_a ∧ f9 1 = Value.int .i64 x7 ∧ InR .i64 x7 ∧ f9 5 = Value.int .i64 (k6 : Int) ∧ InR .i64 (k6 : Int) ∧ St w wd10 [] := hI13
        replace hb12 : p_laws_szInt64SS_L1 a k6 x7 = some ct8 := hb12
        unfold p_laws_szInt64SS_L1 at hb12
        obtain ⟨hf16, hf17, hr18, hf19, hr20, hS21⟩ := hI13
        refine W.seq (W.seq (W.region ?_))
        refine WL.val (Value.int .i64 (k6 : Int)) _ (op_move hf19) rfl ?_
        refine WL.val v_a _ (op_move hf16) rfl ?_
        have hr22 := inR_len (Ty.lift _ hS21.ext r_a)
        refine WL.val (Value.int .i64 ((a).length : Int)) _ (op_lenL sl_25 (Ty.lift _ hS21.ext r_a) rfl) rfl ?_
        refine WL.val (Value.bool (decide ((k6 : Int) < ((a).length : Int)))) _ (op_lss rfl rfl) rfl ?_
        have hl23 : (k6 : Int) < ((a).length : Int) := by omega
        refine WL.nil ?_
        refine W.condT (decide ((k6 : Int) < ((a).length : Int))) rfl (decide_eq_true hl23) ?_
        refine W.skip ?_
        refine W.seq ?_
        refine W.block ?_
        refine W.seq (W.region ?_)
        refine WL.val v_a _ (op_move hf16) rfl ?_
        refine WL.val (Value.int .i64 (k6 : Int)) _ (op_move hf19) rfl ?_
        obtain ⟨x25, hx28, hb12⟩ := bs hb12
        obtain ⟨ha26, hb27, hx28⟩ := idx_some hx28
        refine WL.val (Value.pointer (some (elA v_a ((k6 : Int)).toNat))) _ (op_idx sl_25 (Ty.lift _ hS21.ext r_a) rfl rfl ha26 hb27) rfl ?_
        obtain ⟨u29, hc30, hr31⟩ := repSl.el r_a hx28
        refine WL.val u29 _ (op_load one_36 rfl (Ext.cell hS21.ext hc30)) rfl ?_
        refine WL.val (Value.int .i64 x7) _ (op_move hf17) rfl ?_
        obtain ⟨x32, hx33, hb12⟩ := bs hb12
        refine WL.call _ (op_call fn_22 (args2 rfl rfl)) (c_laws_szInt64S (Ty.lift _ hS21.ext hr31) hr18 hx33) rfl ?_
        rintro _ wd35 ⟨rfl, hr34, he36⟩
        have hS38 := St.extend hS21 he36
        replace hS38 : St w wd35 [] := hS38
        refine WL.val (Value.int .i64 x32) _ (op_assign rfl) rfl ?_
        refine WL.nil ?_
        refine W.seq (W.region ?_)
        refine WL.val (Value.int .i64 x32) _ (op_move rfl) rfl ?_
        refine WL.val (Value.bool (decide (x32 < (0 : Int)))) _ (op_lss rfl rfl) rfl ?_
        refine WL.nil ?_
        refine W.cond (decide (x32 < (0 : Int))) rfl (fun hc39 => ?_) (fun hc39 => ?_)
        · replace hb12 := ip hb12 hc39
          refine W.seq (W.region ?_)
          refine WL.val (Value.int .i64 (-1 : Int)) _ (op_assign rfl) rfl ?_
          refine WL.nil ?_
          refine W.ret ?_
          obtain rfl := Option.some.inj hb12
          obtain rfl := hret15 _ rfl
          replace h := onRes_ret h
          obtain rfl := Option.some.inj h
          show FinP _ _ _ _ _ _ _
          exact FinP.ret _ (res1 rfl rfl) ⟨rfl, (inR_i64.2 (show (-9223372036854775808 : Int) ≤ -1 ∧ (-1 : Int) ≤ 9223372036854775807 from by decide)), hS38.ext⟩
        · replace hb12 := inegb hb12 hc39
          refine W.skip ?_
          show W _ _ _ _ _ _
          refine W.region ?_
          refine WL.val (Value.int .i64 (k6 : Int)) _ (op_move hf19) rfl ?_
          refine WL.val (Value.int .i64 (w64 ((k6 : Int) + (1 : Int)))) _ (op_add rfl rfl) rfl ?_
          refine WL.val (Value.int .i64 (w64 ((k6 : Int) + (1 : Int)))) _ (op_assign rfl) rfl ?_
          refine WL.nil ?_
          obtain rfl := Option.some.inj hb12
          show ∃ s, _ = Ctl.next s ∧ _
          exact ⟨_, rfl, hf16, rfl, hr34, (ctr_next hl23 hr22), (ctr_rng hl23 hr22), hS38⟩
      · intro x47 f42 wd43 hs44 hI45
        replace hI45 : f42 0 = v_a ∧ f42 1 = Value.int .i64 x47 ∧ InR .i64 x47 ∧ f42 5 = Value.int .i64 (((a).length : Nat) : Int) ∧ InR .i64 (((a).length : Nat) : Int) ∧ St w wd43 [] := hI45
        obtain ⟨hf48, hf49, hr50, hf51, hr52, hS53⟩ := hI45
        refine W.seq (W.seq (W.region ?_))
        refine WL.val (Value.int .i64 (((a).length : Nat) : Int)) _ (op_move hf51) rfl ?_
        refine WL.val v_a _ (op_move hf48) rfl ?_
        have hr54 := inR_len (Ty.lift _ hS53.ext r_a)
        refine WL.val (Value.int .i64 ((a).length : Int)) _ (op_lenL sl_25 (Ty.lift _ hS53.ext r_a) rfl) rfl ?_
        refine WL.val (Value.bool (decide ((((a).length : Nat) : Int) < ((a).length : Int)))) _ (op_lss rfl rfl) rfl ?_
        have hl55 : ¬ (((a).length : Nat) : Int) < ((a).length : Int) := by omega
        refine WL.nil ?_
        refine W.condF (decide ((((a).length : Nat) : Int) < ((a).length : Int))) rfl (decide_eq_false hl55) ?_
        refine W.exit ?_
        show _ = _ ∧ _
        exact ⟨rfl, _, hs44, hf49, hr50, hS53⟩
    · rintro f56 wd57 ⟨x60, rfl, hq58⟩
      replace h := onRes_fin h
      replace hq58 : f56 1 = Value.int .i64 x60 ∧ InR .i64 x60 ∧ St w wd57 [] := hq58
      obtain ⟨hf61, hr62, hS63⟩ := hq58
      refine W.seq (W.region ?_)
      refine WL.val (Value.int .i64 x60) _ (op_move hf61) rfl ?_
      refine WL.val (Value.int .i64 x60) _ (op_assign rfl) rfl ?_
      refine WL.nil ?_
      refine W.ret ?_
      obtain rfl := Option.some.inj h
      show FinP _ _ _ _ _ _ _
      exact FinP.ret _ (res1 rfl rfl) ⟨rfl, hr62, hS63.ext⟩

theorem c_laws_szInt64SSS {w : World} {a : (List (List (List Int)))} {v_a : Value} {left : Int} (r_a : (Ty.sl (Ty.sl (Ty.sl (Ty.i .i64)))).rep w v_a a) (r_left : InR .i64 left) {res : Int} (h : p_laws_szInt64SSS a left  = some res) :
    Ret Try.prog 21 #[v_a, (Value.int .i64 left)] w (fun v w' => v = Value.int .i64 res ∧ InR .i64 res ∧ Ext w w') := by
  unfold p_laws_szInt64SSS at h
  have hS0 : St w w [] := St.start w
  refine Ret.start (fn := Try.f21) Try.func21 rfl 27 rfl rfl ?_
  refine W.seq (W.region ?_)
  refine WL.val (Value.int .i64 (0 : Int)) _ (op_assign rfl) rfl ?_
  refine WL.nil ?_
  refine W.seq (W.region ?_)
  refine WL.val (Value.int .i64 left) _ (op_move rfl) rfl ?_
  refine WL.val v_a _ (op_move rfl) rfl ?_
  have hr1 := inR_len (Ty.lift _ hS0.ext r_a)
  refine WL.val (Value.int .i64 ((a).length : Int)) _ (op_lenL sl_22 (Ty.lift _ hS0.ext r_a) rfl) rfl ?_
  refine WL.val (Value.int .i64 (w64 (left - ((a).length : Int)))) _ (op_sub rfl rfl) rfl ?_
  refine WL.val (Value.int .i64 (w64 (left - ((a).length : Int)))) _ (op_assign rfl) rfl ?_
  refine WL.nil ?_
  refine W.seq (W.seq (W.region ?_))
  refine WL.val (Value.int .i64 (w64 (left - ((a).length : Int)))) _ (op_move rfl) rfl ?_
  refine WL.val (Value.bool (decide ((w64 (left - ((a).length : Int))) < (0 : Int)))) _ (op_lss rfl rfl) rfl ?_
  refine WL.nil ?_
  refine W.cond (decide ((w64 (left - ((a).length : Int))) < (0 : Int))) rfl (fun hc2 => ?_) (fun hc2 => ?_)
  · replace h := ip h hc2
    refine W.seq (W.region ?_)
    refine WL.val (Value.int .i64 (-1 : Int)) _ (op_assign rfl) rfl ?_
    refine WL.nil ?_
    refine W.ret ?_
    obtain rfl := Option.some.inj h
    show FinP _ _ _ _ _ _ _
    exact FinP.ret _ (res1 rfl rfl) ⟨rfl, (inR_i64.2 (show (-9223372036854775808 : Int) ≤ -1 ∧ (-1 : Int) ≤ 9223372036854775807 from by decide)), hS0.ext⟩
  · replace h := inegb h hc2
    refine W.skip ?_
    refine W.seq (W.seq (W.region ?_))
    refine WL.val (Value.int .i64 (0 : Int)) _ (op_assign rfl) rfl ?_
    refine WL.nil ?_
    show W _ _ _ _ _ _
    obtain ⟨res4, hres5, h⟩ := bs h
    refine W.blockLoop (fun fq wq => ∃ s, res4 = Res.fin s ∧ fq 1 = Value.int .i64 s ∧ InR .i64 s ∧ St w wq []) ?_ ?_
    · refine W.forN (fun k (s : Int) fq wq => fq 0 = v_a ∧ fq 1 = Value.int .i64 s ∧ InR .i64 s ∧ fq 5 = Value.int .i64 (k : Int) ∧ InR .i64 (k : Int) ∧ St w wq []) hres5 ⟨rfl, rfl, (inR_wrap _ _), rfl, (inL rfl), hS0⟩ ?_ ?_
      · intro k6 x7 ct8 f9 wd10 hk11 hb12 hI13 hbrk14 hret15
        replace hI13 : f9 0 = v_a ∧ f9 1 = Value.int .i64 x7 ∧ InR .i64 x7 ∧ f9 5 = Value.int .i64 (k6 : Int) ∧ InR .i64 (k6 : Int) ∧ St w wd10 [] := hI13
        replace hb12 : p_laws_szInt64SSS_L1 a k6 x7 = some ct8 := hb12
        unfold p_laws_szInt64SSS_L1 at hb12
        obtain ⟨hf16, hf17, hr18, hf19, hr20, hS21⟩ := hI13
        refine W.seq (W.seq (W.region ?_))
        refine WL.val (Value.int .i64 (k6 : Int)) _ (op_move hf19) rfl ?_
        refine WL.val v_a _ (op_move hf16) rfl ?_
        have hr22 := inR_len (Ty.lift _ hS21.ext r_a)
        refine WL.val (Value.int .i64 ((a).length : Int)) _ (op_lenL sl_22 (Ty.lift _ hS21.ext r_a) rfl) rfl ?_
        refine WL.val (Value.bool (decide ((k6 : Int) < ((a).length : Int)))) _ (op_lss rfl rfl) rfl ?_
        have hl23 : (k6 : Int) < ((a).length : Int) := by omega
        refine WL.nil ?_
        refine W.condT (decide ((k6 : Int) < ((a).length : Int))) rfl (decide_eq_true hl23) ?_
        refine W.skip ?_
        refine W.seq ?_
        refine W.block ?_
        refine W.seq (W.region ?_)
        refine WL.val v_a _ (op_move hf16) rfl ?_
        refine WL.val (Value.int .i64 (k6 : Int)) _ (op_move hf19) rfl ?_
        obtain ⟨x25, hx28, hb12⟩ := bs hb12
        obtain ⟨ha26, hb27, hx28⟩ := idx_some hx28
        refine WL.val (Value.pointer (some (elA v_a ((k6 : Int)).toNat))) _ (op_idx sl_22 (Ty.lift _ hS21.ext r_a) rfl rfl ha26 hb27) rfl ?_
        obtain ⟨u29, hc30, hr31⟩ := repSl.el r_a hx28
        refine WL.val u29 _ (op_load one_25 rfl (Ext.cell hS21.ext hc30)) rfl ?_
        refine WL.val (Value.int .i64 x7) _ (op_move hf17) rfl ?_
        obtain ⟨x32, hx33, hb12⟩ := bs hb12
        refine WL.call _ (op_call fn_6 (args2 rfl rfl)) (c_laws_szInt64SS (Ty.lift _ hS21.ext hr31) hr18 hx33) rfl ?_
        rintro _ wd35 ⟨rfl, hr34, he36⟩
        have hS38 := St.extend hS21 he36
        replace hS38 : St w wd35 [] := hS38
        refine WL.val (Value.int .i64 x32) _ (op_assign rfl) rfl ?_
        refine WL.nil ?_
        refine W.seq (W.region ?_)
        refine WL.val (Value.int .i64 x32) _ (op_move rfl) rfl ?_
        refine WL.val (Value.bool (decide (x32 < (0 : Int)))) _ (op_lss rfl rfl) rfl ?_
        refine WL.nil ?_
        refine W.cond (decide (x32 < (0 : Int))) rfl (fun hc39 => ?_) (fun hc39 => ?_)
        · replace hb12 := ip hb12 hc39
          refine W.seq (W.region ?_)
          refine WL.val (Value.int .i64 (-1 : Int)) _ (op_assign rfl) rfl ?_
          refine WL.nil ?_
          refine W.ret ?_
          obtain rfl := Option.some.inj hb12
          obtain rfl := hret15 _ rfl
          replace h := onRes_ret h
          obtain rfl := Option.some.inj h
          show FinP _ _ _ _ _ _ _
          exact FinP.ret _ (res1 rfl rfl) ⟨rfl, (inR_i64.2 (show (-9223372036854775808 : Int) ≤ -1 ∧ (-1 : Int) ≤ 9223372036854775807 from by decide)), hS38.ext⟩
        · replace hb12 := inegb hb12 hc39
          refine W.skip ?_
          show W _ _ _ _ _ _
          refine W.region ?_
          refine WL.val (Value.int .i64 (k6 : Int)) _ (op_move hf19) rfl ?_
          refine WL.val (Value.int .i64 (w64 ((k6 : Int) + (1 : Int)))) _ (op_add rfl rfl) rfl ?_
          refine WL.val (Value.int .i64 (w64 ((k6 : Int) + (1 : Int)))) _ (op_assign rfl) rfl ?_
          refine WL.nil ?_
          obtain rfl := Option.some.inj hb12
          show ∃ s, _ = Ctl.next s ∧ _
          exact ⟨_, rfl, hf16, rfl, hr34, (ctr_next hl23 hr22), (ctr_rng hl23 hr22), hS38⟩
      · intro x47 f42 wd43 hs44 hI45
        replace hI45 : f42 0 = v_a ∧ f42 1 = Value.int .i64 x47 ∧ InR .i64 x47 ∧ f42 5 = Value.int .i64 (((a).length : Nat) : Int) ∧ InR .i64 (((a).length : Nat) : Int) ∧ St w wd43 [] := hI45
        obtain ⟨hf48, hf49, hr50, hf51, hr52, hS53⟩ := hI45
        refine W.seq (W.seq (W.region ?_))
        refine WL.val (Value.int .i64 (((a).length : Nat) : Int)) _ (op_move hf51) rfl ?_
        refine WL.val v_a _ (op_move hf48) rfl ?_
        have hr54 := inR_len (Ty.lift _ hS53.ext r_a)
        refine WL.val (Value.int .i64 ((a).length : Int)) _ (op_lenL sl_22 (Ty.lift _ hS53.ext r_a) rfl) rfl ?_
        refine WL.val (Value.bool (decide ((((a).length : Nat) : Int) < ((a).length : Int)))) _ (op_lss rfl rfl) rfl ?_
        have hl55 : ¬ (((a).length : Nat) : Int) < ((a).length : Int) := by omega
        refine WL.nil ?_
        refine W.condF (decide ((((a).length : Nat) : Int) < ((a).length : Int))) rfl (decide_eq_false hl55) ?_
        refine W.exit ?_
        show _ = _ ∧ _
        exact ⟨rfl, _, hs44, hf49, hr50, hS53⟩
    · rintro f56 wd57 ⟨x60, rfl, hq58⟩
      replace h := onRes_fin h
      replace hq58 : f56 1 = Value.int .i64 x60 ∧ InR .i64 x60 ∧ St w wd57 [] := hq58
      obtain ⟨hf61, hr62, hS63⟩ := hq58
      refine W.seq (W.region ?_)
      refine WL.val (Value.int .i64 x60) _ (op_move hf61) rfl ?_
      refine WL.val (Value.int .i64 x60) _ (op_assign rfl) rfl ?_
      refine WL.nil ?_
      refine W.ret ?_
      obtain rfl := Option.some.inj h
      show FinP _ _ _ _ _ _ _
      exact FinP.ret _ (res1 rfl rfl) ⟨rfl, hr62, hS63.ext⟩

theorem c_laws_szRing {w : World} {a_Table : (List (List (List Int)))} {v_a_Table : Value} {left : Int} (r_a_Table : (Ty.sl (Ty.sl (Ty.sl (Ty.i .i64)))).rep w v_a_Table a_Table) (r_left : InR .i64 left) {res : Int} (h : p_laws_szRing a_Table left  = some res) :
    Ret Try.prog 5 #[(Value.agg #[v_a_Table]), (Value.int .i64 left)] w (fun v w' => v = Value.int .i64 res ∧ InR .i64 res ∧ Ext w w') := by
  unfold p_laws_szRing at h
  have hS0 : St w w [] := St.start w
  refine Ret.start (fn := Try.f5) Try.func5 rfl 12 rfl rfl ?_
  refine W.seq (W.region ?_)
  refine WL.box hS0 rfl (cs := [v_a_Table]) rfl rfl ?_
  intro b1 wd2 hS3 he4 hx5
  replace hS3 : St w wd2 [bx b1 [v_a_Table]] := hS3
  have hx6 := St.boxAt hS3 0 rfl
  have hE7 : Ext w wd2 := hS3.ext
  have hS8 : St wd2 wd2 [] := St.start wd2
  refine WL.val (Value.int .i64 (0 : Int)) _ (op_assign rfl) rfl ?_
  refine WL.nil ?_
  refine W.seq (W.region ?_)
  refine WL.val (Value.pointer (some ⟨b1, 0, none⟩)) _ (op_fieldAddr fd_24_0 rfl) rfl ?_
  refine WL.val v_a_Table _ (op_load one_22 rfl (BoxAt.cell (BoxAt.lift hS8.ext hx6) rfl)) rfl ?_
  refine WL.val (Value.int .i64 left) _ (op_move rfl) rfl ?_
  obtain ⟨x9, hx10, h⟩ := bs h
  refine WL.call _ (op_call fn_21 (args2 rfl rfl)) (c_laws_szInt64SSS (Ty.lift _ (Ext.trans hE7 hS8.ext) r_a_Table) r_left hx10) rfl ?_
  rintro _ wd12 ⟨rfl, hr11, he13⟩
  have hS15 := St.extend hS8 he13
  replace hS15 : St wd2 wd12 [] := hS15
  refine WL.val (Value.int .i64 x9) _ (op_assign rfl) rfl ?_
  refine WL.nil ?_
  refine W.seq (W.seq (W.region ?_))
  refine WL.val (Value.int .i64 x9) _ (op_move rfl) rfl ?_
  refine WL.val (Value.bool (decide (x9 < (0 : Int)))) _ (op_lss rfl rfl) rfl ?_
  refine WL.nil ?_
  refine W.cond (decide (x9 < (0 : Int))) rfl (fun hc16 => ?_) (fun hc16 => ?_)
  · replace h := ip h hc16
    refine W.seq (W.region ?_)
    refine WL.val (Value.int .i64 (-1 : Int)) _ (op_assign rfl) rfl ?_
    refine WL.nil ?_
    refine W.ret ?_
    obtain rfl := Option.some.inj h
    show FinP _ _ _ _ _ _ _
    exact FinP.ret _ (res1 rfl rfl) ⟨rfl, (inR_i64.2 (show (-9223372036854775808 : Int) ≤ -1 ∧ (-1 : Int) ≤ 9223372036854775807 from by decide)), (Ext.trans hE7 hS15.ext)⟩
  · replace h := inegb h hc16
    refine W.skip ?_
    refine W.seq (W.region ?_)
    refine WL.val (Value.int .i64 x9) _ (op_move rfl) rfl ?_
    refine WL.val (Value.int .i64 x9) _ (op_assign rfl) rfl ?_
    refine WL.nil ?_
    refine W.ret ?_
    obtain rfl := Option.some.inj h
    show FinP _ _ _ _ _ _ _
    exact FinP.ret _ (res1 rfl rfl) ⟨rfl, hr11, (Ext.trans hE7 hS15.ext)⟩

theorem c_laws_toInt64S {w : World} {a : (List Int)} {v_a : Value} (r_a : (Ty.sl (Ty.i .i64)).rep w v_a a) {res : (List Int)} (h : p_laws_toInt64S a  = some res) :
    Ret Try.prog 14 #[v_a] w (fun v w' => ∃ (u0 : Value), v = u0 ∧ Ext w w' ∧ Sep w.heap.size w' [(Ty.sl (Ty.i .i64)).at u0 res]) := by
  unfold p_laws_toInt64S at h
  have hS0 : St w w [] := St.start w
  refine Ret.start (fn := Try.f14) Try.func14 rfl 22 rfl rfl ?_
  refine W.seq (W.region ?_)
  refine WL.val (Value.slice none 0 0) _ (op_assign rfl) rfl ?_
  refine WL.nil ?_
  refine W.seq (W.region ?_)
  refine WL.val v_a _ (op_move rfl) rfl ?_
  have hr1 := inR_len (Ty.lift _ hS0.ext r_a)
  refine WL.val (Value.int .i64 ((a).length : Int)) _ (op_lenL sl_36 (Ty.lift _ hS0.ext r_a) rfl) rfl ?_
  obtain ⟨x2, hx3, h⟩ := bs h
  refine WL.make (t := (Ty.i .i64)) hS0 sl_36 (fun _ _ => ⟨rfl, (inL rfl)⟩) rfl rfl hx3 rfl rfl ?_
  intro u4 wd5 hS6 he7
  replace hS6 : St w wd5 [(Ty.sl (Ty.i .i64)).at u4 x2] := hS6
  refine WL.val u4 _ (op_assign rfl) rfl ?_
  refine WL.nil ?_
  refine W.seq (W.seq (W.region ?_))
  refine WL.val (Value.int .i64 (0 : Int)) _ (op_assign rfl) rfl ?_
  refine WL.nil ?_
  show W _ _ _ _ _ _
  obtain ⟨res8, hres9, h⟩ := bs h
  refine W.blockLoop (fun fq wq => ∃ s, res8 = Res.fin s ∧ fq 3 = u4 ∧ St w wq [(Ty.sl (Ty.i .i64)).at u4 s]) ?_ ?_
  · refine W.forN (fun k (s : (List Int)) fq wq => fq 0 = v_a ∧ fq 3 = u4 ∧ fq 4 = Value.int .i64 (k : Int) ∧ InR .i64 (k : Int) ∧ St w wq [(Ty.sl (Ty.i .i64)).at u4 s]) hres9 ⟨rfl, rfl, rfl, (inL rfl), hS6⟩ ?_ ?_
    · intro k10 x11 ct12 f13 wd14 hk15 hb16 hI17 hbrk18 hret19
      replace hI17 : f13 0 = v_a ∧ f13 3 = u4 ∧ f13 4 = Value.int .i64 (k10 : Int) ∧ InR .i64 (k10 : Int) ∧ St w wd14 [(Ty.sl (Ty.i .i64)).at u4 x11] := hI17
      replace hb16 : p_laws_toInt64S_L1 a k10 x11 = some ct12 := hb16
      unfold p_laws_toInt64S_L1 at hb16
      obtain ⟨hf20, hf21, hf22, hr23, hS24⟩ := hI17
      refine W.seq (W.seq (W.region ?_))
      refine WL.val (Value.int .i64 (k10 : Int)) _ (op_move hf22) rfl ?_
      refine WL.val v_a _ (op_move hf20) rfl ?_
      have hr25 := inR_len (Ty.lift _ hS24.ext r_a)
      refine WL.val (Value.int .i64 ((a).length : Int)) _ (op_lenL sl_36 (Ty.lift _ hS24.ext r_a) rfl) rfl ?_
      refine WL.val (Value.bool (decide ((k10 : Int) < ((a).length : Int)))) _ (op_lss rfl rfl) rfl ?_
      have hl26 : (k10 : Int) < ((a).length : Int) := by omega
      refine WL.nil ?_
      refine W.condT (decide ((k10 : Int) < ((a).length : Int))) rfl (decide_eq_true hl26) ?_
      refine W.skip ?_
      refine W.seq ?_
      refine W.block ?_
      refine W.region ?_
      refine WL.val u4 _ (op_move hf21) rfl ?_
      refine WL.val (Value.int .i64 (k10 : Int)) _ (op_move hf22) rfl ?_
      refine WL.val v_a _ (op_move hf20) rfl ?_
      refine WL.val (Value.int .i64 (k10 : Int)) _ (op_move hf22) rfl ?_
      obtain ⟨x28, hx31, hb16⟩ := bs hb16
      obtain ⟨ha29, hb30, hx31⟩ := idx_some hx31
      refine WL.val (Value.pointer (some (elA v_a ((k10 : Int)).toNat))) _ (op_idx sl_36 (Ty.lift _ hS24.ext r_a) rfl rfl ha29 hb30) rfl ?_
      obtain ⟨u32, hc33, hr34⟩ := repSl.el r_a hx31
      obtain ⟨rfl, hr34⟩ := hr34
      refine WL.val (Value.int .i64 x28) _ (op_load one_2 rfl (Ext.cell hS24.ext hc33)) rfl ?_
      obtain ⟨x35, hx38, hb16⟩ := bs hb16
      obtain ⟨ha36, hb37, hx38⟩ := idx_some hx38
      refine WL.val (Value.pointer (some (elA u4 ((k10 : Int)).toNat))) _ (op_idx sl_36 (St.rep (t := (Ty.sl (Ty.i .i64))) hS24 0 rfl) rfl rfl ha36 hb37) rfl ?_
      refine WL.storeEl (flat_i .i64) hS24 (k := 0) rfl sz_2 rfl rfl (lt_of_idx ha36 hb37) ⟨rfl, hr34⟩ ?_
      intro wd39 hS40
      replace hS40 : St w wd39 [(Ty.sl (Ty.i .i64)).at u4 ((x11).set ((k10 : Int)).toNat x28)] := hS40
      refine WL.nil ?_
      show W _ _ _ _ _ _
      refine W.region ?_
      refine WL.val (Value.int .i64 (k10 : Int)) _ (op_move hf22) rfl ?_
      refine WL.val (Value.int .i64 (w64 ((k10 : Int) + (1 : Int)))) _ (op_add rfl rfl) rfl ?_
      refine WL.val (Value.int .i64 (w64 ((k10 : Int) + (1 : Int)))) _ (op_assign rfl) rfl ?_
      refine WL.nil ?_
      obtain rfl := Option.some.inj hb16
      show ∃ s, _ = Ctl.next s ∧ _
      exact ⟨_, rfl, hf20, hf21, (ctr_next hl26 hr25), (ctr_rng hl26 hr25), hS40⟩
    · intro x47 f42 wd43 hs44 hI45
      replace hI45 : f42 0 = v_a ∧ f42 3 = u4 ∧ f42 4 = Value.int .i64 (((a).length : Nat) : Int) ∧ InR .i64 (((a).length : Nat) : Int) ∧ St w wd43 [(Ty.sl (Ty.i .i64)).at u4 x47] := hI45
      obtain ⟨hf48, hf49, hf50, hr51, hS52⟩ := hI45
      refine W.seq (W.seq (W.region ?_))
      refine WL.val (Value.int .i64 (((a).length : Nat) : Int)) _ (op_move hf50) rfl ?_
      refine WL.val v_a _ (op_move hf48) rfl ?_
      have hr53 := inR_len (Ty.lift _ hS52.ext r_a)
      refine WL.val (Value.int .i64 ((a).length : Int)) _ (op_lenL sl_36 (Ty.lift _ hS52.ext r_a) rfl) rfl ?_
      refine WL.val (Value.bool (decide ((((a).length : Nat) : Int) < ((a).length : Int)))) _ (op_lss rfl rfl) rfl ?_
      have hl54 : ¬ (((a).length : Nat) : Int) < ((a).length : Int) := by omega
      refine WL.nil ?_
      refine W.condF (decide ((((a).length : Nat) : Int) < ((a).length : Int))) rfl (decide_eq_false hl54) ?_
      refine W.exit ?_
      show _ = _ ∧ _
      exact ⟨rfl, _, hs44, hf49, hS52⟩
  · rintro f55 wd56 ⟨x59, rfl, hq57⟩
    replace h := onRes_fin h
    replace hq57 : f55 3 = u4 ∧ St w wd56 [(Ty.sl (Ty.i .i64)).at u4 x59] := hq57
    obtain ⟨hf60, hS61⟩ := hq57
    refine W.seq (W.region ?_)
    refine WL.val u4 _ (op_move hf60) rfl ?_
    refine WL.val u4 _ (op_assign rfl) rfl ?_
    refine WL.nil ?_
    refine W.ret ?_
    obtain rfl := Option.some.inj h
    show FinP _ _ _ _ _ _ _
    exact FinP.ret _ (res1 rfl rfl) ⟨u4, rfl, hS61.ext, (St.out (St.pick hS61 [0] rfl) (Ext.refl _))⟩

theorem c_laws_toInt64SS {w : World} {a : (List (List Int))} {v_a : Value} (r_a : (Ty.sl (Ty.sl (Ty.i .i64))).rep w v_a a) {res : (List (List Int))} (h : p_laws_toInt64SS a  = some res) :
    Ret Try.prog 9 #[v_a] w (fun v w' => ∃ (u0 : Value), v = u0 ∧ Ext w w' ∧ Sep w.heap.size w' [(Ty.sl (Ty.sl (Ty.i .i64))).at u0 res]) := by
  unfold p_laws_toInt64SS at h
  have hS0 : St w w [] := St.start w
  refine Ret.start (fn := Try.f9) Try.func9 rfl 23 rfl rfl ?_
  refine W.seq (W.region ?_)
  refine WL.val (Value.slice none 0 0) _ (op_assign rfl) rfl ?_
  refine WL.nil ?_
  refine W.seq (W.region ?_)
  refine WL.val v_a _ (op_move rfl) rfl ?_
  have hr1 := inR_len (Ty.lift _ hS0.ext r_a)
  refine WL.val (Value.int .i64 ((a).length : Int)) _ (op_lenL sl_25 (Ty.lift _ hS0.ext r_a) rfl) rfl ?_
  obtain ⟨x2, hx3, h⟩ := bs h
  refine WL.make (t := (Ty.sl (Ty.i .i64))) hS0 sl_25 (fun S w => nilOwn _ S w) rfl rfl hx3 rfl rfl ?_
  intro u4 wd5 hS6 he7
  replace hS6 : St w wd5 [(Ty.sl (Ty.sl (Ty.i .i64))).at u4 x2] := hS6
  refine WL.val u4 _ (op_assign rfl) rfl ?_
  refine WL.nil ?_
  refine W.seq (W.seq (W.region ?_))
  refine WL.val (Value.int .i64 (0 : Int)) _ (op_assign rfl) rfl ?_
  refine WL.nil ?_
  show W _ _ _ _ _ _
  obtain ⟨res8, hres9, h⟩ := bs h
  refine W.blockLoop (fun fq wq => ∃ s, res8 = Res.fin s ∧ fq 3 = u4 ∧ St w wq [(Ty.sl (Ty.sl (Ty.i .i64))).at u4 s]) ?_ ?_
  · refine W.forN (fun k (s : (List (List Int))) fq wq => fq 0 = v_a ∧ fq 3 = u4 ∧ fq 4 = Value.int .i64 (k : Int) ∧ InR .i64 (k : Int) ∧ St w wq [(Ty.sl (Ty.sl (Ty.i .i64))).at u4 s]) hres9 ⟨rfl, rfl, rfl, (inL rfl), hS6⟩ ?_ ?_
    · intro k10 x11 ct12 f13 wd14 hk15 hb16 hI17 hbrk18 hret19
      replace hI17 : f13 0 = v_a ∧ f13 3 = u4 ∧ f13 4 = Value.int .i64 (k10 : Int) ∧ InR .i64 (k10 : Int) ∧ St w wd14 [(Ty.sl (Ty.sl (Ty.i .i64))).at u4 x11] := hI17
      replace hb16 : p_laws_toInt64SS_L1 a k10 x11 = some ct12 := hb16
      unfold p_laws_toInt64SS_L1 at hb16
      obtain ⟨hf20, hf21, hf22, hr23, hS24⟩ := hI17
      refine W.seq (W.seq (W.region ?_))
      refine WL.val (Value.int .i64 (k10 : Int)) _ (op_move hf22) rfl ?_
      refine WL.val v_a _ (op_move hf20) rfl ?_
      have hr25 := inR_len (Ty.lift _ hS24.ext r_a)
      refine WL.val (Value.int .i64 ((a).length : Int)) _ (op_lenL sl_25 (Ty.lift _ hS24.ext r_a) rfl) rfl ?_
      refine WL.val (Value.bool (decide ((k10 : Int) < ((a).length : Int)))) _ (op_lss rfl rfl) rfl ?_
      have hl26 : (k10 : Int) < ((a).length : Int) := by omega
      refine WL.nil ?_
      refine W.condT (decide ((k10 : Int) < ((a).length : Int))) rfl (decide_eq_true hl26) ?_
      refine W.skip ?_
      refine W.seq ?_
      refine W.block ?_
      refine W.region ?_
      refine WL.val u4 _ (op_move hf21) rfl ?_
      refine WL.val (Value.int .i64 (k10 : Int)) _ (op_move hf22) rfl ?_
      refine WL.val v_a _ (op_move hf20) rfl ?_
      refine WL.val (Value.int .i64 (k10 : Int)) _ (op_move hf22) rfl ?_
      obtain ⟨x28, hx31, hb16⟩ := bs hb16
      obtain ⟨ha29, hb30, hx31⟩ := idx_some hx31
      refine WL.val (Value.pointer (some (elA v_a ((k10 : Int)).toNat))) _ (op_idx sl_25 (Ty.lift _ hS24.ext r_a) rfl rfl ha29 hb30) rfl ?_
      obtain ⟨u32, hc33, hr34⟩ := repSl.el r_a hx31
      refine WL.val u32 _ (op_load one_36 rfl (Ext.cell hS24.ext hc33)) rfl ?_
      obtain ⟨x35, hx36, hb16⟩ := bs hb16
      refine WL.call _ (op_call fn_14 (args1 rfl)) (c_laws_toInt64S (Ty.lift _ hS24.ext hr34) hx36) rfl ?_
      rintro u37 wd38 ⟨_, rfl, he39, hs40⟩
      have hS41 := St.join hS24 he39 hs40
      replace hS41 : St w wd38 [(Ty.sl (Ty.sl (Ty.i .i64))).at u4 x11, (Ty.sl (Ty.i .i64)).at u37 x35] := hS41
      obtain ⟨x42, hx45, hb16⟩ := bs hb16
      obtain ⟨ha43, hb44, hx45⟩ := idx_some hx45
      refine WL.val (Value.pointer (some (elA u4 ((k10 : Int)).toNat))) _ (op_idx sl_25 (St.rep (t := (Ty.sl (Ty.sl (Ty.i .i64)))) hS41 0 rfl) rfl rfl ha43 hb44) rfl ?_
      refine WL.storeRow hS41 (k := 0) (k2 := 1) rfl rfl rfl sz_36 rfl rfl (by omega) ?_
      intro wd46 hS47
      replace hS47 : St w wd46 [(Ty.sl (Ty.sl (Ty.i .i64))).at u4 ((x11).set ((k10 : Int)).toNat x35), emp] := hS47
      refine WL.nil ?_
      show W _ _ _ _ _ _
      refine W.region ?_
      refine WL.val (Value.int .i64 (k10 : Int)) _ (op_move hf22) rfl ?_
      refine WL.val (Value.int .i64 (w64 ((k10 : Int) + (1 : Int)))) _ (op_add rfl rfl) rfl ?_
      refine WL.val (Value.int .i64 (w64 ((k10 : Int) + (1 : Int)))) _ (op_assign rfl) rfl ?_
      refine WL.nil ?_
      obtain rfl := Option.some.inj hb16
      show ∃ s, _ = Ctl.next s ∧ _
      exact ⟨_, rfl, hf20, hf21, (ctr_next hl26 hr25), (ctr_rng hl26 hr25), (St.pick hS47 [0] rfl)⟩
    · intro x54 f49 wd50 hs51 hI52
      replace hI52 : f49 0 = v_a ∧ f49 3 = u4 ∧ f49 4 = Value.int .i64 (((a).length : Nat) : Int) ∧ InR .i64 (((a).length : Nat) : Int) ∧ St w wd50 [(Ty.sl (Ty.sl (Ty.i .i64))).at u4 x54] := hI52
      obtain ⟨hf55, hf56, hf57, hr58, hS59⟩ := hI52
      refine W.seq (W.seq (W.region ?_))
      refine WL.val (Value.int .i64 (((a).length : Nat) : Int)) _ (op_move hf57) rfl ?_
      refine WL.val v_a _ (op_move hf55) rfl ?_
      have hr60 := inR_len (Ty.lift _ hS59.ext r_a)
      refine WL.val (Value.int .i64 ((a).length : Int)) _ (op_lenL sl_25 (Ty.lift _ hS59.ext r_a) rfl) rfl ?_
      refine WL.val (Value.bool (decide ((((a).length : Nat) : Int) < ((a).length : Int)))) _ (op_lss rfl rfl) rfl ?_
      have hl61 : ¬ (((a).length : Nat) : Int) < ((a).length : Int) := by omega
      refine WL.nil ?_
      refine W.condF (decide ((((a).length : Nat) : Int) < ((a).length : Int))) rfl (decide_eq_false hl61) ?_
      refine W.exit ?_
      show _ = _ ∧ _
      exact ⟨rfl, _, hs51, hf56, hS59⟩
  · rintro f62 wd63 ⟨x66, rfl, hq64⟩
    replace h := onRes_fin h
    replace hq64 : f62 3 = u4 ∧ St w wd63 [(Ty.sl (Ty.sl (Ty.i .i64))).at u4 x66] := hq64
    obtain ⟨hf67, hS68⟩ := hq64
    refine W.seq (W.region ?_)
    refine WL.val u4 _ (op_move hf67) rfl ?_
    refine WL.val u4 _ (op_assign rfl) rfl ?_
    refine WL.nil ?_
    refine W.ret ?_
    obtain rfl := Option.some.inj h
    show FinP _ _ _ _ _ _ _
    exact FinP.ret _ (res1 rfl rfl) ⟨u4, rfl, hS68.ext, (St.out (St.pick hS68 [0] rfl) (Ext.refl _))⟩

theorem c_laws_toInt64SSS {w : World} {a : (List (List (List Int)))} {v_a : Value} (r_a : (Ty.sl (Ty.sl (Ty.sl (Ty.i .i64)))).rep w v_a a) {res : (List (List (List Int)))} (h : p_laws_toInt64SSS a  = some res) :
    Ret Try.prog 28 #[v_a] w (fun v w' => ∃ (u0 : Value), v = u0 ∧ Ext w w' ∧ Sep w.heap.size w' [(Ty.sl (Ty.sl (Ty.sl (Ty.i .i64)))).at u0 res]) := by
  unfold p_laws_toInt64SSS at h
  have hS0 : St w w [] := St.start w
  refine Ret.start (fn := Try.f28) Try.func28 rfl 23 rfl rfl ?_
  refine W.seq (W.region ?_)
  refine WL.val (Value.slice none 0 0) _ (op_assign rfl) rfl ?_
  refine WL.nil ?_
  refine W.seq (W.region ?_)
  refine WL.val v_a _ (op_move rfl) rfl ?_
  have hr1 := inR_len (Ty.lift _ hS0.ext r_a)
  refine WL.val (Value.int .i64 ((a).length : Int)) _ (op_lenL sl_22 (Ty.lift _ hS0.ext r_a) rfl) rfl ?_
  obtain ⟨x2, hx3, h⟩ := bs h
  refine WL.make (t := (Ty.sl (Ty.sl (Ty.i .i64)))) hS0 sl_22 (fun S w => nilOwn _ S w) rfl rfl hx3 rfl rfl ?_
  intro u4 wd5 hS6 he7
  replace hS6 : St w wd5 [(Ty.sl (Ty.sl (Ty.sl (Ty.i .i64)))).at u4 x2] := hS6
  refine WL.val u4 _ (op_assign rfl) rfl ?_
  refine WL.nil ?_
  refine W.seq (W.seq (W.region ?_))
  refine WL.val (Value.int .i64 (0 : Int)) _ (op_assign rfl) rfl ?_
  refine WL.nil ?_
  show W _ _ _ _ _ _
  obtain ⟨res8, hres9, h⟩ := bs h
  refine W.blockLoop (fun fq wq => ∃ s, res8 = Res.fin s ∧ fq 3 = u4 ∧ St w wq [(Ty.sl (Ty.sl (Ty.sl (Ty.i .i64)))).at u4 s]) ?_ ?_
  · refine W.forN (fun k (s : (List (List (List Int)))) fq wq => fq 0 = v_a ∧ fq 3 = u4 ∧ fq 4 = Value.int .i64 (k : Int) ∧ InR .i64 (k : Int) ∧ St w wq [(Ty.sl (Ty.sl (Ty.sl (Ty.i .i64)))).at u4 s]) hres9 ⟨rfl, rfl, rfl, (inL rfl), hS6⟩ ?_ ?_
    · intro k10 x11 ct12 f13 wd14 hk15 hb16 hI17 hbrk18 hret19
      replace hI17 : f13 0 = v_a ∧ f13 3 = u4 ∧ f13 4 = Value.int .i64 (k10 : Int) ∧ InR .i64 (k10 : Int) ∧ St w wd14 [(Ty.sl (Ty.sl (Ty.sl (Ty.i .i64)))).at u4 x11] := hI17
      replace hb16 : p_laws_toInt64SSS_L1 a k10 x11 = some ct12 := hb16
      unfold p_laws_toInt64SSS_L1 at hb16
      obtain ⟨hf20, hf21, hf22, hr23, hS24⟩ := hI17
      refine W.seq (W.seq (W.region ?_))
      refine WL.val (Value.int .i64 (k10 : Int)) _ (op_move hf22) rfl ?_
      refine WL.val v_a _ (op_move hf20) rfl ?_
      have hr25 := inR_len (Ty.lift _ hS24.ext r_a)
      refine WL.val (Value.int .i64 ((a).length : Int)) _ (op_lenL sl_22 (Ty.lift _ hS24.ext r_a) rfl) rfl ?_
      refine WL.val (Value.bool (decide ((k10 : Int) < ((a).length : Int)))) _ (op_lss rfl rfl) rfl ?_
      have hl26 : (k10 : Int) < ((a).length : Int) := by omega
      refine WL.nil ?_
      refine W.condT (decide ((k10 : Int) < ((a).length : Int))) rfl (decide_eq_true hl26) ?_
      refine W.skip ?_
      refine W.seq ?_
      refine W.block ?_
      refine W.region ?_
      refine WL.val u4 _ (op_move hf21) rfl ?_
      refine WL.val (Value.int .i64 (k10 : Int)) _ (op_move hf22) rfl ?_
      refine WL.val v_a _ (op_move hf20) rfl ?_
      refine WL.val (Value.int .i64 (k10 : Int)) _ (op_move hf22) rfl ?_
      obtain ⟨x28, hx31, hb16⟩ := bs hb16
      obtain ⟨ha29, hb30, hx31⟩ := idx_some hx31
      refine WL.val (Value.pointer (some (elA v_a ((k10 : Int)).toNat))) _ (op_idx sl_22 (Ty.lift _ hS24.ext r_a) rfl rfl ha29 hb30) rfl ?_
      obtain ⟨u32, hc33, hr34⟩ := repSl.el r_a hx31
      refine WL.val u32 _ (op_load one_25 rfl (Ext.cell hS24.ext hc33)) rfl ?_
      obtain ⟨x35, hx36, hb16⟩ := bs hb16
      refine WL.call _ (op_call fn_9 (args1 rfl)) (c_laws_toInt64SS (Ty.lift _ hS24.ext hr34) hx36) rfl ?_
      rintro u37 wd38 ⟨_, rfl, he39, hs40⟩
      have hS41 := St.join hS24 he39 hs40
      replace hS41 : St w wd38 [(Ty.sl (Ty.sl (Ty.sl (Ty.i .i64)))).at u4 x11, (Ty.sl (Ty.sl (Ty.i .i64))).at u37 x35] := hS41
      obtain ⟨x42, hx45, hb16⟩ := bs hb16
      obtain ⟨ha43, hb44, hx45⟩ := idx_some hx45
      refine WL.val (Value.pointer (some (elA u4 ((k10 : Int)).toNat))) _ (op_idx sl_22 (St.rep (t := (Ty.sl (Ty.sl (Ty.sl (Ty.i .i64))))) hS41 0 rfl) rfl rfl ha43 hb44) rfl ?_
      refine WL.storeRow hS41 (k := 0) (k2 := 1) rfl rfl rfl sz_25 rfl rfl (by omega) ?_
      intro wd46 hS47
      replace hS47 : St w wd46 [(Ty.sl (Ty.sl (Ty.sl (Ty.i .i64)))).at u4 ((x11).set ((k10 : Int)).toNat x35), emp] := hS47
      refine WL.nil ?_
      show W _ _ _ _ _ _
      refine W.region ?_
      refine WL.val (Value.int .i64 (k10 : Int)) _ (op_move hf22) rfl ?_
      refine WL.val (Value.int .i64 (w64 ((k10 : Int) + (1 : Int)))) _ (op_add rfl rfl) rfl ?_
      refine WL.val (Value.int .i64 (w64 ((k10 : Int) + (1 : Int)))) _ (op_assign rfl) rfl ?_
      refine WL.nil ?_
      obtain rfl := Option.some.inj hb16
      show ∃ s, _ = Ctl.next s ∧ _
      exact ⟨_, rfl, hf20, hf21, (ctr_next hl26 hr25), (ctr_rng hl26 hr25), (St.pick hS47 [0] rfl)⟩
    · intro x54 f49 wd50 hs51 hI52
      replace hI52 : f49 0 = v_a ∧ f49 3 = u4 ∧ f49 4 = Value.int .i64 (((a).length : Nat) : Int) ∧ InR .i64 (((a).length : Nat) : Int) ∧ St w wd50 [(Ty.sl (Ty.sl (Ty.sl (Ty.i .i64)))).at u4 x54] := hI52
      obtain ⟨hf55, hf56, hf57, hr58, hS59⟩ := hI52
      refine W.seq (W.seq (W.region ?_))
      refine WL.val (Value.int .i64 (((a).length : Nat) : Int)) _ (op_move hf57) rfl ?_
      refine WL.val v_a _ (op_move hf55) rfl ?_
      have hr60 := inR_len (Ty.lift _ hS59.ext r_a)
      refine WL.val (Value.int .i64 ((a).length : Int)) _ (op_lenL sl_22 (Ty.lift _ hS59.ext r_a) rfl) rfl ?_
      refine WL.val (Value.bool (decide ((((a).length : Nat) : Int) < ((a).length : Int)))) _ (op_lss rfl rfl) rfl ?_
      have hl61 : ¬ (((a).length : Nat) : Int) < ((a).length : Int) := by omega
      refine WL.nil ?_
      refine W.condF (decide ((((a).length : Nat) : Int) < ((a).length : Int))) rfl (decide_eq_false hl61) ?_
      refine W.exit ?_
      show _ = _ ∧ _
      exact ⟨rfl, _, hs51, hf56, hS59⟩
  · rintro f62 wd63 ⟨x66, rfl, hq64⟩
    replace h := onRes_fin h
    replace hq64 : f62 3 = u4 ∧ St w wd63 [(Ty.sl (Ty.sl (Ty.sl (Ty.i .i64)))).at u4 x66] := hq64
    obtain ⟨hf67, hS68⟩ := hq64
    refine W.seq (W.region ?_)
    refine WL.val u4 _ (op_move hf67) rfl ?_
    refine WL.val u4 _ (op_assign rfl) rfl ?_
    refine WL.nil ?_
    refine W.ret ?_
    obtain rfl := Option.some.inj h
    show FinP _ _ _ _ _ _ _
    exact FinP.ret _ (res1 rfl rfl) ⟨u4, rfl, hS68.ext, (St.out (St.pick hS68 [0] rfl) (Ext.refl _))⟩

theorem c_laws_toRing {w : World} {a_Table : (List (List (List Int)))} {v_a_Table : Value} (r_a_Table : (Ty.sl (Ty.sl (Ty.sl (Ty.i .i64)))).rep w v_a_Table a_Table) {res : (List (List (List Int)))} (h : p_laws_toRing a_Table  = some res) :
    Ret Try.prog 8 #[(Value.agg #[v_a_Table])] w (fun v w' => ∃ (u0 : Value), v = (Value.agg #[u0]) ∧ Ext w w' ∧ Sep w.heap.size w' [(Ty.sl (Ty.sl (Ty.sl (Ty.i .i64)))).at u0 res]) := by
  unfold p_laws_toRing at h
  have hS0 : St w w [] := St.start w
  refine Ret.start (fn := Try.f8) Try.func8 rfl 9 rfl rfl ?_
  refine W.seq (W.region ?_)
  refine WL.box hS0 rfl (cs := [v_a_Table]) rfl rfl ?_
  intro b1 wd2 hS3 he4 hx5
  replace hS3 : St w wd2 [bx b1 [v_a_Table]] := hS3
  have hx6 := St.boxAt hS3 0 rfl
  have hE7 : Ext w wd2 := hS3.ext
  have hS8 : St wd2 wd2 [] := St.start wd2
  refine WL.alloc hS8 ze_30 (cs := [(Value.slice none 0 0)]) rfl rfl ?_
  intro b9 wd10 hS11 he12
  replace hS11 : St wd2 wd10 [bx b9 [(Value.slice none 0 0)]] := hS11
  refine WL.nil ?_
  refine W.seq (W.region ?_)
  refine WL.alloc hS11 ze_30 (cs := [(Value.slice none 0 0)]) rfl rfl ?_
  intro b13 wd14 hS15 he16
  replace hS15 : St wd2 wd14 [bx b9 [(Value.slice none 0 0)], bx b13 [(Value.slice none 0 0)]] := hS15
  refine WL.nil ?_
  refine W.seq (W.region ?_)
  refine WL.val (Value.pointer (some ⟨b1, 0, none⟩)) _ (op_fieldAddr fd_24_0 rfl) rfl ?_
  refine WL.val v_a_Table _ (op_load one_22 rfl (BoxAt.cell (BoxAt.lift hS15.ext hx6) rfl)) rfl ?_
  obtain ⟨x17, hx18, h⟩ := bs h
  refine WL.call _ (op_call fn_28 (args1 rfl)) (c_laws_toInt64SSS (Ty.lift _ (Ext.trans hE7 hS15.ext) r_a_Table) hx18) rfl ?_
  rintro u19 wd20 ⟨_, rfl, he21, hs22⟩
  have hS23 := St.join hS15 he21 hs22
  replace hS23 : St wd2 wd20 [bx b9 [(Value.slice none 0 0)], bx b13 [(Value.slice none 0 0)], (Ty.sl (Ty.sl (Ty.sl (Ty.i .i64)))).at u19 x17] := hS23
  refine WL.val (Value.pointer (some ⟨b13, 0, none⟩)) _ (op_fieldAddr fd_30_0 rfl) rfl ?_
  refine WL.storeBox [u19] hS23 (k := 1) rfl rfl rfl (us := [u19]) (cells_rep (St.rep (t := (Ty.sl (Ty.sl (Ty.sl (Ty.i .i64))))) hS23 2 rfl)) sz_22 rfl rfl (all_rep (St.rep (t := (Ty.sl (Ty.sl (Ty.sl (Ty.i .i64))))) hS23 2 rfl) all_nil) rfl ?_
  intro wd24 hS25
  replace hS25 : St wd2 wd24 [bx b9 [(Value.slice none 0 0)], bx b13 [u19], (Ty.sl (Ty.sl (Ty.sl (Ty.i .i64)))).at u19 x17] := hS25
  refine WL.nil ?_
  refine W.seq (W.region ?_)
  refine WL.val (Value.agg #[u19]) _ (op_loadBox st_30 rfl (St.boxAt hS25 1 rfl) rfl rfl) rfl ?_
  refine WL.storeBox [u19] hS25 (k := 0) rfl rfl rfl (us := [u19]) rfl sz_30 rfl rfl (all_rep (St.rep (t := (Ty.sl (Ty.sl (Ty.sl (Ty.i .i64))))) hS25 2 rfl) all_nil) rfl ?_
  intro wd26 hS27
  replace hS27 : St wd2 wd26 [bx b9 [u19], bx b13 [u19], (Ty.sl (Ty.sl (Ty.sl (Ty.i .i64)))).at u19 x17] := hS27
  refine WL.nil ?_
  refine W.ret ?_
  obtain rfl := Option.some.inj h
  show FinP _ _ _ _ _ _ _
  exact FinP.ret _ (resC rfl rfl st_30 (St.boxAt hS27 0 rfl) rfl) ⟨u19, rfl, (Ext.trans hE7 hS27.ext), (St.out (St.pick hS27 [2] rfl) (hE7))⟩

theorem c_spec_l01In {w : World} {n : Int} {low : Int} {high : Int} (r_n : InR .i64 n) (r_low : InR .i64 low) (r_high : InR .i64 high) {res : Bool} (h : p_spec_l01In n low high  = some res) :
    Ret Try.prog 46 #[(Value.int .i64 n), (Value.int .i64 low), (Value.int .i64 high)] w (fun v w' => v = Value.bool res ∧ Ext w w') := by
  unfold p_spec_l01In at h
  have hS0 : St w w [] := St.start w
  refine Ret.start (fn := Try.f46) Try.func46 rfl 15 rfl rfl ?_
  refine W.seq (W.region ?_)
  refine WL.val (Value.bool false) _ (op_assign rfl) rfl ?_
  refine WL.nil ?_
  refine W.seq (W.region ?_)
  refine WL.val (Value.int .i64 n) _ (op_move rfl) rfl ?_
  refine WL.val (Value.int .i64 low) _ (op_move rfl) rfl ?_
  refine WL.val (Value.bool (decide (n ≥ low))) _ (op_geq rfl rfl) rfl ?_
  refine WL.val (Value.bool (decide (n ≥ low))) _ (op_move rfl) rfl ?_
  refine WL.cut 4 (fun fq wq => fq 14 = (Value.bool ((decide (n ≥ low)) && (decide (n ≤ high)))) ∧ St w wq []) ?_ ?_
  · rcases Bool.eq_false_or_eq_true (decide (n ≥ low)) with hc1 | hc1
    · refine WL.grun rfl (bool_of rfl hc1) ?_
      refine WL.val (Value.int .i64 n) _ (op_move rfl) rfl ?_
      refine WL.grun rfl (bool_of rfl hc1) ?_
      refine WL.val (Value.int .i64 high) _ (op_move rfl) rfl ?_
      refine WL.grun rfl (bool_of rfl hc1) ?_
      refine WL.val (Value.bool (decide (n ≤ high))) _ (op_leq rfl rfl) rfl ?_
      refine WL.val (Value.bool (decide (n ≤ high))) _ (op_pick_t (evb_of rfl hc1) rfl) rfl ?_
      refine WL.nil ?_
      exact ⟨rfl, (andT hc1), hS0⟩
    · refine WL.gskip rfl (bool_of rfl hc1) rfl ?_
      refine WL.gskip rfl (bool_of rfl hc1) rfl ?_
      refine WL.gskip rfl (bool_of rfl hc1) rfl ?_
      refine WL.val (Value.bool false) _ (op_pick_f (evb_of rfl hc1) rfl) rfl ?_
      refine WL.nil ?_
      exact ⟨rfl, (andF hc1), hS0⟩
  · intro f2 wd3 hq4
    obtain ⟨hf5, hS6⟩ := hq4
    refine WL.val (Value.bool ((decide (n ≥ low)) && (decide (n ≤ high)))) _ (op_assign hf5) rfl ?_
    refine WL.nil ?_
    refine W.ret ?_
    obtain rfl := Option.some.inj h
    show FinP _ _ _ _ _ _ _
    exact FinP.ret _ (res1 rfl rfl) ⟨rfl, hS6.ext⟩

theorem c_spec_l03Cube {w : World} {t : (List (List (List Int)))} {v_t : Value} (r_t : (Ty.sl (Ty.sl (Ty.sl (Ty.i .i64)))).rep w v_t t) {res : Bool} (h : p_spec_l03Cube t  = some res) :
    Ret Try.prog 44 #[v_t] w (fun v w' => v = Value.bool res ∧ Ext w w') := by
  unfold p_spec_l03Cube at h
  have hS0 : St w w [] := St.start w
  refine Ret.start (fn := Try.f44) Try.func44 rfl 59 rfl rfl ?_
  refine W.seq (W.region ?_)
  refine WL.val (Value.bool false) _ (op_assign rfl) rfl ?_
  refine WL.nil ?_
  refine W.seq (W.region ?_)
  refine WL.val v_t _ (op_move rfl) rfl ?_
  have hr1 := inR_len (Ty.lift _ hS0.ext r_t)
  refine WL.val (Value.int .i64 ((t).length : Int)) _ (op_lenL sl_22 (Ty.lift _ hS0.ext r_t) rfl) rfl ?_
  refine WL.val (Value.int .i64 ((t).length : Int)) _ (op_assign rfl) rfl ?_
  refine WL.nil ?_
  refine W.seq (W.seq (W.region ?_))
  refine WL.val (Value.int .i64 ((t).length : Int)) _ (op_move rfl) rfl ?_
  refine WL.val (Value.bool (decide (((t).length : Int) < (1 : Int)))) _ (op_lss rfl rfl) rfl ?_
  refine WL.val (Value.bool (decide (((t).length : Int) < (1 : Int)))) _ (op_move rfl) rfl ?_
  refine WL.cut 3 (fun fq wq => fq 0 = v_t ∧ fq 3 = (Value.int .i64 ((t).length : Int)) ∧ fq 14 = (Value.bool ((decide (((t).length : Int) < (1 : Int))) || (decide (((t).length : Int) > (16 : Int))))) ∧ St w wq []) ?_ ?_
  · rcases Bool.eq_false_or_eq_true (decide (((t).length : Int) < (1 : Int))) with hc2 | hc2
    · refine WL.gskip rfl (bool_of rfl hc2) rfl ?_
      refine WL.gskip rfl (bool_of rfl hc2) rfl ?_
      refine WL.val (Value.bool true) _ (op_pick_t (evb_of rfl hc2) rfl) rfl ?_
      refine WL.nil ?_
      exact ⟨rfl, rfl, rfl, (orT hc2), hS0⟩
    · refine WL.grun rfl (bool_of rfl hc2) ?_
      refine WL.val (Value.int .i64 ((t).length : Int)) _ (op_move rfl) rfl ?_
      refine WL.grun rfl (bool_of rfl hc2) ?_
      refine WL.val (Value.bool (decide (((t).length : Int) > (16 : Int)))) _ (op_gtr rfl rfl) rfl ?_
      refine WL.val (Value.bool (decide (((t).length : Int) > (16 : Int)))) _ (op_pick_f (evb_of rfl hc2) rfl) rfl ?_
      refine WL.nil ?_
      exact ⟨rfl, rfl, rfl, (orF hc2), hS0⟩
  · intro f3 wd4 hq5
    obtain ⟨hf6, hf7, hf8, hS9⟩ := hq5
    refine WL.nil ?_
    refine W.cond ((decide (((t).length : Int) < (1 : Int))) || (decide (((t).length : Int) > (16 : Int)))) hf8 (fun hc10 => ?_) (fun hc10 => ?_)
    · replace h := ip h hc10
      refine W.seq (W.region ?_)
      refine WL.val (Value.bool false) _ (op_assign rfl) rfl ?_
      refine WL.nil ?_
      refine W.ret ?_
      obtain rfl := Option.some.inj h
      show FinP _ _ _ _ _ _ _
      exact FinP.ret _ (res1 rfl rfl) ⟨rfl, hS9.ext⟩
    · replace h := inegb h hc10
      refine W.skip ?_
      refine W.seq (W.seq (W.region ?_))
      refine WL.val (Value.int .i64 (0 : Int)) _ (op_assign rfl) rfl ?_
      refine WL.nil ?_
      show W _ _ _ _ _ _
      obtain ⟨res12, hres13, h⟩ := bs h
      refine W.blockLoop (fun fq wq => ∃ s, res12 = Res.fin s ∧ St w wq []) ?_ ?_
      · refine W.forN (fun k (s : Unit) fq wq => fq 0 = v_t ∧ fq 3 = (Value.int .i64 ((t).length : Int)) ∧ fq 4 = Value.int .i64 (k : Int) ∧ InR .i64 (k : Int) ∧ St w wq []) hres13 ⟨hf6, hf7, rfl, (inL rfl), hS9⟩ ?_ ?_
        · intro k14 s159 ct15 f16 wd17 hk18 hb19 hI20 hbrk21 hret22
          obtain ⟨⟩ := s159
          replace hI20 : f16 0 = v_t ∧ f16 3 = (Value.int .i64 ((t).length : Int)) ∧ f16 4 = Value.int .i64 (k14 : Int) ∧ InR .i64 (k14 : Int) ∧ St w wd17 [] := hI20
          replace hb19 : p_spec_l03Cube_L1 t k14  = some ct15 := hb19
          unfold p_spec_l03Cube_L1 at hb19
          obtain ⟨hf23, hf24, hf25, hr26, hS27⟩ := hI20
          refine W.seq (W.seq (W.region ?_))
          refine WL.val (Value.int .i64 (k14 : Int)) _ (op_move hf25) rfl ?_
          refine WL.val (Value.int .i64 ((t).length : Int)) _ (op_move hf24) rfl ?_
          refine WL.val (Value.bool (decide ((k14 : Int) < ((t).length : Int)))) _ (op_lss rfl rfl) rfl ?_
          have hl28 : (k14 : Int) < ((t).length : Int) := by omega
          refine WL.nil ?_
          refine W.condT (decide ((k14 : Int) < ((t).length : Int))) rfl (decide_eq_true hl28) ?_
          refine W.skip ?_
          refine W.seq ?_
          refine W.block ?_
          refine W.seq (W.seq (W.region ?_))
          refine WL.val v_t _ (op_move hf23) rfl ?_
          refine WL.val (Value.int .i64 (k14 : Int)) _ (op_move hf25) rfl ?_
          obtain ⟨x30, hx33, hb19⟩ := bs hb19
          obtain ⟨ha31, hb32, hx33⟩ := idx_some hx33
          refine WL.val (Value.pointer (some (elA v_t ((k14 : Int)).toNat))) _ (op_idx sl_22 (Ty.lift _ hS27.ext r_t) rfl rfl ha31 hb32) rfl ?_
          obtain ⟨u34, hc35, hr36⟩ := repSl.el r_t hx33
          refine WL.val u34 _ (op_load one_25 rfl (Ext.cell hS27.ext hc35)) rfl ?_
          have hr37 := inR_len (Ty.lift _ hS27.ext hr36)
          refine WL.val (Value.int .i64 ((x30).length : Int)) _ (op_lenL sl_25 (Ty.lift _ hS27.ext hr36) rfl) rfl ?_
          refine WL.val (Value.int .i64 ((t).length : Int)) _ (op_move hf24) rfl ?_
          refine WL.val (Value.bool (((x30).length : Int) != ((t).length : Int))) _ (op_neq rfl rfl) rfl ?_
          refine WL.nil ?_
          refine W.cond (((x30).length : Int) != ((t).length : Int)) rfl (fun hc38 => ?_) (fun hc38 => ?_)
          · replace hb19 := ip hb19 hc38
            refine W.seq (W.region ?_)
            refine WL.val (Value.bool false) _ (op_assign rfl) rfl ?_
            refine WL.nil ?_
            refine W.ret ?_
            obtain rfl := Option.some.inj hb19
            obtain rfl := hret22 _ rfl
            replace h := onRes_ret h
            obtain rfl := Option.some.inj h
            show FinP _ _ _ _ _ _ _
            exact FinP.ret _ (res1 rfl rfl) ⟨rfl, hS27.ext⟩
          · replace hb19 := inegb hb19 hc38
            refine W.skip ?_
            refine W.seq (W.region ?_)
            refine WL.val (Value.int .i64 (0 : Int)) _ (op_assign rfl) rfl ?_
            refine WL.nil ?_
            show W _ _ _ _ _ _
            obtain ⟨res40, hres41, hb19⟩ := bs hb19
            refine W.blockLoop (fun fq wq => ∃ s, res40 = Res.fin s ∧ fq 0 = v_t ∧ fq 3 = (Value.int .i64 ((t).length : Int)) ∧ fq 4 = (Value.int .i64 (k14 : Int)) ∧ St w wq []) ?_ ?_
            · refine W.forN (fun k (s : Unit) fq wq => fq 0 = v_t ∧ fq 3 = (Value.int .i64 ((t).length : Int)) ∧ fq 4 = (Value.int .i64 (k14 : Int)) ∧ fq 5 = Value.int .i64 (k : Int) ∧ InR .i64 (k : Int) ∧ St w wq []) hres41 ⟨hf23, hf24, hf25, rfl, (inL rfl), hS27⟩ ?_ ?_
              · intro k42 s137 ct43 f44 wd45 hk46 hb47 hI48 hbrk49 hret50
                obtain ⟨⟩ := s137
                replace hI48 : f44 0 = v_t ∧ f44 3 = (Value.int .i64 ((t).length : Int)) ∧ f44 4 = (Value.int .i64 (k14 : Int)) ∧ f44 5 = Value.int .i64 (k42 : Int) ∧ InR .i64 (k42 : Int) ∧ St w wd45 [] := hI48
                replace hb47 : p_spec_l03Cube_L2 x30 t k42  = some ct43 := hb47
                unfold p_spec_l03Cube_L2 at hb47
                obtain ⟨hf51, hf52, hf53, hf54, hr55, hS56⟩ := hI48
                refine W.seq (W.seq (W.region ?_))
                refine WL.val (Value.int .i64 (k42 : Int)) _ (op_move hf54) rfl ?_
                refine WL.val (Value.int .i64 ((t).length : Int)) _ (op_move hf52) rfl ?_
                refine WL.val (Value.bool (decide ((k42 : Int) < ((t).length : Int)))) _ (op_lss rfl rfl) rfl ?_
                have hl57 : (k42 : Int) < ((t).length : Int) := by omega
                refine WL.nil ?_
                refine W.condT (decide ((k42 : Int) < ((t).length : Int))) rfl (decide_eq_true hl57) ?_
                refine W.skip ?_
                refine W.seq ?_
                refine W.block ?_
                refine W.seq (W.seq (W.region ?_))
                refine WL.val v_t _ (op_move hf51) rfl ?_
                refine WL.val (Value.int .i64 (k14 : Int)) _ (op_move hf53) rfl ?_
                refine WL.val (Value.pointer (some (elA v_t ((k14 : Int)).toNat))) _ (op_idx sl_22 (Ty.lift _ hS56.ext r_t) rfl rfl ha31 hb32) rfl ?_
                obtain ⟨u59, hc60, hr61⟩ := repSl.el r_t hx33
                refine WL.val u59 _ (op_load one_25 rfl (Ext.cell hS56.ext hc60)) rfl ?_
                refine WL.val (Value.int .i64 (k42 : Int)) _ (op_move hf54) rfl ?_
                obtain ⟨x62, hx65, hb47⟩ := bs hb47
                obtain ⟨ha63, hb64, hx65⟩ := idx_some hx65
                refine WL.val (Value.pointer (some (elA u59 ((k42 : Int)).toNat))) _ (op_idx sl_25 (Ty.lift _ hS56.ext hr61) rfl rfl ha63 hb64) rfl ?_
                obtain ⟨u66, hc67, hr68⟩ := repSl.el hr61 hx65
                refine WL.val u66 _ (op_load one_36 rfl (Ext.cell hS56.ext hc67)) rfl ?_
                have hr69 := inR_len (Ty.lift _ hS56.ext hr68)
                refine WL.val (Value.int .i64 ((x62).length : Int)) _ (op_lenL sl_36 (Ty.lift _ hS56.ext hr68) rfl) rfl ?_
                refine WL.val (Value.int .i64 ((t).length : Int)) _ (op_move hf52) rfl ?_
                refine WL.val (Value.bool (((x62).length : Int) != ((t).length : Int))) _ (op_neq rfl rfl) rfl ?_
                refine WL.nil ?_
                refine W.cond (((x62).length : Int) != ((t).length : Int)) rfl (fun hc70 => ?_) (fun hc70 => ?_)
                · replace hb47 := ip hb47 hc70
                  refine W.seq (W.region ?_)
                  refine WL.val (Value.bool false) _ (op_assign rfl) rfl ?_
                  refine WL.nil ?_
                  refine W.ret ?_
                  obtain rfl := Option.some.inj hb47
                  obtain rfl := hret50 _ rfl
                  replace hb19 := onRes_ret hb19
                  obtain rfl := Option.some.inj hb19
                  obtain rfl := hret22 _ rfl
                  replace h := onRes_ret h
                  obtain rfl := Option.some.inj h
                  show FinP _ _ _ _ _ _ _
                  exact FinP.ret _ (res1 rfl rfl) ⟨rfl, hS56.ext⟩
                · replace hb47 := inegb hb47 hc70
                  refine W.skip ?_
                  refine W.seq (W.region ?_)
                  refine WL.val (Value.int .i64 (0 : Int)) _ (op_assign rfl) rfl ?_
                  refine WL.nil ?_
                  show W _ _ _ _ _ _
                  obtain ⟨res72, hres73, hb47⟩ := bs hb47
                  refine W.blockLoop (fun fq wq => ∃ s, res72 = Res.fin s ∧ fq 0 = v_t ∧ fq 3 = (Value.int .i64 ((t).length : Int)) ∧ fq 4 = (Value.int .i64 (k14 : Int)) ∧ fq 5 = (Value.int .i64 (k42 : Int)) ∧ St w wq []) ?_ ?_
                  · refine W.forN (fun k (s : Unit) fq wq => fq 0 = v_t ∧ fq 3 = (Value.int .i64 ((t).length : Int)) ∧ fq 4 = (Value.int .i64 (k14 : Int)) ∧ fq 5 = (Value.int .i64 (k42 : Int)) ∧ fq 6 = Value.int .i64 (k : Int) ∧ InR .i64 (k : Int) ∧ St w wq []) hres73 ⟨hf51, hf52, hf53, hf54, rfl, (inL rfl), hS56⟩ ?_ ?_
                    · intro k74 s113 ct75 f76 wd77 hk78 hb79 hI80 hbrk81 hret82
                      obtain ⟨⟩ := s113
                      replace hI80 : f76 0 = v_t ∧ f76 3 = (Value.int .i64 ((t).length : Int)) ∧ f76 4 = (Value.int .i64 (k14 : Int)) ∧ f76 5 = (Value.int .i64 (k42 : Int)) ∧ f76 6 = Value.int .i64 (k74 : Int) ∧ InR .i64 (k74 : Int) ∧ St w wd77 [] := hI80
                      replace hb79 : p_spec_l03Cube_L3 x62 k74  = some ct75 := hb79
                      unfold p_spec_l03Cube_L3 at hb79
                      obtain ⟨hf83, hf84, hf85, hf86, hf87, hr88, hS89⟩ := hI80
                      refine W.seq (W.seq (W.region ?_))
                      refine WL.val (Value.int .i64 (k74 : Int)) _ (op_move hf87) rfl ?_
                      refine WL.val (Value.int .i64 ((t).length : Int)) _ (op_move hf84) rfl ?_
                      refine WL.val (Value.bool (decide ((k74 : Int) < ((t).length : Int)))) _ (op_lss rfl rfl) rfl ?_
                      have hl90 : (k74 : Int) < ((t).length : Int) := by omega
                      refine WL.nil ?_
                      refine W.condT (decide ((k74 : Int) < ((t).length : Int))) rfl (decide_eq_true hl90) ?_
                      refine W.skip ?_
                      refine W.seq ?_
                      refine W.block ?_
                      refine W.seq (W.region ?_)
                      refine WL.val v_t _ (op_move hf83) rfl ?_
                      refine WL.val (Value.int .i64 (k14 : Int)) _ (op_move hf85) rfl ?_
                      refine WL.val (Value.pointer (some (elA v_t ((k14 : Int)).toNat))) _ (op_idx sl_22 (Ty.lift _ hS89.ext r_t) rfl rfl ha31 hb32) rfl ?_
                      obtain ⟨u92, hc93, hr94⟩ := repSl.el r_t hx33
                      refine WL.val u92 _ (op_load one_25 rfl (Ext.cell hS89.ext hc93)) rfl ?_
                      refine WL.val (Value.int .i64 (k42 : Int)) _ (op_move hf86) rfl ?_
                      refine WL.val (Value.pointer (some (elA u92 ((k42 : Int)).toNat))) _ (op_idx sl_25 (Ty.lift _ hS89.ext hr94) rfl rfl ha63 hb64) rfl ?_
                      obtain ⟨u95, hc96, hr97⟩ := repSl.el hr94 hx65
                      refine WL.val u95 _ (op_load one_36 rfl (Ext.cell hS89.ext hc96)) rfl ?_
                      refine WL.val (Value.int .i64 (k74 : Int)) _ (op_move hf87) rfl ?_
                      obtain ⟨x98, hx101, hb79⟩ := bs hb79
                      obtain ⟨ha99, hb100, hx101⟩ := idx_some hx101
                      refine WL.val (Value.pointer (some (elA u95 ((k74 : Int)).toNat))) _ (op_idx sl_36 (Ty.lift _ hS89.ext hr97) rfl rfl ha99 hb100) rfl ?_
                      obtain ⟨u102, hc103, hr104⟩ := repSl.el hr97 hx101
                      obtain ⟨rfl, hr104⟩ := hr104
                      refine WL.val (Value.int .i64 x98) _ (op_load one_2 rfl (Ext.cell hS89.ext hc103)) rfl ?_
                      obtain ⟨x105, hx106, hb79⟩ := bs hb79
                      refine WL.call _ (op_call fn_46 (args3 rfl rfl rfl)) (c_spec_l01In hr104 (inL rfl) (inL rfl) hx106) rfl ?_
                      rintro _ wd107 ⟨rfl, he108⟩
                      have hS110 := St.extend hS89 he108
                      replace hS110 : St w wd107 [] := hS110
                      refine WL.val (Value.bool (!x105)) _ (op_not rfl) rfl ?_
                      refine WL.nil ?_
                      refine W.cond (!x105) rfl (fun hc111 => ?_) (fun hc111 => ?_)
                      · replace hb79 := ip hb79 hc111
                        refine W.seq (W.region ?_)
                        refine WL.val (Value.bool false) _ (op_assign rfl) rfl ?_
                        refine WL.nil ?_
                        refine W.ret ?_
                        obtain rfl := Option.some.inj hb79
                        obtain rfl := hret82 _ rfl
                        replace hb47 := onRes_ret hb47
                        obtain rfl := Option.some.inj hb47
                        obtain rfl := hret50 _ rfl
                        replace hb19 := onRes_ret hb19
                        obtain rfl := Option.some.inj hb19
                        obtain rfl := hret22 _ rfl
                        replace h := onRes_ret h
                        obtain rfl := Option.some.inj h
                        show FinP _ _ _ _ _ _ _
                        exact FinP.ret _ (res1 rfl rfl) ⟨rfl, hS110.ext⟩
                      · replace hb79 := inegb hb79 hc111
                        refine W.skip ?_
                        show W _ _ _ _ _ _
                        refine W.region ?_
                        refine WL.val (Value.int .i64 (k74 : Int)) _ (op_move hf87) rfl ?_
                        refine WL.val (Value.int .i64 (w64 ((k74 : Int) + (1 : Int)))) _ (op_add rfl rfl) rfl ?_
                        refine WL.val (Value.int .i64 (w64 ((k74 : Int) + (1 : Int)))) _ (op_assign rfl) rfl ?_
                        refine WL.nil ?_
                        obtain rfl := Option.some.inj hb79
                        show ∃ s, _ = Ctl.next s ∧ _
                        exact ⟨_, rfl, hf83, hf84, hf85, hf86, (ctr_next hl90 hr1), (ctr_rng hl90 hr1), hS110⟩
                    · intro s118 f114 wd115 hs116 hI117
                      obtain ⟨⟩ := s118
                      replace hI117 : f114 0 = v_t ∧ f114 3 = (Value.int .i64 ((t).length : Int)) ∧ f114 4 = (Value.int .i64 (k14 : Int)) ∧ f114 5 = (Value.int .i64 (k42 : Int)) ∧ f114 6 = Value.int .i64 (((t).length : Nat) : Int) ∧ InR .i64 (((t).length : Nat) : Int) ∧ St w wd115 [] := hI117
                      obtain ⟨hf119, hf120, hf121, hf122, hf123, hr124, hS125⟩ := hI117
                      refine W.seq (W.seq (W.region ?_))
                      refine WL.val (Value.int .i64 (((t).length : Nat) : Int)) _ (op_move hf123) rfl ?_
                      refine WL.val (Value.int .i64 ((t).length : Int)) _ (op_move hf120) rfl ?_
                      refine WL.val (Value.bool (decide ((((t).length : Nat) : Int) < ((t).length : Int)))) _ (op_lss rfl rfl) rfl ?_
                      have hl126 : ¬ (((t).length : Nat) : Int) < ((t).length : Int) := by omega
                      refine WL.nil ?_
                      refine W.condF (decide ((((t).length : Nat) : Int) < ((t).length : Int))) rfl (decide_eq_false hl126) ?_
                      refine W.exit ?_
                      show _ = _ ∧ _
                      exact ⟨rfl, _, hs116, hf119, hf120, hf121, hf122, hS125⟩
                  · rintro f127 wd128 ⟨s130, rfl, hq129⟩
                    replace hb47 := onRes_fin hb47
                    obtain ⟨⟩ := s130
                    replace hq129 : f127 0 = v_t ∧ f127 3 = (Value.int .i64 ((t).length : Int)) ∧ f127 4 = (Value.int .i64 (k14 : Int)) ∧ f127 5 = (Value.int .i64 (k42 : Int)) ∧ St w wd128 [] := hq129
                    obtain ⟨hf131, hf132, hf133, hf134, hS135⟩ := hq129
                    show W _ _ _ _ _ _
                    refine W.region ?_
                    refine WL.val (Value.int .i64 (k42 : Int)) _ (op_move hf134) rfl ?_
                    refine WL.val (Value.int .i64 (w64 ((k42 : Int) + (1 : Int)))) _ (op_add rfl rfl) rfl ?_
                    refine WL.val (Value.int .i64 (w64 ((k42 : Int) + (1 : Int)))) _ (op_assign rfl) rfl ?_
                    refine WL.nil ?_
                    obtain rfl := Option.some.inj hb47
                    show ∃ s, _ = Ctl.next s ∧ _
                    exact ⟨_, rfl, hf131, hf132, hf133, (ctr_next hl57 hr1), (ctr_rng hl57 hr1), hS135⟩
              · intro s142 f138 wd139 hs140 hI141
                obtain ⟨⟩ := s142
                replace hI141 : f138 0 = v_t ∧ f138 3 = (Value.int .i64 ((t).length : Int)) ∧ f138 4 = (Value.int .i64 (k14 : Int)) ∧ f138 5 = Value.int .i64 (((t).length : Nat) : Int) ∧ InR .i64 (((t).length : Nat) : Int) ∧ St w wd139 [] := hI141
                obtain ⟨hf143, hf144, hf145, hf146, hr147, hS148⟩ := hI141
                refine W.seq (W.seq (W.region ?_))
                refine WL.val (Value.int .i64 (((t).length : Nat) : Int)) _ (op_move hf146) rfl ?_
                refine WL.val (Value.int .i64 ((t).length : Int)) _ (op_move hf144) rfl ?_
                refine WL.val (Value.bool (decide ((((t).length : Nat) : Int) < ((t).length : Int)))) _ (op_lss rfl rfl) rfl ?_
                have hl149 : ¬ (((t).length : Nat) : Int) < ((t).length : Int) := by omega
                refine WL.nil ?_
                refine W.condF (decide ((((t).length : Nat) : Int) < ((t).length : Int))) rfl (decide_eq_false hl149) ?_
                refine W.exit ?_
                show _ = _ ∧ _
                exact ⟨rfl, _, hs140, hf143, hf144, hf145, hS148⟩
            · rintro f150 wd151 ⟨s153, rfl, hq152⟩
              replace hb19 := onRes_fin hb19
              obtain ⟨⟩ := s153
              replace hq152 : f150 0 = v_t ∧ f150 3 = (Value.int .i64 ((t).length : Int)) ∧ f150 4 = (Value.int .i64 (k14 : Int)) ∧ St w wd151 [] := hq152
              obtain ⟨hf154, hf155, hf156, hS157⟩ := hq152
              show W _ _ _ _ _ _
              refine W.region ?_
              refine WL.val (Value.int .i64 (k14 : Int)) _ (op_move hf156) rfl ?_
              refine WL.val (Value.int .i64 (w64 ((k14 : Int) + (1 : Int)))) _ (op_add rfl rfl) rfl ?_
              refine WL.val (Value.int .i64 (w64 ((k14 : Int) + (1 : Int)))) _ (op_assign rfl) rfl ?_
              refine WL.nil ?_
              obtain rfl := Option.some.inj hb19
              show ∃ s, _ = Ctl.next s ∧ _
              exact ⟨_, rfl, hf154, hf155, (ctr_next hl28 hr1), (ctr_rng hl28 hr1), hS157⟩
        · intro s164 f160 wd161 hs162 hI163
          obtain ⟨⟩ := s164
          replace hI163 : f160 0 = v_t ∧ f160 3 = (Value.int .i64 ((t).length : Int)) ∧ f160 4 = Value.int .i64 (((t).length : Nat) : Int) ∧ InR .i64 (((t).length : Nat) : Int) ∧ St w wd161 [] := hI163
          obtain ⟨hf165, hf166, hf167, hr168, hS169⟩ := hI163
          refine W.seq (W.seq (W.region ?_))
          refine WL.val (Value.int .i64 (((t).length : Nat) : Int)) _ (op_move hf167) rfl ?_
          refine WL.val (Value.int .i64 ((t).length : Int)) _ (op_move hf166) rfl ?_
          refine WL.val (Value.bool (decide ((((t).length : Nat) : Int) < ((t).length : Int)))) _ (op_lss rfl rfl) rfl ?_
          have hl170 : ¬ (((t).length : Nat) : Int) < ((t).length : Int) := by omega
          refine WL.nil ?_
          refine W.condF (decide ((((t).length : Nat) : Int) < ((t).length : Int))) rfl (decide_eq_false hl170) ?_
          refine W.exit ?_
          show _ = _ ∧ _
          exact ⟨rfl, _, hs162, hS169⟩
      · rintro f171 wd172 ⟨s174, rfl, hq173⟩
        replace h := onRes_fin h
        obtain ⟨⟩ := s174
        replace hq173 : St w wd172 [] := hq173
        have hS175 := hq173
        refine W.seq (W.region ?_)
        refine WL.val (Value.bool true) _ (op_assign rfl) rfl ?_
        refine WL.nil ?_
        refine W.ret ?_
        obtain rfl := Option.some.inj h
        show FinP _ _ _ _ _ _ _
        exact FinP.ret _ (res1 rfl rfl) ⟨rfl, hS175.ext⟩

theorem c_spec_l03Dual {w : World} {t : (List (List (List Int)))} {v_t : Value} {i : Int} (r_t : (Ty.sl (Ty.sl (Ty.sl (Ty.i .i64)))).rep w v_t t) (r_i : InR .i64 i) {res : Int} (h : p_spec_l03Dual t i  = some res) :
    Ret Try.prog 49 #[v_t, (Value.int .i64 i)] w (fun v w' => v = Value.int .i64 res ∧ InR .i64 res ∧ Ext w w') := by
  unfold p_spec_l03Dual at h
  have hS0 : St w w [] := St.start w
  refine Ret.start (fn := Try.f49) Try.func49 rfl 41 rfl rfl ?_
  refine W.seq (W.region ?_)
  refine WL.val (Value.int .i64 (0 : Int)) _ (op_assign rfl) rfl ?_
  refine WL.nil ?_
  refine W.seq (W.region ?_)
  refine WL.val (Value.int .i64 (-1 : Int)) _ (op_assign rfl) rfl ?_
  refine WL.nil ?_
  refine W.seq (W.seq (W.region ?_))
  refine WL.val (Value.int .i64 (0 : Int)) _ (op_assign rfl) rfl ?_
  refine WL.nil ?_
  show W _ _ _ _ _ _
  obtain ⟨res1, hres2, h⟩ := bs h
  refine W.blockLoop (fun fq wq => ∃ s, res1 = Res.fin s ∧ fq 5 = Value.int .i64 s ∧ InR .i64 s ∧ St w wq []) ?_ ?_
  · refine W.forN (fun k (s : Int) fq wq => fq 0 = v_t ∧ fq 1 = (Value.int .i64 i) ∧ fq 5 = Value.int .i64 s ∧ InR .i64 s ∧ fq 6 = Value.int .i64 (k : Int) ∧ InR .i64 (k : Int) ∧ St w wq []) hres2 ⟨rfl, rfl, rfl, (inR_i64.2 (show (-9223372036854775808 : Int) ≤ -1 ∧ (-1 : Int) ≤ 9223372036854775807 from by decide)), rfl, (inL rfl), hS0⟩ ?_ ?_
    · intro k3 x4 ct5 f6 wd7 hk8 hb9 hI10 hbrk11 hret12
      replace hI10 : f6 0 = v_t ∧ f6 1 = (Value.int .i64 i) ∧ f6 5 = Value.int .i64 x4 ∧ InR .i64 x4 ∧ f6 6 = Value.int .i64 (k3 : Int) ∧ InR .i64 (k3 : Int) ∧ St w wd7 [] := hI10
      replace hb9 : p_spec_l03Dual_L1 t i k3 x4 = some ct5 := hb9
      unfold p_spec_l03Dual_L1 at hb9
      obtain ⟨hf13, hf14, hf15, hr16, hf17, hr18, hS19⟩ := hI10
      refine W.seq (W.seq (W.region ?_))
      refine WL.val (Value.int .i64 (k3 : Int)) _ (op_move hf17) rfl ?_
      refine WL.val v_t _ (op_move hf13) rfl ?_
      have hr20 := inR_len (Ty.lift _ hS19.ext r_t)
      refine WL.val (Value.int .i64 ((t).length : Int)) _ (op_lenL sl_22 (Ty.lift _ hS19.ext r_t) rfl) rfl ?_
      refine WL.val (Value.bool (decide ((k3 : Int) < ((t).length : Int)))) _ (op_lss rfl rfl) rfl ?_
      have hl21 : (k3 : Int) < ((t).length : Int) := by omega
      refine WL.nil ?_
      refine W.condT (decide ((k3 : Int) < ((t).length : Int))) rfl (decide_eq_true hl21) ?_
      refine W.skip ?_
      refine W.seq ?_
      refine W.block ?_
      refine W.block ?_
      refine W.seq (W.region ?_)
      refine WL.val v_t _ (op_move hf13) rfl ?_
      refine WL.val (Value.int .i64 i) _ (op_move hf14) rfl ?_
      obtain ⟨x23, hx26, hb9⟩ := bs hb9
      obtain ⟨ha24, hb25, hx26⟩ := idx_some hx26
      refine WL.val (Value.pointer (some (elA v_t (i).toNat))) _ (op_idx sl_22 (Ty.lift _ hS19.ext r_t) rfl rfl ha24 hb25) rfl ?_
      obtain ⟨u27, hc28, hr29⟩ := repSl.el r_t hx26
      refine WL.val u27 _ (op_load one_25 rfl (Ext.cell hS19.ext hc28)) rfl ?_
      refine WL.val (Value.int .i64 (k3 : Int)) _ (op_move hf17) rfl ?_
      obtain ⟨x30, hx33, hb9⟩ := bs hb9
      obtain ⟨ha31, hb32, hx33⟩ := idx_some hx33
      refine WL.val (Value.pointer (some (elA u27 ((k3 : Int)).toNat))) _ (op_idx sl_25 (Ty.lift _ hS19.ext hr29) rfl rfl ha31 hb32) rfl ?_
      obtain ⟨u34, hc35, hr36⟩ := repSl.el hr29 hx33
      refine WL.val u34 _ (op_load one_36 rfl (Ext.cell hS19.ext hc35)) rfl ?_
      obtain ⟨x37, hx40, hb9⟩ := bs hb9
      obtain ⟨ha38, hb39, hx40⟩ := idx_some hx40
      refine WL.val (Value.pointer (some (elA u34 ((0 : Int)).toNat))) _ (op_idx sl_36 (Ty.lift _ hS19.ext hr36) rfl rfl ha38 hb39) rfl ?_
      obtain ⟨u41, hc42, hr43⟩ := repSl.el hr36 hx40
      obtain ⟨rfl, hr43⟩ := hr43
      refine WL.val (Value.int .i64 x37) _ (op_load one_2 rfl (Ext.cell hS19.ext hc42)) rfl ?_
      refine WL.val (Value.bool (x37 == (1 : Int))) _ (op_eql rfl rfl) rfl ?_
      refine WL.val (Value.bool (x37 == (1 : Int))) _ (op_move rfl) rfl ?_
      refine WL.cut 3 (fun fq wq => fq 0 = v_t ∧ fq 1 = (Value.int .i64 i) ∧ fq 5 = (Value.int .i64 x4) ∧ fq 6 = (Value.int .i64 (k3 : Int)) ∧ fq 27 = (Value.bool ((x37 == (1 : Int)) && (decide (x4 < (0 : Int))))) ∧ St w wq []) ?_ ?_
      · rcases Bool.eq_false_or_eq_true (x37 == (1 : Int)) with hc44 | hc44
        · refine WL.grun rfl (bool_of rfl hc44) ?_
          refine WL.val (Value.int .i64 x4) _ (op_move hf15) rfl ?_
          refine WL.grun rfl (bool_of rfl hc44) ?_
          refine WL.val (Value.bool (decide (x4 < (0 : Int)))) _ (op_lss rfl rfl) rfl ?_
          refine WL.val (Value.bool (decide (x4 < (0 : Int)))) _ (op_pick_t (evb_of rfl hc44) rfl) rfl ?_
          refine WL.nil ?_
          exact ⟨rfl, hf13, hf14, hf15, hf17, (andT hc44), hS19⟩
        · refine WL.gskip rfl (bool_of rfl hc44) rfl ?_
          refine WL.gskip rfl (bool_of rfl hc44) rfl ?_
          refine WL.val (Value.bool false) _ (op_pick_f (evb_of rfl hc44) rfl) rfl ?_
          refine WL.nil ?_
          exact ⟨rfl, hf13, hf14, hf15, hf17, (andF hc44), hS19⟩
      · intro f45 wd46 hq47
        obtain ⟨hf48, hf49, hf50, hf51, hf52, hS53⟩ := hq47
        refine WL.val (Value.bool ((x37 == (1 : Int)) && (decide (x4 < (0 : Int))))) _ (op_assign hf52) rfl ?_
        refine WL.nil ?_
        refine W.cond ((x37 == (1 : Int)) && (decide (x4 < (0 : Int)))) rfl (fun hc54 => ?_) (fun hc54 => ?_)
        · replace hb9 := ip hb9 hc54
          refine W.region ?_
          refine WL.val (Value.int .i64 (k3 : Int)) _ (op_move hf51) rfl ?_
          refine WL.val (Value.int .i64 (k3 : Int)) _ (op_assign rfl) rfl ?_
          refine WL.nil ?_
          show W _ _ _ _ _ _
          refine W.region ?_
          refine WL.val (Value.int .i64 (k3 : Int)) _ (op_move hf51) rfl ?_
          refine WL.val (Value.int .i64 (w64 ((k3 : Int) + (1 : Int)))) _ (op_add rfl rfl) rfl ?_
          refine WL.val (Value.int .i64 (w64 ((k3 : Int) + (1 : Int)))) _ (op_assign rfl) rfl ?_
          refine WL.nil ?_
          obtain rfl := Option.some.inj hb9
          show ∃ s, _ = Ctl.next s ∧ _
          exact ⟨_, rfl, hf48, hf49, rfl, hr18, (ctr_next hl21 hr20), (ctr_rng hl21 hr20), hS53⟩
        · replace hb9 := inegb hb9 hc54
          refine W.seq (W.region ?_)
          refine WL.val v_t _ (op_move hf48) rfl ?_
          refine WL.val (Value.int .i64 i) _ (op_move hf49) rfl ?_
          refine WL.val (Value.pointer (some (elA v_t (i).toNat))) _ (op_idx sl_22 (Ty.lift _ hS53.ext r_t) rfl rfl ha24 hb25) rfl ?_
          obtain ⟨u56, hc57, hr58⟩ := repSl.el r_t hx26
          refine WL.val u56 _ (op_load one_25 rfl (Ext.cell hS53.ext hc57)) rfl ?_
          refine WL.val (Value.int .i64 (k3 : Int)) _ (op_move hf51) rfl ?_
          refine WL.val (Value.pointer (some (elA u56 ((k3 : Int)).toNat))) _ (op_idx sl_25 (Ty.lift _ hS53.ext hr58) rfl rfl ha31 hb32) rfl ?_
          obtain ⟨u59, hc60, hr61⟩ := repSl.el hr58 hx33
          refine WL.val u59 _ (op_load one_36 rfl (Ext.cell hS53.ext hc60)) rfl ?_
          refine WL.val (Value.pointer (some (elA u59 ((0 : Int)).toNat))) _ (op_idx sl_36 (Ty.lift _ hS53.ext hr61) rfl rfl ha38 hb39) rfl ?_
          obtain ⟨u62, hc63, hr64⟩ := repSl.el hr61 hx40
          obtain ⟨rfl, hr64⟩ := hr64
          refine WL.val (Value.int .i64 x37) _ (op_load one_2 rfl (Ext.cell hS53.ext hc63)) rfl ?_
          refine WL.val (Value.bool (x37 != (0 : Int))) _ (op_neq rfl rfl) rfl ?_
          refine WL.val (Value.bool (x37 != (0 : Int))) _ (op_assign rfl) rfl ?_
          refine WL.nil ?_
          refine W.cond (x37 != (0 : Int)) rfl (fun hc65 => ?_) (fun hc65 => ?_)
          · replace hb9 := ip hb9 hc65
            refine W.seq (W.region ?_)
            refine WL.val (Value.int .i64 (-1 : Int)) _ (op_assign rfl) rfl ?_
            refine WL.nil ?_
            refine W.ret ?_
            obtain rfl := Option.some.inj hb9
            obtain rfl := hret12 _ rfl
            replace h := onRes_ret h
            obtain rfl := Option.some.inj h
            show FinP _ _ _ _ _ _ _
            exact FinP.ret _ (res1 rfl rfl) ⟨rfl, (inR_i64.2 (show (-9223372036854775808 : Int) ≤ -1 ∧ (-1 : Int) ≤ 9223372036854775807 from by decide)), hS53.ext⟩
          · replace hb9 := inegb hb9 hc65
            refine W.skip ?_
            show W _ _ _ _ _ _
            refine W.region ?_
            refine WL.val (Value.int .i64 (k3 : Int)) _ (op_move hf51) rfl ?_
            refine WL.val (Value.int .i64 (w64 ((k3 : Int) + (1 : Int)))) _ (op_add rfl rfl) rfl ?_
            refine WL.val (Value.int .i64 (w64 ((k3 : Int) + (1 : Int)))) _ (op_assign rfl) rfl ?_
            refine WL.nil ?_
            obtain rfl := Option.some.inj hb9
            show ∃ s, _ = Ctl.next s ∧ _
            exact ⟨_, rfl, hf48, hf49, hf50, hr16, (ctr_next hl21 hr20), (ctr_rng hl21 hr20), hS53⟩
    · intro x73 f68 wd69 hs70 hI71
      replace hI71 : f68 0 = v_t ∧ f68 1 = (Value.int .i64 i) ∧ f68 5 = Value.int .i64 x73 ∧ InR .i64 x73 ∧ f68 6 = Value.int .i64 (((t).length : Nat) : Int) ∧ InR .i64 (((t).length : Nat) : Int) ∧ St w wd69 [] := hI71
      obtain ⟨hf74, hf75, hf76, hr77, hf78, hr79, hS80⟩ := hI71
      refine W.seq (W.seq (W.region ?_))
      refine WL.val (Value.int .i64 (((t).length : Nat) : Int)) _ (op_move hf78) rfl ?_
      refine WL.val v_t _ (op_move hf74) rfl ?_
      have hr81 := inR_len (Ty.lift _ hS80.ext r_t)
      refine WL.val (Value.int .i64 ((t).length : Int)) _ (op_lenL sl_22 (Ty.lift _ hS80.ext r_t) rfl) rfl ?_
      refine WL.val (Value.bool (decide ((((t).length : Nat) : Int) < ((t).length : Int)))) _ (op_lss rfl rfl) rfl ?_
      have hl82 : ¬ (((t).length : Nat) : Int) < ((t).length : Int) := by omega
      refine WL.nil ?_
      refine W.condF (decide ((((t).length : Nat) : Int) < ((t).length : Int))) rfl (decide_eq_false hl82) ?_
      refine W.exit ?_
      show _ = _ ∧ _
      exact ⟨rfl, _, hs70, hf76, hr77, hS80⟩
  · rintro f83 wd84 ⟨x87, rfl, hq85⟩
    replace h := onRes_fin h
    replace hq85 : f83 5 = Value.int .i64 x87 ∧ InR .i64 x87 ∧ St w wd84 [] := hq85
    obtain ⟨hf88, hr89, hS90⟩ := hq85
    refine W.seq (W.region ?_)
    refine WL.val (Value.int .i64 x87) _ (op_move hf88) rfl ?_
    refine WL.val (Value.int .i64 x87) _ (op_assign rfl) rfl ?_
    refine WL.nil ?_
    refine W.ret ?_
    obtain rfl := Option.some.inj h
    show FinP _ _ _ _ _ _ _
    exact FinP.ret _ (res1 rfl rfl) ⟨rfl, hr89, hS90.ext⟩

theorem c_spec_l03Fault {w : World} {t : (List (List (List Int)))} {v_t : Value} (r_t : (Ty.sl (Ty.sl (Ty.sl (Ty.i .i64)))).rep w v_t t) {res : (List Int)} (h : p_spec_l03Fault t  = some res) :
    Ret Try.prog 45 #[v_t] w (fun v w' => ∃ (u0 : Value), v = u0 ∧ Ext w w' ∧ Sep w.heap.size w' [(Ty.sl (Ty.i .i64)).at u0 res]) := by
  unfold p_spec_l03Fault at h
  have hS0 : St w w [] := St.start w
  refine Ret.start (fn := Try.f45) Try.func45 rfl 245 rfl rfl ?_
  refine W.seq (W.region ?_)
  refine WL.val (Value.slice none 0 0) _ (op_assign rfl) rfl ?_
  refine WL.nil ?_
  refine W.seq (W.region ?_)
  refine WL.val v_t _ (op_move rfl) rfl ?_
  have hr1 := inR_len (Ty.lift _ hS0.ext r_t)
  refine WL.val (Value.int .i64 ((t).length : Int)) _ (op_lenL sl_22 (Ty.lift _ hS0.ext r_t) rfl) rfl ?_
  refine WL.val (Value.int .i64 ((t).length : Int)) _ (op_assign rfl) rfl ?_
  refine WL.nil ?_
  refine W.seq (W.seq (W.region ?_))
  refine WL.val (Value.int .i64 (0 : Int)) _ (op_assign rfl) rfl ?_
  refine WL.nil ?_
  show W _ _ _ _ _ _
  obtain ⟨res2, hres3, h⟩ := bs h
  refine W.blockLoop (fun fq wq => ∃ s, res2 = Res.fin s ∧ fq 0 = v_t ∧ fq 3 = (Value.int .i64 ((t).length : Int)) ∧ St w wq []) ?_ ?_
  · refine W.forN (fun k (s : Unit) fq wq => fq 0 = v_t ∧ fq 3 = (Value.int .i64 ((t).length : Int)) ∧ fq 4 = Value.int .i64 (k : Int) ∧ InR .i64 (k : Int) ∧ St w wq []) hres3 ⟨rfl, rfl, rfl, (inL rfl), hS0⟩ ?_ ?_
    · intro k4 s134 ct5 f6 wd7 hk8 hb9 hI10 hbrk11 hret12
      obtain ⟨⟩ := s134
      replace hI10 : f6 0 = v_t ∧ f6 3 = (Value.int .i64 ((t).length : Int)) ∧ f6 4 = Value.int .i64 (k4 : Int) ∧ InR .i64 (k4 : Int) ∧ St w wd7 [] := hI10
      replace hb9 : p_spec_l03Fault_L1 t k4  = some ct5 := hb9
      unfold p_spec_l03Fault_L1 at hb9
      obtain ⟨hf13, hf14, hf15, hr16, hS17⟩ := hI10
      refine W.seq (W.seq (W.region ?_))
      refine WL.val (Value.int .i64 (k4 : Int)) _ (op_move hf15) rfl ?_
      refine WL.val (Value.int .i64 ((t).length : Int)) _ (op_move hf14) rfl ?_
      refine WL.val (Value.bool (decide ((k4 : Int) < ((t).length : Int)))) _ (op_lss rfl rfl) rfl ?_
      have hl18 : (k4 : Int) < ((t).length : Int) := by omega
      refine WL.nil ?_
      refine W.condT (decide ((k4 : Int) < ((t).length : Int))) rfl (decide_eq_true hl18) ?_
      refine W.skip ?_
      refine W.seq ?_
      refine W.block ?_
      refine W.seq (W.region ?_)
      refine WL.val (Value.int .i64 (0 : Int)) _ (op_assign rfl) rfl ?_
      refine WL.nil ?_
      show W _ _ _ _ _ _
      obtain ⟨res20, hres21, hb9⟩ := bs hb9
      refine W.blockLoop (fun fq wq => ∃ s, res20 = Res.fin s ∧ fq 0 = v_t ∧ fq 3 = (Value.int .i64 ((t).length : Int)) ∧ fq 4 = (Value.int .i64 (k4 : Int)) ∧ St w wq []) ?_ ?_
      · refine W.forN (fun k (s : Unit) fq wq => fq 0 = v_t ∧ fq 3 = (Value.int .i64 ((t).length : Int)) ∧ fq 4 = (Value.int .i64 (k4 : Int)) ∧ fq 5 = Value.int .i64 (k : Int) ∧ InR .i64 (k : Int) ∧ St w wq []) hres21 ⟨hf13, hf14, hf15, rfl, (inL rfl), hS17⟩ ?_ ?_
        · intro k22 s112 ct23 f24 wd25 hk26 hb27 hI28 hbrk29 hret30
          obtain ⟨⟩ := s112
          replace hI28 : f24 0 = v_t ∧ f24 3 = (Value.int .i64 ((t).length : Int)) ∧ f24 4 = (Value.int .i64 (k4 : Int)) ∧ f24 5 = Value.int .i64 (k22 : Int) ∧ InR .i64 (k22 : Int) ∧ St w wd25 [] := hI28
          replace hb27 : p_spec_l03Fault_L2 k4 t k22  = some ct23 := hb27
          unfold p_spec_l03Fault_L2 at hb27
          obtain ⟨hf31, hf32, hf33, hf34, hr35, hS36⟩ := hI28
          refine W.seq (W.seq (W.region ?_))
          refine WL.val (Value.int .i64 (k22 : Int)) _ (op_move hf34) rfl ?_
          refine WL.val (Value.int .i64 ((t).length : Int)) _ (op_move hf32) rfl ?_
          refine WL.val (Value.bool (decide ((k22 : Int) < ((t).length : Int)))) _ (op_lss rfl rfl) rfl ?_
          have hl37 : (k22 : Int) < ((t).length : Int) := by omega
          refine WL.nil ?_
          refine W.condT (decide ((k22 : Int) < ((t).length : Int))) rfl (decide_eq_true hl37) ?_
          refine W.skip ?_
          refine W.seq ?_
          refine W.block ?_
          refine W.seq (W.region ?_)
          refine WL.val (Value.int .i64 (0 : Int)) _ (op_assign rfl) rfl ?_
          refine WL.nil ?_
          refine W.seq (W.seq (W.region ?_))
          refine WL.val (Value.int .i64 (k4 : Int)) _ (op_move hf33) rfl ?_
          refine WL.val (Value.int .i64 (k22 : Int)) _ (op_move hf34) rfl ?_
          refine WL.val (Value.bool ((k4 : Int) == (k22 : Int))) _ (op_eql rfl rfl) rfl ?_
          refine WL.nil ?_
          show W _ _ _ _ _ _
          obtain ⟨x39, hj40, hb27⟩ := bs hb27
          refine W.cutCode (fun fq wq => fq 0 = v_t ∧ fq 3 = (Value.int .i64 ((t).length : Int)) ∧ fq 4 = (Value.int .i64 (k4 : Int)) ∧ fq 5 = (Value.int .i64 (k22 : Int)) ∧ fq 6 = Value.int .i64 x39 ∧ InR .i64 x39 ∧ St w wq []) ?_ ?_
          · refine W.cond ((k4 : Int) == (k22 : Int)) rfl (fun hc41 => ?_) (fun hc41 => ?_)
            · replace hj40 := ip hj40 hc41
              refine W.region ?_
              refine WL.val (Value.int .i64 (1 : Int)) _ (op_assign rfl) rfl ?_
              refine WL.nil ?_
              obtain rfl := Option.some.inj hj40
              exact ⟨hf31, hf32, hf33, hf34, rfl, (inL rfl), hS36⟩
            · replace hj40 := inegb hj40 hc41
              refine W.skip ?_
              obtain rfl := Option.some.inj hj40
              exact ⟨hf31, hf32, hf33, hf34, rfl, (inL rfl), hS36⟩
          · intro f42 wd43 hq44
            obtain ⟨hf45, hf46, hf47, hf48, hf49, hr50, hS51⟩ := hq44
            refine W.seq (W.region ?_)
            refine WL.val v_t _ (op_move hf45) rfl ?_
            obtain ⟨x52, hx55, hb27⟩ := bs hb27
            obtain ⟨ha53, hb54, hx55⟩ := idx_some hx55
            refine WL.val (Value.pointer (some (elA v_t ((0 : Int)).toNat))) _ (op_idx sl_22 (Ty.lift _ hS51.ext r_t) rfl rfl ha53 hb54) rfl ?_
            obtain ⟨u56, hc57, hr58⟩ := repSl.el r_t hx55
            refine WL.val u56 _ (op_load one_25 rfl (Ext.cell hS51.ext hc57)) rfl ?_
            refine WL.val (Value.int .i64 (k4 : Int)) _ (op_move hf47) rfl ?_
            obtain ⟨x59, hx62, hb27⟩ := bs hb27
            obtain ⟨ha60, hb61, hx62⟩ := idx_some hx62
            refine WL.val (Value.pointer (some (elA u56 ((k4 : Int)).toNat))) _ (op_idx sl_25 (Ty.lift _ hS51.ext hr58) rfl rfl ha60 hb61) rfl ?_
            obtain ⟨u63, hc64, hr65⟩ := repSl.el hr58 hx62
            refine WL.val u63 _ (op_load one_36 rfl (Ext.cell hS51.ext hc64)) rfl ?_
            refine WL.val (Value.int .i64 (k22 : Int)) _ (op_move hf48) rfl ?_
            obtain ⟨x66, hx69, hb27⟩ := bs hb27
            obtain ⟨ha67, hb68, hx69⟩ := idx_some hx69
            refine WL.val (Value.pointer (some (elA u63 ((k22 : Int)).toNat))) _ (op_idx sl_36 (Ty.lift _ hS51.ext hr65) rfl rfl ha67 hb68) rfl ?_
            obtain ⟨u70, hc71, hr72⟩ := repSl.el hr65 hx69
            obtain ⟨rfl, hr72⟩ := hr72
            refine WL.val (Value.int .i64 x66) _ (op_load one_2 rfl (Ext.cell hS51.ext hc71)) rfl ?_
            refine WL.val (Value.int .i64 x39) _ (op_move hf49) rfl ?_
            refine WL.val (Value.bool (x66 != x39)) _ (op_neq rfl rfl) rfl ?_
            refine WL.val (Value.bool (x66 != x39)) _ (op_move rfl) rfl ?_
            obtain ⟨x74, hj75, hb27⟩ := bs hb27
            refine WL.cut 12 (fun fq wq => fq 0 = v_t ∧ fq 3 = (Value.int .i64 ((t).length : Int)) ∧ fq 4 = (Value.int .i64 (k4 : Int)) ∧ fq 5 = (Value.int .i64 (k22 : Int)) ∧ fq 58 = Value.bool x74 ∧ St w wq []) ?_ ?_
            · rcases Bool.eq_false_or_eq_true (x66 != x39) with hc73 | hc73
              · replace hj75 := ip hj75 hc73
                refine WL.gskip rfl (bool_of rfl hc73) rfl ?_
                refine WL.gskip rfl (bool_of rfl hc73) rfl ?_
                refine WL.gskip rfl (bool_of rfl hc73) rfl ?_
                refine WL.gskip rfl (bool_of rfl hc73) rfl ?_
                refine WL.gskip rfl (bool_of rfl hc73) rfl ?_
                refine WL.gskip rfl (bool_of rfl hc73) rfl ?_
                refine WL.gskip rfl (bool_of rfl hc73) rfl ?_
                refine WL.gskip rfl (bool_of rfl hc73) rfl ?_
                refine WL.gskip rfl (bool_of rfl hc73) rfl ?_
                refine WL.gskip rfl (bool_of rfl hc73) rfl ?_
                refine WL.gskip rfl (bool_of rfl hc73) rfl ?_
                refine WL.val (Value.bool true) _ (op_pick_t (evb_of rfl hc73) rfl) rfl ?_
                refine WL.nil ?_
                obtain rfl := Option.some.inj hj75
                exact ⟨rfl, hf45, hf46, hf47, hf48, rfl, hS51⟩
              · replace hj75 := inegb hj75 hc73
                refine WL.grun rfl (bool_of rfl hc73) ?_
                refine WL.val v_t _ (op_move hf45) rfl ?_
                refine WL.grun rfl (bool_of rfl hc73) ?_
                refine WL.val (Value.int .i64 (k4 : Int)) _ (op_move hf47) rfl ?_
                refine WL.grun rfl (bool_of rfl hc73) ?_
                obtain ⟨x79, hx82, hj75⟩ := bs hj75
                obtain ⟨ha80, hb81, hx82⟩ := idx_some hx82
                refine WL.val (Value.pointer (some (elA v_t ((k4 : Int)).toNat))) _ (op_idx sl_22 (Ty.lift _ hS51.ext r_t) rfl rfl ha80 hb81) rfl ?_
                refine WL.grun rfl (bool_of rfl hc73) ?_
                obtain ⟨u83, hc84, hr85⟩ := repSl.el r_t hx82
                refine WL.val u83 _ (op_load one_25 rfl (Ext.cell hS51.ext hc84)) rfl ?_
                refine WL.grun rfl (bool_of rfl hc73) ?_
                obtain ⟨x86, hx89, hj75⟩ := bs hj75
                obtain ⟨ha87, hb88, hx89⟩ := idx_some hx89
                refine WL.val (Value.pointer (some (elA u83 ((0 : Int)).toNat))) _ (op_idx sl_25 (Ty.lift _ hS51.ext hr85) rfl rfl ha87 hb88) rfl ?_
                refine WL.grun rfl (bool_of rfl hc73) ?_
                obtain ⟨u90, hc91, hr92⟩ := repSl.el hr85 hx89
                refine WL.val u90 _ (op_load one_36 rfl (Ext.cell hS51.ext hc91)) rfl ?_
                refine WL.grun rfl (bool_of rfl hc73) ?_
                refine WL.val (Value.int .i64 (k22 : Int)) _ (op_move hf48) rfl ?_
                refine WL.grun rfl (bool_of rfl hc73) ?_
                obtain ⟨x93, hx96, hj75⟩ := bs hj75
                obtain ⟨ha94, hb95, hx96⟩ := idx_some hx96
                refine WL.val (Value.pointer (some (elA u90 ((k22 : Int)).toNat))) _ (op_idx sl_36 (Ty.lift _ hS51.ext hr92) rfl rfl ha94 hb95) rfl ?_
                refine WL.grun rfl (bool_of rfl hc73) ?_
                obtain ⟨u97, hc98, hr99⟩ := repSl.el hr92 hx96
                obtain ⟨rfl, hr99⟩ := hr99
                refine WL.val (Value.int .i64 x93) _ (op_load one_2 rfl (Ext.cell hS51.ext hc98)) rfl ?_
                refine WL.grun rfl (bool_of rfl hc73) ?_
                refine WL.val (Value.int .i64 x39) _ (op_move hf49) rfl ?_
                refine WL.grun rfl (bool_of rfl hc73) ?_
                refine WL.val (Value.bool (x93 != x39)) _ (op_neq rfl rfl) rfl ?_
                refine WL.val (Value.bool (x93 != x39)) _ (op_pick_f (evb_of rfl hc73) rfl) rfl ?_
                refine WL.nil ?_
                obtain rfl := Option.some.inj hj75
                exact ⟨rfl, hf45, hf46, hf47, hf48, rfl, hS51⟩
            · intro f76 wd77 hq78
              obtain ⟨hf100, hf101, hf102, hf103, hf104, hS105⟩ := hq78
              refine WL.nil ?_
              refine W.cond x74 hf104 (fun hc106 => ?_) (fun hc106 => ?_)
              · replace hb27 := ip hb27 hc106
                refine W.seq (W.region ?_)
                refine WL.val (Value.int .i64 (k4 : Int)) _ (op_move hf102) rfl ?_
                refine WL.val (Value.int .i64 (k22 : Int)) _ (op_move hf103) rfl ?_
                refine WL.litFlat (t := (Ty.i .i64)) (flat_i .i64) [(Value.int .i64 (0 : Int)), (Value.int .i64 (k4 : Int)), (Value.int .i64 (k22 : Int))] [(0 : Int), (k4 : Int), (k22 : Int)] hS105 sl_36 rfl rfl (fillL rfl ⟨rfl, rfl, rfl, rfl, rfl, rfl, rfl, rfl, rfl, trivial⟩) rfl rfl (litL ⟨⟨rfl, (inL rfl)⟩, ⟨rfl, hr16⟩, ⟨rfl, hr35⟩, trivial⟩) rfl ?_
                intro u108 wd109 hS110 he111
                replace hS110 : St w wd109 [(Ty.sl (Ty.i .i64)).at u108 ([(0 : Int), (k4 : Int), (k22 : Int)] : (List Int))] := hS110
                refine WL.val u108 _ (op_assign rfl) rfl ?_
                refine WL.nil ?_
                refine W.ret ?_
                obtain rfl := Option.some.inj hb27
                obtain rfl := hret30 _ rfl
                replace hb9 := onRes_ret hb9
                obtain rfl := Option.some.inj hb9
                obtain rfl := hret12 _ rfl
                replace h := onRes_ret h
                obtain rfl := Option.some.inj h
                show FinP _ _ _ _ _ _ _
                exact FinP.ret _ (res1 rfl rfl) ⟨u108, rfl, hS110.ext, (St.out (St.pick hS110 [0] rfl) (Ext.refl _))⟩
              · replace hb27 := inegb hb27 hc106
                refine W.skip ?_
                show W _ _ _ _ _ _
                refine W.region ?_
                refine WL.val (Value.int .i64 (k22 : Int)) _ (op_move hf103) rfl ?_
                refine WL.val (Value.int .i64 (w64 ((k22 : Int) + (1 : Int)))) _ (op_add rfl rfl) rfl ?_
                refine WL.val (Value.int .i64 (w64 ((k22 : Int) + (1 : Int)))) _ (op_assign rfl) rfl ?_
                refine WL.nil ?_
                obtain rfl := Option.some.inj hb27
                show ∃ s, _ = Ctl.next s ∧ _
                exact ⟨_, rfl, hf100, hf101, hf102, (ctr_next hl37 hr1), (ctr_rng hl37 hr1), hS105⟩
        · intro s117 f113 wd114 hs115 hI116
          obtain ⟨⟩ := s117
          replace hI116 : f113 0 = v_t ∧ f113 3 = (Value.int .i64 ((t).length : Int)) ∧ f113 4 = (Value.int .i64 (k4 : Int)) ∧ f113 5 = Value.int .i64 (((t).length : Nat) : Int) ∧ InR .i64 (((t).length : Nat) : Int) ∧ St w wd114 [] := hI116
          obtain ⟨hf118, hf119, hf120, hf121, hr122, hS123⟩ := hI116
          refine W.seq (W.seq (W.region ?_))
          refine WL.val (Value.int .i64 (((t).length : Nat) : Int)) _ (op_move hf121) rfl ?_
          refine WL.val (Value.int .i64 ((t).length : Int)) _ (op_move hf119) rfl ?_
          refine WL.val (Value.bool (decide ((((t).length : Nat) : Int) < ((t).length : Int)))) _ (op_lss rfl rfl) rfl ?_
          have hl124 : ¬ (((t).length : Nat) : Int) < ((t).length : Int) := by omega
          refine WL.nil ?_
          refine W.condF (decide ((((t).length : Nat) : Int) < ((t).length : Int))) rfl (decide_eq_false hl124) ?_
          refine W.exit ?_
          show _ = _ ∧ _
          exact ⟨rfl, _, hs115, hf118, hf119, hf120, hS123⟩
      · rintro f125 wd126 ⟨s128, rfl, hq127⟩
        replace hb9 := onRes_fin hb9
        obtain ⟨⟩ := s128
        replace hq127 : f125 0 = v_t ∧ f125 3 = (Value.int .i64 ((t).length : Int)) ∧ f125 4 = (Value.int .i64 (k4 : Int)) ∧ St w wd126 [] := hq127
        obtain ⟨hf129, hf130, hf131, hS132⟩ := hq127
        show W _ _ _ _ _ _
        refine W.region ?_
        refine WL.val (Value.int .i64 (k4 : Int)) _ (op_move hf131) rfl ?_
        refine WL.val (Value.int .i64 (w64 ((k4 : Int) + (1 : Int)))) _ (op_add rfl rfl) rfl ?_
        refine WL.val (Value.int .i64 (w64 ((k4 : Int) + (1 : Int)))) _ (op_assign rfl) rfl ?_
        refine WL.nil ?_
        obtain rfl := Option.some.inj hb9
        show ∃ s, _ = Ctl.next s ∧ _
        exact ⟨_, rfl, hf129, hf130, (ctr_next hl18 hr1), (ctr_rng hl18 hr1), hS132⟩
    · intro s139 f135 wd136 hs137 hI138
      obtain ⟨⟩ := s139
      replace hI138 : f135 0 = v_t ∧ f135 3 = (Value.int .i64 ((t).length : Int)) ∧ f135 4 = Value.int .i64 (((t).length : Nat) : Int) ∧ InR .i64 (((t).length : Nat) : Int) ∧ St w wd136 [] := hI138
      obtain ⟨hf140, hf141, hf142, hr143, hS144⟩ := hI138
      refine W.seq (W.seq (W.region ?_))
      refine WL.val (Value.int .i64 (((t).length : Nat) : Int)) _ (op_move hf142) rfl ?_
      refine WL.val (Value.int .i64 ((t).length : Int)) _ (op_move hf141) rfl ?_
      refine WL.val (Value.bool (decide ((((t).length : Nat) : Int) < ((t).length : Int)))) _ (op_lss rfl rfl) rfl ?_
      have hl145 : ¬ (((t).length : Nat) : Int) < ((t).length : Int) := by omega
      refine WL.nil ?_
      refine W.condF (decide ((((t).length : Nat) : Int) < ((t).length : Int))) rfl (decide_eq_false hl145) ?_
      refine W.exit ?_
      show _ = _ ∧ _
      exact ⟨rfl, _, hs137, hf140, hf141, hS144⟩
  · rintro f146 wd147 ⟨s149, rfl, hq148⟩
    replace h := onRes_fin h
    obtain ⟨⟩ := s149
    replace hq148 : f146 0 = v_t ∧ f146 3 = (Value.int .i64 ((t).length : Int)) ∧ St w wd147 [] := hq148
    obtain ⟨hf150, hf151, hS152⟩ := hq148
    refine W.seq (W.region ?_)
    refine WL.lit0 (t := (Ty.i .i64)) hS152 sl_36 rfl rfl ?_
    intro u153 wd154 hS155 he156
    replace hS155 : St w wd154 [(Ty.sl (Ty.i .i64)).at u153 ([] : (List Int))] := hS155
    refine WL.val u153 _ (op_assign rfl) rfl ?_
    refine WL.nil ?_
    refine W.seq (W.seq (W.region ?_))
    refine WL.val (Value.int .i64 (0 : Int)) _ (op_assign rfl) rfl ?_
    refine WL.nil ?_
    show W _ _ _ _ _ _
    obtain ⟨res157, hres158, h⟩ := bs h
    refine W.blockLoop (fun fq wq => ∃ s, res157 = Res.fin s ∧ ∃ (uu0 : Value), fq 0 = v_t ∧ fq 3 = (Value.int .i64 ((t).length : Int)) ∧ fq 7 = uu0 ∧ St w wq [(Ty.sl (Ty.i .i64)).at uu0 s]) ?_ ?_
    · refine W.forN (fun k (s : (List Int)) fq wq => ∃ (uu0 : Value), fq 0 = v_t ∧ fq 3 = (Value.int .i64 ((t).length : Int)) ∧ fq 7 = uu0 ∧ fq 8 = Value.int .i64 (k : Int) ∧ InR .i64 (k : Int) ∧ St w wq [(Ty.sl (Ty.i .i64)).at uu0 s]) hres158 ⟨u153, hf150, hf151, rfl, rfl, (inL rfl), hS155⟩ ?_ ?_
      · intro k159 x160 ct161 f162 wd163 hk164 hb165 hI166 hbrk167 hret168
        replace hI166 : ∃ (uu0 : Value), f162 0 = v_t ∧ f162 3 = (Value.int .i64 ((t).length : Int)) ∧ f162 7 = uu0 ∧ f162 8 = Value.int .i64 (k159 : Int) ∧ InR .i64 (k159 : Int) ∧ St w wd163 [(Ty.sl (Ty.i .i64)).at uu0 x160] := hI166
        replace hb165 : p_spec_l03Fault_L3 t k159 x160 = some ct161 := hb165
        unfold p_spec_l03Fault_L3 at hb165
        obtain ⟨u169, hf170, hf171, hf172, hf173, hr174, hS175⟩ := hI166
        refine W.seq (W.seq (W.region ?_))
        refine WL.val (Value.int .i64 (k159 : Int)) _ (op_move hf173) rfl ?_
        refine WL.val (Value.int .i64 ((t).length : Int)) _ (op_move hf171) rfl ?_
        refine WL.val (Value.bool (decide ((k159 : Int) < ((t).length : Int)))) _ (op_lss rfl rfl) rfl ?_
        have hl176 : (k159 : Int) < ((t).length : Int) := by omega
        refine WL.nil ?_
        refine W.condT (decide ((k159 : Int) < ((t).length : Int))) rfl (decide_eq_true hl176) ?_
        refine W.skip ?_
        refine W.seq ?_
        refine W.block ?_
        refine W.region ?_
        refine WL.val u169 _ (op_move hf172) rfl ?_
        refine WL.val v_t _ (op_move hf170) rfl ?_
        refine WL.val (Value.int .i64 (k159 : Int)) _ (op_move hf173) rfl ?_
        obtain ⟨x178, hx179, hb165⟩ := bs hb165
        refine WL.call _ (op_call fn_49 (args2 rfl rfl)) (c_spec_l03Dual (Ty.lift _ hS175.ext r_t) hr174 hx179) rfl ?_
        rintro _ wd181 ⟨rfl, hr180, he182⟩
        have hS184 := St.extend hS175 he182
        replace hS184 : St w wd181 [(Ty.sl (Ty.i .i64)).at u169 x160] := hS184
        refine WL.litFlat (t := (Ty.i .i64)) (flat_i .i64) [(Value.int .i64 x178)] [x178] hS184 sl_36 rfl rfl (fillL rfl ⟨rfl, rfl, rfl, trivial⟩) rfl rfl (litL ⟨⟨rfl, hr180⟩, trivial⟩) rfl ?_
        intro u185 wd186 hS187 he188
        replace hS187 : St w wd186 [(Ty.sl (Ty.i .i64)).at u169 x160, (Ty.sl (Ty.i .i64)).at u185 ([x178] : (List Int))] := hS187
        obtain ⟨x189, hx190, hb165⟩ := bs hb165
        refine WL.append (flat_i .i64) hS187 (k := 0) rfl sl_36 rfl rfl rfl rfl (St.rep (t := (Ty.sl (Ty.i .i64))) hS187 1 rfl) hx190 rfl ?_
        intro u191 wd192 hS193 hz194
        replace hS193 : St w wd192 [(Ty.sl (Ty.i .i64)).at u191 x189, (Ty.sl (Ty.i .i64)).at u185 ([x178] : (List Int))] := hS193
        refine WL.val u191 _ (op_assign rfl) rfl ?_
        refine WL.nil ?_
        show W _ _ _ _ _ _
        refine W.region ?_
        refine WL.val (Value.int .i64 (k159 : Int)) _ (op_move hf173) rfl ?_
        refine WL.val (Value.int .i64 (w64 ((k159 : Int) + (1 : Int)))) _ (op_add rfl rfl) rfl ?_
        refine WL.val (Value.int .i64 (w64 ((k159 : Int) + (1 : Int)))) _ (op_assign rfl) rfl ?_
        refine WL.nil ?_
        obtain rfl := Option.some.inj hb165
        show ∃ s, _ = Ctl.next s ∧ _
        exact ⟨_, rfl, u191, hf170, hf171, rfl, (ctr_next hl176 hr1), (ctr_rng hl176 hr1), (St.pick hS193 [0] rfl)⟩
      · intro x201 f196 wd197 hs198 hI199
        replace hI199 : ∃ (uu0 : Value), f196 0 = v_t ∧ f196 3 = (Value.int .i64 ((t).length : Int)) ∧ f196 7 = uu0 ∧ f196 8 = Value.int .i64 (((t).length : Nat) : Int) ∧ InR .i64 (((t).length : Nat) : Int) ∧ St w wd197 [(Ty.sl (Ty.i .i64)).at uu0 x201] := hI199
        obtain ⟨u202, hf203, hf204, hf205, hf206, hr207, hS208⟩ := hI199
        refine W.seq (W.seq (W.region ?_))
        refine WL.val (Value.int .i64 (((t).length : Nat) : Int)) _ (op_move hf206) rfl ?_
        refine WL.val (Value.int .i64 ((t).length : Int)) _ (op_move hf204) rfl ?_
        refine WL.val (Value.bool (decide ((((t).length : Nat) : Int) < ((t).length : Int)))) _ (op_lss rfl rfl) rfl ?_
        have hl209 : ¬ (((t).length : Nat) : Int) < ((t).length : Int) := by omega
        refine WL.nil ?_
        refine W.condF (decide ((((t).length : Nat) : Int) < ((t).length : Int))) rfl (decide_eq_false hl209) ?_
        refine W.exit ?_
        show _ = _ ∧ _
        exact ⟨rfl, _, hs198, u202, hf203, hf204, hf205, hS208⟩
    · rintro f210 wd211 ⟨x214, rfl, hq212⟩
      replace h := onRes_fin h
      replace hq212 : ∃ (uu0 : Value), f210 0 = v_t ∧ f210 3 = (Value.int .i64 ((t).length : Int)) ∧ f210 7 = uu0 ∧ St w wd211 [(Ty.sl (Ty.i .i64)).at uu0 x214] := hq212
      obtain ⟨u215, hf216, hf217, hf218, hS219⟩ := hq212
      refine W.seq (W.seq (W.region ?_))
      refine WL.val (Value.int .i64 (0 : Int)) _ (op_assign rfl) rfl ?_
      refine WL.nil ?_
      show W _ _ _ _ _ _
      obtain ⟨res220, hres221, h⟩ := bs h
      refine W.blockLoop (fun fq wq => ∃ s, res220 = Res.fin s ∧ fq 0 = v_t ∧ fq 3 = (Value.int .i64 ((t).length : Int)) ∧ fq 7 = u215 ∧ St w wq [(Ty.sl (Ty.i .i64)).at u215 x214]) ?_ ?_
      · refine W.forN (fun k (s : Unit) fq wq => fq 0 = v_t ∧ fq 3 = (Value.int .i64 ((t).length : Int)) ∧ fq 7 = u215 ∧ fq 9 = Value.int .i64 (k : Int) ∧ InR .i64 (k : Int) ∧ St w wq [(Ty.sl (Ty.i .i64)).at u215 x214]) hres221 ⟨hf216, hf217, hf218, rfl, (inL rfl), hS219⟩ ?_ ?_
        · intro k222 s274 ct223 f224 wd225 hk226 hb227 hI228 hbrk229 hret230
          obtain ⟨⟩ := s274
          replace hI228 : f224 0 = v_t ∧ f224 3 = (Value.int .i64 ((t).length : Int)) ∧ f224 7 = u215 ∧ f224 9 = Value.int .i64 (k222 : Int) ∧ InR .i64 (k222 : Int) ∧ St w wd225 [(Ty.sl (Ty.i .i64)).at u215 x214] := hI228
          replace hb227 : p_spec_l03Fault_L4 x214 k222  = some ct223 := hb227
          unfold p_spec_l03Fault_L4 at hb227
          obtain ⟨hf231, hf232, hf233, hf234, hr235, hS236⟩ := hI228
          refine W.seq (W.seq (W.region ?_))
          refine WL.val (Value.int .i64 (k222 : Int)) _ (op_move hf234) rfl ?_
          refine WL.val (Value.int .i64 ((t).length : Int)) _ (op_move hf232) rfl ?_
          refine WL.val (Value.bool (decide ((k222 : Int) < ((t).length : Int)))) _ (op_lss rfl rfl) rfl ?_
          have hl237 : (k222 : Int) < ((t).length : Int) := by omega
          refine WL.nil ?_
          refine W.condT (decide ((k222 : Int) < ((t).length : Int))) rfl (decide_eq_true hl237) ?_
          refine W.skip ?_
          refine W.seq ?_
          refine W.block ?_
          refine W.seq (W.region ?_)
          refine WL.val u215 _ (op_move hf233) rfl ?_
          refine WL.val (Value.int .i64 (k222 : Int)) _ (op_move hf234) rfl ?_
          obtain ⟨x239, hx242, hb227⟩ := bs hb227
          obtain ⟨ha240, hb241, hx242⟩ := idx_some hx242
          refine WL.val (Value.pointer (some (elA u215 ((k222 : Int)).toNat))) _ (op_idx sl_36 (St.rep (t := (Ty.sl (Ty.i .i64))) hS236 0 rfl) rfl rfl ha240 hb241) rfl ?_
          obtain ⟨u243, hc244, hr245⟩ := repSl.el (St.rep (t := (Ty.sl (Ty.i .i64))) hS236 0 rfl) hx242
          obtain ⟨rfl, hr245⟩ := hr245
          refine WL.val (Value.int .i64 x239) _ (op_load one_2 rfl hc244) rfl ?_
          refine WL.val (Value.bool (decide (x239 < (0 : Int)))) _ (op_lss rfl rfl) rfl ?_
          refine WL.val (Value.bool (decide (x239 < (0 : Int)))) _ (op_move rfl) rfl ?_
          obtain ⟨x247, hj248, hb227⟩ := bs hb227
          refine WL.cut 10 (fun fq wq => fq 0 = v_t ∧ fq 3 = (Value.int .i64 ((t).length : Int)) ∧ fq 7 = u215 ∧ fq 9 = (Value.int .i64 (k222 : Int)) ∧ fq 94 = Value.bool x247 ∧ St w wq [(Ty.sl (Ty.i .i64)).at u215 x214]) ?_ ?_
          · rcases Bool.eq_false_or_eq_true (decide (x239 < (0 : Int))) with hc246 | hc246
            · replace hj248 := ip hj248 hc246
              refine WL.gskip rfl (bool_of rfl hc246) rfl ?_
              refine WL.gskip rfl (bool_of rfl hc246) rfl ?_
              refine WL.gskip rfl (bool_of rfl hc246) rfl ?_
              refine WL.gskip rfl (bool_of rfl hc246) rfl ?_
              refine WL.gskip rfl (bool_of rfl hc246) rfl ?_
              refine WL.gskip rfl (bool_of rfl hc246) rfl ?_
              refine WL.gskip rfl (bool_of rfl hc246) rfl ?_
              refine WL.gskip rfl (bool_of rfl hc246) rfl ?_
              refine WL.gskip rfl (bool_of rfl hc246) rfl ?_
              refine WL.val (Value.bool true) _ (op_pick_t (evb_of rfl hc246) rfl) rfl ?_
              refine WL.nil ?_
              obtain rfl := Option.some.inj hj248
              exact ⟨rfl, hf231, hf232, hf233, hf234, rfl, hS236⟩
            · replace hj248 := inegb hj248 hc246
              refine WL.grun rfl (bool_of rfl hc246) ?_
              refine WL.val u215 _ (op_move hf233) rfl ?_
              refine WL.grun rfl (bool_of rfl hc246) ?_
              refine WL.val u215 _ (op_move hf233) rfl ?_
              refine WL.grun rfl (bool_of rfl hc246) ?_
              refine WL.val (Value.int .i64 (k222 : Int)) _ (op_move hf234) rfl ?_
              refine WL.grun rfl (bool_of rfl hc246) ?_
              refine WL.val (Value.pointer (some (elA u215 ((k222 : Int)).toNat))) _ (op_idx sl_36 (St.rep (t := (Ty.sl (Ty.i .i64))) hS236 0 rfl) rfl rfl ha240 hb241) rfl ?_
              refine WL.grun rfl (bool_of rfl hc246) ?_
              obtain ⟨u252, hc253, hr254⟩ := repSl.el (St.rep (t := (Ty.sl (Ty.i .i64))) hS236 0 rfl) hx242
              obtain ⟨rfl, hr254⟩ := hr254
              refine WL.val (Value.int .i64 x239) _ (op_load one_2 rfl hc253) rfl ?_
              refine WL.grun rfl (bool_of rfl hc246) ?_
              obtain ⟨x255, hx258, hj248⟩ := bs hj248
              obtain ⟨ha256, hb257, hx258⟩ := idx_some hx258
              refine WL.val (Value.pointer (some (elA u215 (x239).toNat))) _ (op_idx sl_36 (St.rep (t := (Ty.sl (Ty.i .i64))) hS236 0 rfl) rfl rfl ha256 hb257) rfl ?_
              refine WL.grun rfl (bool_of rfl hc246) ?_
              obtain ⟨u259, hc260, hr261⟩ := repSl.el (St.rep (t := (Ty.sl (Ty.i .i64))) hS236 0 rfl) hx258
              obtain ⟨rfl, hr261⟩ := hr261
              refine WL.val (Value.int .i64 x255) _ (op_load one_2 rfl hc260) rfl ?_
              refine WL.grun rfl (bool_of rfl hc246) ?_
              refine WL.val (Value.int .i64 (k222 : Int)) _ (op_move hf234) rfl ?_
              refine WL.grun rfl (bool_of rfl hc246) ?_
              refine WL.val (Value.bool (x255 != (k222 : Int))) _ (op_neq rfl rfl) rfl ?_
              refine WL.val (Value.bool (x255 != (k222 : Int))) _ (op_pick_f (evb_of rfl hc246) rfl) rfl ?_
              refine WL.nil ?_
              obtain rfl := Option.some.inj hj248
              exact ⟨rfl, hf231, hf232, hf233, hf234, rfl, hS236⟩
          · intro f249 wd250 hq251
            obtain ⟨hf262, hf263, hf264, hf265, hf266, hS267⟩ := hq251
            refine WL.nil ?_
            refine W.cond x247 hf266 (fun hc268 => ?_) (fun hc268 => ?_)
            · replace hb227 := ip hb227 hc268
              refine W.seq (W.region ?_)
              refine WL.val (Value.int .i64 (k222 : Int)) _ (op_move hf265) rfl ?_
              refine WL.litFlat (t := (Ty.i .i64)) (flat_i .i64) [(Value.int .i64 (1 : Int)), (Value.int .i64 (k222 : Int))] [(1 : Int), (k222 : Int)] hS267 sl_36 rfl rfl (fillL rfl ⟨rfl, rfl, rfl, rfl, rfl, rfl, trivial⟩) rfl rfl (litL ⟨⟨rfl, (inL rfl)⟩, ⟨rfl, hr235⟩, trivial⟩) rfl ?_
              intro u270 wd271 hS272 he273
              replace hS272 : St w wd271 [(Ty.sl (Ty.i .i64)).at u215 x214, (Ty.sl (Ty.i .i64)).at u270 ([(1 : Int), (k222 : Int)] : (List Int))] := hS272
              refine WL.val u270 _ (op_assign rfl) rfl ?_
              refine WL.nil ?_
              refine W.ret ?_
              obtain rfl := Option.some.inj hb227
              obtain rfl := hret230 _ rfl
              replace h := onRes_ret h
              obtain rfl := Option.some.inj h
              show FinP _ _ _ _ _ _ _
              exact FinP.ret _ (res1 rfl rfl) ⟨u270, rfl, hS272.ext, (St.out (St.pick hS272 [1] rfl) (Ext.refl _))⟩
            · replace hb227 := inegb hb227 hc268
              refine W.skip ?_
              show W _ _ _ _ _ _
              refine W.region ?_
              refine WL.val (Value.int .i64 (k222 : Int)) _ (op_move hf265) rfl ?_
              refine WL.val (Value.int .i64 (w64 ((k222 : Int) + (1 : Int)))) _ (op_add rfl rfl) rfl ?_
              refine WL.val (Value.int .i64 (w64 ((k222 : Int) + (1 : Int)))) _ (op_assign rfl) rfl ?_
              refine WL.nil ?_
              obtain rfl := Option.some.inj hb227
              show ∃ s, _ = Ctl.next s ∧ _
              exact ⟨_, rfl, hf262, hf263, hf264, (ctr_next hl237 hr1), (ctr_rng hl237 hr1), hS267⟩
        · intro s279 f275 wd276 hs277 hI278
          obtain ⟨⟩ := s279
          replace hI278 : f275 0 = v_t ∧ f275 3 = (Value.int .i64 ((t).length : Int)) ∧ f275 7 = u215 ∧ f275 9 = Value.int .i64 (((t).length : Nat) : Int) ∧ InR .i64 (((t).length : Nat) : Int) ∧ St w wd276 [(Ty.sl (Ty.i .i64)).at u215 x214] := hI278
          obtain ⟨hf280, hf281, hf282, hf283, hr284, hS285⟩ := hI278
          refine W.seq (W.seq (W.region ?_))
          refine WL.val (Value.int .i64 (((t).length : Nat) : Int)) _ (op_move hf283) rfl ?_
          refine WL.val (Value.int .i64 ((t).length : Int)) _ (op_move hf281) rfl ?_
          refine WL.val (Value.bool (decide ((((t).length : Nat) : Int) < ((t).length : Int)))) _ (op_lss rfl rfl) rfl ?_
          have hl286 : ¬ (((t).length : Nat) : Int) < ((t).length : Int) := by omega
          refine WL.nil ?_
          refine W.condF (decide ((((t).length : Nat) : Int) < ((t).length : Int))) rfl (decide_eq_false hl286) ?_
          refine W.exit ?_
          show _ = _ ∧ _
          exact ⟨rfl, _, hs277, hf280, hf281, hf282, hS285⟩
      · rintro f287 wd288 ⟨s290, rfl, hq289⟩
        replace h := onRes_fin h
        obtain ⟨⟩ := s290
        replace hq289 : f287 0 = v_t ∧ f287 3 = (Value.int .i64 ((t).length : Int)) ∧ f287 7 = u215 ∧ St w wd288 [(Ty.sl (Ty.i .i64)).at u215 x214] := hq289
        obtain ⟨hf291, hf292, hf293, hS294⟩ := hq289
        refine W.seq (W.seq (W.region ?_))
        refine WL.val (Value.int .i64 (0 : Int)) _ (op_assign rfl) rfl ?_
        refine WL.nil ?_
        show W _ _ _ _ _ _
        obtain ⟨res295, hres296, h⟩ := bs h
        refine W.blockLoop (fun fq wq => ∃ s, res295 = Res.fin s ∧ fq 0 = v_t ∧ fq 3 = (Value.int .i64 ((t).length : Int)) ∧ St w wq []) ?_ ?_
        · refine W.forN (fun k (s : Unit) fq wq => fq 0 = v_t ∧ fq 3 = (Value.int .i64 ((t).length : Int)) ∧ fq 7 = u215 ∧ fq 10 = Value.int .i64 (k : Int) ∧ InR .i64 (k : Int) ∧ St w wq [(Ty.sl (Ty.i .i64)).at u215 x214]) hres296 ⟨hf291, hf292, hf293, rfl, (inL rfl), hS294⟩ ?_ ?_
          · intro k297 s1399 ct298 f299 wd300 hk301 hb302 hI303 hbrk304 hret305
            obtain ⟨⟩ := s1399
            replace hI303 : f299 0 = v_t ∧ f299 3 = (Value.int .i64 ((t).length : Int)) ∧ f299 7 = u215 ∧ f299 10 = Value.int .i64 (k297 : Int) ∧ InR .i64 (k297 : Int) ∧ St w wd300 [(Ty.sl (Ty.i .i64)).at u215 x214] := hI303
            replace hb302 : p_spec_l03Fault_L5 t x214 k297  = some ct298 := hb302
            unfold p_spec_l03Fault_L5 at hb302
            obtain ⟨hf306, hf307, hf308, hf309, hr310, hS311⟩ := hI303
            refine W.seq (W.seq (W.region ?_))
            refine WL.val (Value.int .i64 (k297 : Int)) _ (op_move hf309) rfl ?_
            refine WL.val (Value.int .i64 ((t).length : Int)) _ (op_move hf307) rfl ?_
            refine WL.val (Value.bool (decide ((k297 : Int) < ((t).length : Int)))) _ (op_lss rfl rfl) rfl ?_
            have hl312 : (k297 : Int) < ((t).length : Int) := by omega
            refine WL.nil ?_
            refine W.condT (decide ((k297 : Int) < ((t).length : Int))) rfl (decide_eq_true hl312) ?_
            refine W.skip ?_
            refine W.seq ?_
            refine W.block ?_
            refine W.seq (W.region ?_)
            refine WL.val (Value.int .i64 (0 : Int)) _ (op_assign rfl) rfl ?_
            refine WL.nil ?_
            show W _ _ _ _ _ _
            obtain ⟨res314, hres315, hb302⟩ := bs hb302
            refine W.blockLoop (fun fq wq => ∃ s, res314 = Res.fin s ∧ fq 0 = v_t ∧ fq 3 = (Value.int .i64 ((t).length : Int)) ∧ fq 7 = u215 ∧ fq 10 = (Value.int .i64 (k297 : Int)) ∧ St w wq [(Ty.sl (Ty.i .i64)).at u215 x214]) ?_ ?_
            · refine W.forN (fun k (s : Unit) fq wq => fq 0 = v_t ∧ fq 3 = (Value.int .i64 ((t).length : Int)) ∧ fq 7 = u215 ∧ fq 10 = (Value.int .i64 (k297 : Int)) ∧ fq 11 = Value.int .i64 (k : Int) ∧ InR .i64 (k : Int) ∧ St w wq [(Ty.sl (Ty.i .i64)).at u215 x214]) hres315 ⟨hf306, hf307, hf308, hf309, rfl, (inL rfl), hS311⟩ ?_ ?_
              · intro k316 s1375 ct317 f318 wd319 hk320 hb321 hI322 hbrk323 hret324
                obtain ⟨⟩ := s1375
                replace hI322 : f318 0 = v_t ∧ f318 3 = (Value.int .i64 ((t).length : Int)) ∧ f318 7 = u215 ∧ f318 10 = (Value.int .i64 (k297 : Int)) ∧ f318 11 = Value.int .i64 (k316 : Int) ∧ InR .i64 (k316 : Int) ∧ St w wd319 [(Ty.sl (Ty.i .i64)).at u215 x214] := hI322
                replace hb321 : p_spec_l03Fault_L6 t k297 x214 k316  = some ct317 := hb321
                unfold p_spec_l03Fault_L6 at hb321
                obtain ⟨hf325, hf326, hf327, hf328, hf329, hr330, hS331⟩ := hI322
                refine W.seq (W.seq (W.region ?_))
                refine WL.val (Value.int .i64 (k316 : Int)) _ (op_move hf329) rfl ?_
                refine WL.val (Value.int .i64 ((t).length : Int)) _ (op_move hf326) rfl ?_
                refine WL.val (Value.bool (decide ((k316 : Int) < ((t).length : Int)))) _ (op_lss rfl rfl) rfl ?_
                have hl332 : (k316 : Int) < ((t).length : Int) := by omega
                refine WL.nil ?_
                refine W.condT (decide ((k316 : Int) < ((t).length : Int))) rfl (decide_eq_true hl332) ?_
                refine W.skip ?_
                refine W.seq ?_
                refine W.block ?_
                refine W.seq (W.region ?_)
                refine WL.val (Value.int .i64 (0 : Int)) _ (op_assign rfl) rfl ?_
                refine WL.nil ?_
                show W _ _ _ _ _ _
                obtain ⟨res334, hres335, hb321⟩ := bs hb321
                refine W.blockLoop (fun fq wq => ∃ s, res334 = Res.fin s ∧ fq 0 = v_t ∧ fq 3 = (Value.int .i64 ((t).length : Int)) ∧ fq 7 = u215 ∧ fq 10 = (Value.int .i64 (k297 : Int)) ∧ fq 11 = (Value.int .i64 (k316 : Int)) ∧ St w wq [(Ty.sl (Ty.i .i64)).at u215 x214]) ?_ ?_
                · refine W.forN (fun k (s : Unit) fq wq => fq 0 = v_t ∧ fq 3 = (Value.int .i64 ((t).length : Int)) ∧ fq 7 = u215 ∧ fq 10 = (Value.int .i64 (k297 : Int)) ∧ fq 11 = (Value.int .i64 (k316 : Int)) ∧ fq 12 = Value.int .i64 (k : Int) ∧ InR .i64 (k : Int) ∧ St w wq [(Ty.sl (Ty.i .i64)).at u215 x214]) hres335 ⟨hf325, hf326, hf327, hf328, hf329, rfl, (inL rfl), hS331⟩ ?_ ?_
                  · intro k336 s1349 ct337 f338 wd339 hk340 hb341 hI342 hbrk343 hret344
                    obtain ⟨⟩ := s1349
                    replace hI342 : f338 0 = v_t ∧ f338 3 = (Value.int .i64 ((t).length : Int)) ∧ f338 7 = u215 ∧ f338 10 = (Value.int .i64 (k297 : Int)) ∧ f338 11 = (Value.int .i64 (k316 : Int)) ∧ f338 12 = Value.int .i64 (k336 : Int) ∧ InR .i64 (k336 : Int) ∧ St w wd339 [(Ty.sl (Ty.i .i64)).at u215 x214] := hI342
                    replace hb341 : p_spec_l03Fault_L7 t k297 k316 x214 k336  = some ct337 := hb341
                    unfold p_spec_l03Fault_L7 at hb341
                    obtain ⟨hf345, hf346, hf347, hf348, hf349, hf350, hr351, hS352⟩ := hI342
                    refine W.seq (W.seq (W.region ?_))
                    refine WL.val (Value.int .i64 (k336 : Int)) _ (op_move hf350) rfl ?_
                    refine WL.val (Value.int .i64 ((t).length : Int)) _ (op_move hf346) rfl ?_
                    refine WL.val (Value.bool (decide ((k336 : Int) < ((t).length : Int)))) _ (op_lss rfl rfl) rfl ?_
                    have hl353 : (k336 : Int) < ((t).length : Int) := by omega
                    refine WL.nil ?_
                    refine W.condT (decide ((k336 : Int) < ((t).length : Int))) rfl (decide_eq_true hl353) ?_
                    refine W.skip ?_
                    refine W.seq ?_
                    refine W.block ?_
                    refine W.seq ?_
                    obtain ⟨x384, hx387, hb341⟩ := bs hb341
                    obtain ⟨ha385, hb386, hx387⟩ := idx_some hx387
                    obtain ⟨u398, hc399, hr400⟩ := repSl.el r_t hx387
                    obtain ⟨x423, hx426, hb341⟩ := bs hb341
                    obtain ⟨ha424, hb425, hx426⟩ := idx_some hx426
                    obtain ⟨u437, hc438, hr439⟩ := repSl.el hr400 hx426
                    obtain ⟨x462, hx465, hb341⟩ := bs hb341
                    obtain ⟨ha463, hb464, hx465⟩ := idx_some hx465
                    obtain ⟨u476, hc477, hr478⟩ := repSl.el hr439 hx465
                    obtain ⟨rfl, hr478⟩ := hr478
                    obtain ⟨x515, hx518, hb341⟩ := bs hb341
                    obtain ⟨ha516, hb517, hx518⟩ := idx_some hx518
                    obtain ⟨u529, hc530, hr531⟩ := repSl.el (St.rep (t := (Ty.sl (Ty.i .i64))) hS352 0 rfl) hx518
                    obtain ⟨rfl, hr531⟩ := hr531
                    obtain ⟨x547, hx550, hb341⟩ := bs hb341
                    obtain ⟨ha548, hb549, hx550⟩ := idx_some hx550
                    obtain ⟨u561, hc562, hr563⟩ := repSl.el r_t hx550
                    obtain ⟨x586, hx589, hb341⟩ := bs hb341
                    obtain ⟨ha587, hb588, hx589⟩ := idx_some hx589
                    obtain ⟨u600, hc601, hr602⟩ := repSl.el hr563 hx589
                    obtain ⟨x625, hx628, hb341⟩ := bs hb341
                    obtain ⟨ha626, hb627, hx628⟩ := idx_some hx628
                    obtain ⟨u639, hc640, hr641⟩ := repSl.el hr602 hx628
                    obtain ⟨rfl, hr641⟩ := hr641
                    obtain ⟨x668, hj669, hb341⟩ := bs hb341
                    refine W.cutCode (fun fq wq => fq 0 = v_t ∧ fq 3 = (Value.int .i64 ((t).length : Int)) ∧ fq 7 = u215 ∧ fq 10 = (Value.int .i64 (k297 : Int)) ∧ fq 11 = (Value.int .i64 (k316 : Int)) ∧ fq 12 = (Value.int .i64 (k336 : Int)) ∧ fq 161 = Value.bool x668 ∧ St w wq [(Ty.sl (Ty.i .i64)).at u215 x214]) ?_ ?_
                    · rcases Bool.eq_false_or_eq_true (x462 != x625) with hc670 | hc670
                      · replace hj669 := ip hj669 hc670
                        refine W.drawR mixo 48 [] [fun _ v _ _ => v = v_t, fun _ v _ _ => v = (Value.int .i64 (k297 : Int)) ∧ InR .i64 (k297 : Int), fun _ v _ _ => v = (Value.pointer (some (elA v_t ((k297 : Int)).toNat))), fun _ v _ _ => v = u398, fun _ v _ _ => v = (Value.int .i64 (k316 : Int)) ∧ InR .i64 (k316 : Int), fun _ v _ _ => v = (Value.pointer (some (elA u398 ((k316 : Int)).toNat))), fun _ v _ _ => v = u437, fun _ v _ _ => v = (Value.int .i64 (k336 : Int)) ∧ InR .i64 (k336 : Int), fun _ v _ _ => v = (Value.pointer (some (elA u437 ((k336 : Int)).toNat))), fun _ v _ _ => v = (Value.int .i64 x462) ∧ InR .i64 x462, fun _ v _ _ => v = v_t, fun _ v _ _ => v = u215, fun _ v _ _ => v = (Value.int .i64 (k297 : Int)) ∧ InR .i64 (k297 : Int), fun _ v _ _ => v = (Value.pointer (some (elA u215 ((k297 : Int)).toNat))), fun _ v _ _ => v = (Value.int .i64 x515) ∧ InR .i64 x515, fun _ v _ _ => v = (Value.pointer (some (elA v_t (x515).toNat))), fun _ v _ _ => v = u561, fun _ v _ _ => v = (Value.int .i64 (k336 : Int)) ∧ InR .i64 (k336 : Int), fun _ v _ _ => v = (Value.pointer (some (elA u561 ((k336 : Int)).toNat))), fun _ v _ _ => v = u600, fun _ v _ _ => v = (Value.int .i64 (k316 : Int)) ∧ InR .i64 (k316 : Int), fun _ v _ _ => v = (Value.pointer (some (elA u600 ((k316 : Int)).toNat))), fun _ v _ _ => v = (Value.int .i64 x625) ∧ InR .i64 x625, fun _ v _ _ => v = (Value.bool (x462 != x625)), fun _ v _ _ => v = (Value.bool (x462 != x625)), fun _ v _ _ => v = undef, fun _ v _ _ => v = undef, fun _ v _ _ => v = undef, fun _ v _ _ => v = undef, fun _ v _ _ => v = undef, fun _ v _ _ => v = undef, fun _ v _ _ => v = undef, fun _ v _ _ => v = undef, fun _ v _ _ => v = undef, fun _ v _ _ => v = undef, fun _ v _ _ => v = undef, fun _ v _ _ => v = undef, fun _ v _ _ => v = undef, fun _ v _ _ => v = undef, fun _ v _ _ => v = undef, fun _ v _ _ => v = undef, fun _ v _ _ => v = undef, fun _ v _ _ => v = undef, fun _ v _ _ => v = undef, fun _ v _ _ => v = undef, fun _ v _ _ => v = undef, fun _ v _ _ => v = undef, fun _ v _ _ => v = undef] (by kernel_rfl) (by kernel_rfl) ⟨pk, pk, pk, pk, pk, pk, pk, pk, pk, pk, pk, pk, pk, pk, pk, pk, pk, pk, pk, pk, pk, pk, pk, pk, pk, pk, pk, pk, pk, pk, pk, pk, pk, pk, pk, pk, pk, pk, pk, pk, pk, pk, pk, pk, pk, pk, pk, pk, trivial⟩ ⟨?_, ?_, ?_, ?_, ?_, ?_, ?_, ?_, ?_, ?_, ?_, ?_, ?_, ?_, ?_, ?_, ?_, ?_, ?_, ?_, ?_, ?_, ?_, ?_, ?_, ?_, ?_, ?_, ?_, ?_, ?_, ?_, ?_, ?_, ?_, ?_, ?_, ?_, ?_, ?_, ?_, ?_, ?_, ?_, ?_, ?_, ?_, ?_, trivial⟩ ?_
                        · refine ObX.op rfl fun f355 wd356 he357 hout358 hphi359 => ?_
                          have hS360 := St.extend hS352 he357
                          have e361 : f355 0 = v_t := (hout358 0 rfl).trans hf345
                          exact OpX.val v_t wd356 rfl (op_move e361) (Ext.refl _) rfl
                        · refine ObX.op rfl fun f362 wd363 he364 hout365 hphi366 => ?_
                          have hS367 := St.extend hS352 he364
                          have e368 : f362 10 = (Value.int .i64 (k297 : Int)) := (hout365 10 rfl).trans hf348
                          exact OpX.val (Value.int .i64 (k297 : Int)) wd363 rfl (op_move e368) (Ext.refl _) ⟨rfl, hr310⟩
                        · refine ObX.op rfl fun f369 wd370 he371 hout372 hphi373 => ?_
                          have hS374 := St.extend hS352 he371
                          obtain ⟨S375, hS376, hf377⟩ := hphi373 0 112 _ rfl rfl rfl
                          have e378 : f369 112 = v_t := hf377
                          obtain ⟨S379, hS380, hf381⟩ := hphi373 1 113 _ rfl rfl rfl
                          obtain ⟨e382, hr383⟩ := hf381
                          exact OpX.val (Value.pointer (some (elA v_t ((k297 : Int)).toNat))) wd370 rfl (op_idx sl_22 (Ty.lift _ hS374.ext r_t) e378 e382 ha385 hb386) (Ext.refl _) rfl
                        · refine ObX.op rfl fun f388 wd389 he390 hout391 hphi392 => ?_
                          have hS393 := St.extend hS352 he390
                          obtain ⟨S394, hS395, hf396⟩ := hphi392 2 114 _ rfl rfl rfl
                          have e397 : f388 114 = (Value.pointer (some (elA v_t ((k297 : Int)).toNat))) := hf396
                          exact OpX.val u398 wd389 rfl (op_load one_25 e397 (Ext.cell hS393.ext hc399)) (Ext.refl _) rfl
                        · refine ObX.op rfl fun f401 wd402 he403 hout404 hphi405 => ?_
                          have hS406 := St.extend hS352 he403
                          have e407 : f401 11 = (Value.int .i64 (k316 : Int)) := (hout404 11 rfl).trans hf349
                          exact OpX.val (Value.int .i64 (k316 : Int)) wd402 rfl (op_move e407) (Ext.refl _) ⟨rfl, hr330⟩
                        · refine ObX.op rfl fun f408 wd409 he410 hout411 hphi412 => ?_
                          have hS413 := St.extend hS352 he410
                          obtain ⟨S414, hS415, hf416⟩ := hphi412 3 115 _ rfl rfl rfl
                          have e417 : f408 115 = u398 := hf416
                          obtain ⟨S418, hS419, hf420⟩ := hphi412 4 116 _ rfl rfl rfl
                          obtain ⟨e421, hr422⟩ := hf420
                          exact OpX.val (Value.pointer (some (elA u398 ((k316 : Int)).toNat))) wd409 rfl (op_idx sl_25 (Ty.lift _ hS413.ext hr400) e417 e421 ha424 hb425) (Ext.refl _) rfl
                        · refine ObX.op rfl fun f427 wd428 he429 hout430 hphi431 => ?_
                          have hS432 := St.extend hS352 he429
                          obtain ⟨S433, hS434, hf435⟩ := hphi431 5 117 _ rfl rfl rfl
                          have e436 : f427 117 = (Value.pointer (some (elA u398 ((k316 : Int)).toNat))) := hf435
                          exact OpX.val u437 wd428 rfl (op_load one_36 e436 (Ext.cell hS432.ext hc438)) (Ext.refl _) rfl
                        · refine ObX.op rfl fun f440 wd441 he442 hout443 hphi444 => ?_
                          have hS445 := St.extend hS352 he442
                          have e446 : f440 12 = (Value.int .i64 (k336 : Int)) := (hout443 12 rfl).trans hf350
                          exact OpX.val (Value.int .i64 (k336 : Int)) wd441 rfl (op_move e446) (Ext.refl _) ⟨rfl, hr351⟩
                        · refine ObX.op rfl fun f447 wd448 he449 hout450 hphi451 => ?_
                          have hS452 := St.extend hS352 he449
                          obtain ⟨S453, hS454, hf455⟩ := hphi451 6 118 _ rfl rfl rfl
                          have e456 : f447 118 = u437 := hf455
                          obtain ⟨S457, hS458, hf459⟩ := hphi451 7 119 _ rfl rfl rfl
                          obtain ⟨e460, hr461⟩ := hf459
                          exact OpX.val (Value.pointer (some (elA u437 ((k336 : Int)).toNat))) wd448 rfl (op_idx sl_36 (Ty.lift _ hS452.ext hr439) e456 e460 ha463 hb464) (Ext.refl _) rfl
                        · refine ObX.op rfl fun f466 wd467 he468 hout469 hphi470 => ?_
                          have hS471 := St.extend hS352 he468
                          obtain ⟨S472, hS473, hf474⟩ := hphi470 8 120 _ rfl rfl rfl
                          have e475 : f466 120 = (Value.pointer (some (elA u437 ((k336 : Int)).toNat))) := hf474
                          exact OpX.val (Value.int .i64 x462) wd467 rfl (op_load one_2 e475 (Ext.cell hS471.ext hc477)) (Ext.refl _) ⟨rfl, hr478⟩
                        · refine ObX.op rfl fun f479 wd480 he481 hout482 hphi483 => ?_
                          have hS484 := St.extend hS352 he481
                          have e485 : f479 0 = v_t := (hout482 0 rfl).trans hf345
                          exact OpX.val v_t wd480 rfl (op_move e485) (Ext.refl _) rfl
                        · refine ObX.op rfl fun f486 wd487 he488 hout489 hphi490 => ?_
                          have hS491 := St.extend hS352 he488
                          have e492 : f486 7 = u215 := (hout489 7 rfl).trans hf347
                          exact OpX.val u215 wd487 rfl (op_move e492) (Ext.refl _) rfl
                        · refine ObX.op rfl fun f493 wd494 he495 hout496 hphi497 => ?_
                          have hS498 := St.extend hS352 he495
                          have e499 : f493 10 = (Value.int .i64 (k297 : Int)) := (hout496 10 rfl).trans hf348
                          exact OpX.val (Value.int .i64 (k297 : Int)) wd494 rfl (op_move e499) (Ext.refl _) ⟨rfl, hr310⟩
                        · refine ObX.op rfl fun f500 wd501 he502 hout503 hphi504 => ?_
                          have hS505 := St.extend hS352 he502
                          obtain ⟨S506, hS507, hf508⟩ := hphi504 11 123 _ rfl rfl rfl
                          have e509 : f500 123 = u215 := hf508
                          obtain ⟨S510, hS511, hf512⟩ := hphi504 12 124 _ rfl rfl rfl
                          obtain ⟨e513, hr514⟩ := hf512
                          exact OpX.val (Value.pointer (some (elA u215 ((k297 : Int)).toNat))) wd501 rfl (op_idx sl_36 (St.rep (t := (Ty.sl (Ty.i .i64))) hS505 0 rfl) e509 e513 ha516 hb517) (Ext.refl _) rfl
                        · refine ObX.op rfl fun f519 wd520 he521 hout522 hphi523 => ?_
                          have hS524 := St.extend hS352 he521
                          obtain ⟨S525, hS526, hf527⟩ := hphi523 13 125 _ rfl rfl rfl
                          have e528 : f519 125 = (Value.pointer (some (elA u215 ((k297 : Int)).toNat))) := hf527
                          exact OpX.val (Value.int .i64 x515) wd520 rfl (op_load one_2 e528 (Ext.cell he521 hc530)) (Ext.refl _) ⟨rfl, hr531⟩
                        · refine ObX.op rfl fun f532 wd533 he534 hout535 hphi536 => ?_
                          have hS537 := St.extend hS352 he534
                          obtain ⟨S538, hS539, hf540⟩ := hphi536 10 122 _ rfl rfl rfl
                          have e541 : f532 122 = v_t := hf540
                          obtain ⟨S542, hS543, hf544⟩ := hphi536 14 126 _ rfl rfl rfl
                          obtain ⟨e545, hr546⟩ := hf544
                          exact OpX.val (Value.pointer (some (elA v_t (x515).toNat))) wd533 rfl (op_idx sl_22 (Ty.lift _ hS537.ext r_t) e541 e545 ha548 hb549) (Ext.refl _) rfl
                        · refine ObX.op rfl fun f551 wd552 he553 hout554 hphi555 => ?_
                          have hS556 := St.extend hS352 he553
                          obtain ⟨S557, hS558, hf559⟩ := hphi555 15 127 _ rfl rfl rfl
                          have e560 : f551 127 = (Value.pointer (some (elA v_t (x515).toNat))) := hf559
                          exact OpX.val u561 wd552 rfl (op_load one_25 e560 (Ext.cell hS556.ext hc562)) (Ext.refl _) rfl
                        · refine ObX.op rfl fun f564 wd565 he566 hout567 hphi568 => ?_
                          have hS569 := St.extend hS352 he566
                          have e570 : f564 12 = (Value.int .i64 (k336 : Int)) := (hout567 12 rfl).trans hf350
                          exact OpX.val (Value.int .i64 (k336 : Int)) wd565 rfl (op_move e570) (Ext.refl _) ⟨rfl, hr351⟩
                        · refine ObX.op rfl fun f571 wd572 he573 hout574 hphi575 => ?_
                          have hS576 := St.extend hS352 he573
                          obtain ⟨S577, hS578, hf579⟩ := hphi575 16 128 _ rfl rfl rfl
                          have e580 : f571 128 = u561 := hf579
                          obtain ⟨S581, hS582, hf583⟩ := hphi575 17 129 _ rfl rfl rfl
                          obtain ⟨e584, hr585⟩ := hf583
                          exact OpX.val (Value.pointer (some (elA u561 ((k336 : Int)).toNat))) wd572 rfl (op_idx sl_25 (Ty.lift _ hS576.ext hr563) e580 e584 ha587 hb588) (Ext.refl _) rfl
                        · refine ObX.op rfl fun f590 wd591 he592 hout593 hphi594 => ?_
                          have hS595 := St.extend hS352 he592
                          obtain ⟨S596, hS597, hf598⟩ := hphi594 18 130 _ rfl rfl rfl
                          have e599 : f590 130 = (Value.pointer (some (elA u561 ((k336 : Int)).toNat))) := hf598
                          exact OpX.val u600 wd591 rfl (op_load one_36 e599 (Ext.cell hS595.ext hc601)) (Ext.refl _) rfl
                        · refine ObX.op rfl fun f603 wd604 he605 hout606 hphi607 => ?_
                          have hS608 := St.extend hS352 he605
                          have e609 : f603 11 = (Value.int .i64 (k316 : Int)) := (hout606 11 rfl).trans hf349
                          exact OpX.val (Value.int .i64 (k316 : Int)) wd604 rfl (op_move e609) (Ext.refl _) ⟨rfl, hr330⟩
                        · refine ObX.op rfl fun f610 wd611 he612 hout613 hphi614 => ?_
                          have hS615 := St.extend hS352 he612
                          obtain ⟨S616, hS617, hf618⟩ := hphi614 19 131 _ rfl rfl rfl
                          have e619 : f610 131 = u600 := hf618
                          obtain ⟨S620, hS621, hf622⟩ := hphi614 20 132 _ rfl rfl rfl
                          obtain ⟨e623, hr624⟩ := hf622
                          exact OpX.val (Value.pointer (some (elA u600 ((k316 : Int)).toNat))) wd611 rfl (op_idx sl_36 (Ty.lift _ hS615.ext hr602) e619 e623 ha626 hb627) (Ext.refl _) rfl
                        · refine ObX.op rfl fun f629 wd630 he631 hout632 hphi633 => ?_
                          have hS634 := St.extend hS352 he631
                          obtain ⟨S635, hS636, hf637⟩ := hphi633 21 133 _ rfl rfl rfl
                          have e638 : f629 133 = (Value.pointer (some (elA u600 ((k316 : Int)).toNat))) := hf637
                          exact OpX.val (Value.int .i64 x625) wd630 rfl (op_load one_2 e638 (Ext.cell hS634.ext hc640)) (Ext.refl _) ⟨rfl, hr641⟩
                        · refine ObX.op rfl fun f642 wd643 he644 hout645 hphi646 => ?_
                          have hS647 := St.extend hS352 he644
                          obtain ⟨S648, hS649, hf650⟩ := hphi646 9 121 _ rfl rfl rfl
                          obtain ⟨e651, hr652⟩ := hf650
                          obtain ⟨S653, hS654, hf655⟩ := hphi646 22 134 _ rfl rfl rfl
                          obtain ⟨e656, hr657⟩ := hf655
                          exact OpX.val (Value.bool (x462 != x625)) wd643 rfl (op_neq e651 e656) (Ext.refl _) rfl
                        · refine ObX.op rfl fun f658 wd659 he660 hout661 hphi662 => ?_
                          have hS663 := St.extend hS352 he660
                          obtain ⟨S664, hS665, hf666⟩ := hphi662 23 135 _ rfl rfl rfl
                          have e667 : f658 135 = (Value.bool (x462 != x625)) := hf666
                          exact OpX.val (Value.bool (x462 != x625)) wd659 rfl (op_move e667) (Ext.refl _) rfl
                        · refine ObX.op rfl fun f671 wd672 he673 hout674 hphi675 => ?_
                          obtain ⟨S676, hS677, hf678⟩ := hphi675 24 136 _ rfl rfl rfl
                          have e679 : f671 136 = (Value.bool (x462 != x625)) := hf678
                          exact OpX.skip (wanted_skip rfl rfl e679 hc670) rfl
                        · refine ObX.op rfl fun f680 wd681 he682 hout683 hphi684 => ?_
                          obtain ⟨S685, hS686, hf687⟩ := hphi684 24 136 _ rfl rfl rfl
                          have e688 : f680 136 = (Value.bool (x462 != x625)) := hf687
                          exact OpX.skip (wanted_skip rfl rfl e688 hc670) rfl
                        · refine ObX.op rfl fun f689 wd690 he691 hout692 hphi693 => ?_
                          obtain ⟨S694, hS695, hf696⟩ := hphi693 24 136 _ rfl rfl rfl
                          have e697 : f689 136 = (Value.bool (x462 != x625)) := hf696
                          exact OpX.skip (wanted_skip rfl rfl e697 hc670) rfl
                        · refine ObX.op rfl fun f698 wd699 he700 hout701 hphi702 => ?_
                          obtain ⟨S703, hS704, hf705⟩ := hphi702 24 136 _ rfl rfl rfl
                          have e706 : f698 136 = (Value.bool (x462 != x625)) := hf705
                          exact OpX.skip (wanted_skip rfl rfl e706 hc670) rfl
                        · refine ObX.op rfl fun f707 wd708 he709 hout710 hphi711 => ?_
                          obtain ⟨S712, hS713, hf714⟩ := hphi711 24 136 _ rfl rfl rfl
                          have e715 : f707 136 = (Value.bool (x462 != x625)) := hf714
                          exact OpX.skip (wanted_skip rfl rfl e715 hc670) rfl
                        · refine ObX.op rfl fun f716 wd717 he718 hout719 hphi720 => ?_
                          obtain ⟨S721, hS722, hf723⟩ := hphi720 24 136 _ rfl rfl rfl
                          have e724 : f716 136 = (Value.bool (x462 != x625)) := hf723
                          exact OpX.skip (wanted_skip rfl rfl e724 hc670) rfl
                        · refine ObX.op rfl fun f725 wd726 he727 hout728 hphi729 => ?_
                          obtain ⟨S730, hS731, hf732⟩ := hphi729 24 136 _ rfl rfl rfl
                          have e733 : f725 136 = (Value.bool (x462 != x625)) := hf732
                          exact OpX.skip (wanted_skip rfl rfl e733 hc670) rfl
                        · refine ObX.op rfl fun f734 wd735 he736 hout737 hphi738 => ?_
                          obtain ⟨S739, hS740, hf741⟩ := hphi738 24 136 _ rfl rfl rfl
                          have e742 : f734 136 = (Value.bool (x462 != x625)) := hf741
                          exact OpX.skip (wanted_skip rfl rfl e742 hc670) rfl
                        · refine ObX.op rfl fun f743 wd744 he745 hout746 hphi747 => ?_
                          obtain ⟨S748, hS749, hf750⟩ := hphi747 24 136 _ rfl rfl rfl
                          have e751 : f743 136 = (Value.bool (x462 != x625)) := hf750
                          exact OpX.skip (wanted_skip rfl rfl e751 hc670) rfl
                        · refine ObX.op rfl fun f752 wd753 he754 hout755 hphi756 => ?_
                          obtain ⟨S757, hS758, hf759⟩ := hphi756 24 136 _ rfl rfl rfl
                          have e760 : f752 136 = (Value.bool (x462 != x625)) := hf759
                          exact OpX.skip (wanted_skip rfl rfl e760 hc670) rfl
                        · refine ObX.op rfl fun f761 wd762 he763 hout764 hphi765 => ?_
                          obtain ⟨S766, hS767, hf768⟩ := hphi765 24 136 _ rfl rfl rfl
                          have e769 : f761 136 = (Value.bool (x462 != x625)) := hf768
                          exact OpX.skip (wanted_skip rfl rfl e769 hc670) rfl
                        · refine ObX.op rfl fun f770 wd771 he772 hout773 hphi774 => ?_
                          obtain ⟨S775, hS776, hf777⟩ := hphi774 24 136 _ rfl rfl rfl
                          have e778 : f770 136 = (Value.bool (x462 != x625)) := hf777
                          exact OpX.skip (wanted_skip rfl rfl e778 hc670) rfl
                        · refine ObX.op rfl fun f779 wd780 he781 hout782 hphi783 => ?_
                          obtain ⟨S784, hS785, hf786⟩ := hphi783 24 136 _ rfl rfl rfl
                          have e787 : f779 136 = (Value.bool (x462 != x625)) := hf786
                          exact OpX.skip (wanted_skip rfl rfl e787 hc670) rfl
                        · refine ObX.op rfl fun f788 wd789 he790 hout791 hphi792 => ?_
                          obtain ⟨S793, hS794, hf795⟩ := hphi792 24 136 _ rfl rfl rfl
                          have e796 : f788 136 = (Value.bool (x462 != x625)) := hf795
                          exact OpX.skip (wanted_skip rfl rfl e796 hc670) rfl
                        · refine ObX.op rfl fun f797 wd798 he799 hout800 hphi801 => ?_
                          obtain ⟨S802, hS803, hf804⟩ := hphi801 24 136 _ rfl rfl rfl
                          have e805 : f797 136 = (Value.bool (x462 != x625)) := hf804
                          exact OpX.skip (wanted_skip rfl rfl e805 hc670) rfl
                        · refine ObX.op rfl fun f806 wd807 he808 hout809 hphi810 => ?_
                          obtain ⟨S811, hS812, hf813⟩ := hphi810 24 136 _ rfl rfl rfl
                          have e814 : f806 136 = (Value.bool (x462 != x625)) := hf813
                          exact OpX.skip (wanted_skip rfl rfl e814 hc670) rfl
                        · refine ObX.op rfl fun f815 wd816 he817 hout818 hphi819 => ?_
                          obtain ⟨S820, hS821, hf822⟩ := hphi819 24 136 _ rfl rfl rfl
                          have e823 : f815 136 = (Value.bool (x462 != x625)) := hf822
                          exact OpX.skip (wanted_skip rfl rfl e823 hc670) rfl
                        · refine ObX.op rfl fun f824 wd825 he826 hout827 hphi828 => ?_
                          obtain ⟨S829, hS830, hf831⟩ := hphi828 24 136 _ rfl rfl rfl
                          have e832 : f824 136 = (Value.bool (x462 != x625)) := hf831
                          exact OpX.skip (wanted_skip rfl rfl e832 hc670) rfl
                        · refine ObX.op rfl fun f833 wd834 he835 hout836 hphi837 => ?_
                          obtain ⟨S838, hS839, hf840⟩ := hphi837 24 136 _ rfl rfl rfl
                          have e841 : f833 136 = (Value.bool (x462 != x625)) := hf840
                          exact OpX.skip (wanted_skip rfl rfl e841 hc670) rfl
                        · refine ObX.op rfl fun f842 wd843 he844 hout845 hphi846 => ?_
                          obtain ⟨S847, hS848, hf849⟩ := hphi846 24 136 _ rfl rfl rfl
                          have e850 : f842 136 = (Value.bool (x462 != x625)) := hf849
                          exact OpX.skip (wanted_skip rfl rfl e850 hc670) rfl
                        · refine ObX.op rfl fun f851 wd852 he853 hout854 hphi855 => ?_
                          obtain ⟨S856, hS857, hf858⟩ := hphi855 24 136 _ rfl rfl rfl
                          have e859 : f851 136 = (Value.bool (x462 != x625)) := hf858
                          exact OpX.skip (wanted_skip rfl rfl e859 hc670) rfl
                        · refine ObX.op rfl fun f860 wd861 he862 hout863 hphi864 => ?_
                          obtain ⟨S865, hS866, hf867⟩ := hphi864 24 136 _ rfl rfl rfl
                          have e868 : f860 136 = (Value.bool (x462 != x625)) := hf867
                          exact OpX.skip (wanted_skip rfl rfl e868 hc670) rfl
                        · refine ObX.op rfl fun f869 wd870 he871 hout872 hphi873 => ?_
                          obtain ⟨S874, hS875, hf876⟩ := hphi873 24 136 _ rfl rfl rfl
                          have e877 : f869 136 = (Value.bool (x462 != x625)) := hf876
                          exact OpX.skip (wanted_skip rfl rfl e877 hc670) rfl
                        · intro f878 wd879 Ss880 he881 hout882 hSn883 hSd884 hphi885
                          show WL _ _ _ _ _ _ _
                          have hS886 := St.extend hS352 he881
                          have e887 : f878 136 = (Value.bool (x462 != x625)) := hphi885 24 136 _ (by decide) rfl rfl
                          have e911 : f878 0 = v_t := (hout882 0 rfl).trans hf345
                          have e912 : f878 3 = (Value.int .i64 ((t).length : Int)) := (hout882 3 rfl).trans hf346
                          have e913 : f878 7 = u215 := (hout882 7 rfl).trans hf347
                          have e914 : f878 10 = (Value.int .i64 (k297 : Int)) := (hout882 10 rfl).trans hf348
                          have e915 : f878 11 = (Value.int .i64 (k316 : Int)) := (hout882 11 rfl).trans hf349
                          have e916 : f878 12 = (Value.int .i64 (k336 : Int)) := (hout882 12 rfl).trans hf350
                          refine WL.gskip rfl (bool_of e887 hc670) rfl ?_
                          refine WL.val (Value.bool true) _ (op_pick_t (evb_of e887 hc670) rfl) rfl ?_
                          refine WL.nil ?_
                          obtain rfl := Option.some.inj hj669
                          exact ⟨e911, e912, e913, e914, e915, e916, rfl, hS886⟩
                      · replace hj669 := inegb hj669 hc670
                        obtain ⟨u972, hc973, hr974⟩ := repSl.el r_t hx387
                        obtain ⟨u1019, hc1020, hr1021⟩ := repSl.el hr974 hx426
                        obtain ⟨u1066, hc1067, hr1068⟩ := repSl.el hr1021 hx465
                        obtain ⟨rfl, hr1068⟩ := hr1068
                        obtain ⟨x1110, hx1113, hj669⟩ := bs hj669
                        obtain ⟨ha1111, hb1112, hx1113⟩ := idx_some hx1113
                        obtain ⟨u1128, hc1129, hr1130⟩ := repSl.el r_t hx1113
                        obtain ⟨x1172, hx1175, hj669⟩ := bs hj669
                        obtain ⟨ha1173, hb1174, hx1175⟩ := idx_some hx1175
                        obtain ⟨u1190, hc1191, hr1192⟩ := repSl.el (St.rep (t := (Ty.sl (Ty.i .i64))) hS352 0 rfl) hx1175
                        obtain ⟨rfl, hr1192⟩ := hr1192
                        obtain ⟨x1212, hx1215, hj669⟩ := bs hj669
                        obtain ⟨ha1213, hb1214, hx1215⟩ := idx_some hx1215
                        obtain ⟨u1230, hc1231, hr1232⟩ := repSl.el hr1130 hx1215
                        obtain ⟨x1263, hx1266, hj669⟩ := bs hj669
                        obtain ⟨ha1264, hb1265, hx1266⟩ := idx_some hx1266
                        obtain ⟨u1281, hc1282, hr1283⟩ := repSl.el hr1232 hx1266
                        obtain ⟨rfl, hr1283⟩ := hr1283
                        refine W.drawR mixo 48 [] [fun _ v _ _ => v = v_t, fun _ v _ _ => v = (Value.int .i64 (k297 : Int)) ∧ InR .i64 (k297 : Int), fun _ v _ _ => v = (Value.pointer (some (elA v_t ((k297 : Int)).toNat))), fun _ v _ _ => v = u398, fun _ v _ _ => v = (Value.int .i64 (k316 : Int)) ∧ InR .i64 (k316 : Int), fun _ v _ _ => v = (Value.pointer (some (elA u398 ((k316 : Int)).toNat))), fun _ v _ _ => v = u437, fun _ v _ _ => v = (Value.int .i64 (k336 : Int)) ∧ InR .i64 (k336 : Int), fun _ v _ _ => v = (Value.pointer (some (elA u437 ((k336 : Int)).toNat))), fun _ v _ _ => v = (Value.int .i64 x462) ∧ InR .i64 x462, fun _ v _ _ => v = v_t, fun _ v _ _ => v = u215, fun _ v _ _ => v = (Value.int .i64 (k297 : Int)) ∧ InR .i64 (k297 : Int), fun _ v _ _ => v = (Value.pointer (some (elA u215 ((k297 : Int)).toNat))), fun _ v _ _ => v = (Value.int .i64 x515) ∧ InR .i64 x515, fun _ v _ _ => v = (Value.pointer (some (elA v_t (x515).toNat))), fun _ v _ _ => v = u561, fun _ v _ _ => v = (Value.int .i64 (k336 : Int)) ∧ InR .i64 (k336 : Int), fun _ v _ _ => v = (Value.pointer (some (elA u561 ((k336 : Int)).toNat))), fun _ v _ _ => v = u600, fun _ v _ _ => v = (Value.int .i64 (k316 : Int)) ∧ InR .i64 (k316 : Int), fun _ v _ _ => v = (Value.pointer (some (elA u600 ((k316 : Int)).toNat))), fun _ v _ _ => v = (Value.int .i64 x625) ∧ InR .i64 x625, fun _ v _ _ => v = (Value.bool (x462 != x625)), fun _ v _ _ => v = (Value.bool (x462 != x625)), fun _ v _ _ => v = v_t, fun _ v _ _ => v = (Value.int .i64 (k297 : Int)) ∧ InR .i64 (k297 : Int), fun _ v _ _ => v = (Value.pointer (some (elA v_t ((k297 : Int)).toNat))), fun _ v _ _ => v = u972, fun _ v _ _ => v = (Value.int .i64 (k316 : Int)) ∧ InR .i64 (k316 : Int), fun _ v _ _ => v = (Value.pointer (some (elA u972 ((k316 : Int)).toNat))), fun _ v _ _ => v = u1019, fun _ v _ _ => v = (Value.int .i64 (k336 : Int)) ∧ InR .i64 (k336 : Int), fun _ v _ _ => v = (Value.pointer (some (elA u1019 ((k336 : Int)).toNat))), fun _ v _ _ => v = (Value.int .i64 x462) ∧ InR .i64 x462, fun _ v _ _ => v = v_t, fun _ v _ _ => v = (Value.int .i64 (k336 : Int)) ∧ InR .i64 (k336 : Int), fun _ v _ _ => v = (Value.pointer (some (elA v_t ((k336 : Int)).toNat))), fun _ v _ _ => v = u1128, fun _ v _ _ => v = u215, fun _ v _ _ => v = (Value.int .i64 (k316 : Int)) ∧ InR .i64 (k316 : Int), fun _ v _ _ => v = (Value.pointer (some (elA u215 ((k316 : Int)).toNat))), fun _ v _ _ => v = (Value.int .i64 x1172) ∧ InR .i64 x1172, fun _ v _ _ => v = (Value.pointer (some (elA u1128 (x1172).toNat))), fun _ v _ _ => v = u1230, fun _ v _ _ => v = (Value.int .i64 (k297 : Int)) ∧ InR .i64 (k297 : Int), fun _ v _ _ => v = (Value.pointer (some (elA u1230 ((k297 : Int)).toNat))), fun _ v _ _ => v = (Value.int .i64 x1263) ∧ InR .i64 x1263] (by kernel_rfl) (by kernel_rfl) ⟨pk, pk, pk, pk, pk, pk, pk, pk, pk, pk, pk, pk, pk, pk, pk, pk, pk, pk, pk, pk, pk, pk, pk, pk, pk, pk, pk, pk, pk, pk, pk, pk, pk, pk, pk, pk, pk, pk, pk, pk, pk, pk, pk, pk, pk, pk, pk, pk, trivial⟩ ⟨?_, ?_, ?_, ?_, ?_, ?_, ?_, ?_, ?_, ?_, ?_, ?_, ?_, ?_, ?_, ?_, ?_, ?_, ?_, ?_, ?_, ?_, ?_, ?_, ?_, ?_, ?_, ?_, ?_, ?_, ?_, ?_, ?_, ?_, ?_, ?_, ?_, ?_, ?_, ?_, ?_, ?_, ?_, ?_, ?_, ?_, ?_, ?_, trivial⟩ ?_
                        · refine ObX.op rfl fun f355 wd356 he357 hout358 hphi359 => ?_
                          have hS360 := St.extend hS352 he357
                          have e361 : f355 0 = v_t := (hout358 0 rfl).trans hf345
                          exact OpX.val v_t wd356 rfl (op_move e361) (Ext.refl _) rfl
                        · refine ObX.op rfl fun f362 wd363 he364 hout365 hphi366 => ?_
                          have hS367 := St.extend hS352 he364
                          have e368 : f362 10 = (Value.int .i64 (k297 : Int)) := (hout365 10 rfl).trans hf348
                          exact OpX.val (Value.int .i64 (k297 : Int)) wd363 rfl (op_move e368) (Ext.refl _) ⟨rfl, hr310⟩
                        · refine ObX.op rfl fun f369 wd370 he371 hout372 hphi373 => ?_
                          have hS374 := St.extend hS352 he371
                          obtain ⟨S375, hS376, hf377⟩ := hphi373 0 112 _ rfl rfl rfl
                          have e378 : f369 112 = v_t := hf377
                          obtain ⟨S379, hS380, hf381⟩ := hphi373 1 113 _ rfl rfl rfl
                          obtain ⟨e382, hr383⟩ := hf381
                          exact OpX.val (Value.pointer (some (elA v_t ((k297 : Int)).toNat))) wd370 rfl (op_idx sl_22 (Ty.lift _ hS374.ext r_t) e378 e382 ha385 hb386) (Ext.refl _) rfl
                        · refine ObX.op rfl fun f388 wd389 he390 hout391 hphi392 => ?_
                          have hS393 := St.extend hS352 he390
                          obtain ⟨S394, hS395, hf396⟩ := hphi392 2 114 _ rfl rfl rfl
                          have e397 : f388 114 = (Value.pointer (some (elA v_t ((k297 : Int)).toNat))) := hf396
                          exact OpX.val u398 wd389 rfl (op_load one_25 e397 (Ext.cell hS393.ext hc399)) (Ext.refl _) rfl
                        · refine ObX.op rfl fun f401 wd402 he403 hout404 hphi405 => ?_
                          have hS406 := St.extend hS352 he403
                          have e407 : f401 11 = (Value.int .i64 (k316 : Int)) := (hout404 11 rfl).trans hf349
                          exact OpX.val (Value.int .i64 (k316 : Int)) wd402 rfl (op_move e407) (Ext.refl _) ⟨rfl, hr330⟩
                        · refine ObX.op rfl fun f408 wd409 he410 hout411 hphi412 => ?_
                          have hS413 := St.extend hS352 he410
                          obtain ⟨S414, hS415, hf416⟩ := hphi412 3 115 _ rfl rfl rfl
                          have e417 : f408 115 = u398 := hf416
                          obtain ⟨S418, hS419, hf420⟩ := hphi412 4 116 _ rfl rfl rfl
                          obtain ⟨e421, hr422⟩ := hf420
                          exact OpX.val (Value.pointer (some (elA u398 ((k316 : Int)).toNat))) wd409 rfl (op_idx sl_25 (Ty.lift _ hS413.ext hr400) e417 e421 ha424 hb425) (Ext.refl _) rfl
                        · refine ObX.op rfl fun f427 wd428 he429 hout430 hphi431 => ?_
                          have hS432 := St.extend hS352 he429
                          obtain ⟨S433, hS434, hf435⟩ := hphi431 5 117 _ rfl rfl rfl
                          have e436 : f427 117 = (Value.pointer (some (elA u398 ((k316 : Int)).toNat))) := hf435
                          exact OpX.val u437 wd428 rfl (op_load one_36 e436 (Ext.cell hS432.ext hc438)) (Ext.refl _) rfl
                        · refine ObX.op rfl fun f440 wd441 he442 hout443 hphi444 => ?_
                          have hS445 := St.extend hS352 he442
                          have e446 : f440 12 = (Value.int .i64 (k336 : Int)) := (hout443 12 rfl).trans hf350
                          exact OpX.val (Value.int .i64 (k336 : Int)) wd441 rfl (op_move e446) (Ext.refl _) ⟨rfl, hr351⟩
                        · refine ObX.op rfl fun f447 wd448 he449 hout450 hphi451 => ?_
                          have hS452 := St.extend hS352 he449
                          obtain ⟨S453, hS454, hf455⟩ := hphi451 6 118 _ rfl rfl rfl
                          have e456 : f447 118 = u437 := hf455
                          obtain ⟨S457, hS458, hf459⟩ := hphi451 7 119 _ rfl rfl rfl
                          obtain ⟨e460, hr461⟩ := hf459
                          exact OpX.val (Value.pointer (some (elA u437 ((k336 : Int)).toNat))) wd448 rfl (op_idx sl_36 (Ty.lift _ hS452.ext hr439) e456 e460 ha463 hb464) (Ext.refl _) rfl
                        · refine ObX.op rfl fun f466 wd467 he468 hout469 hphi470 => ?_
                          have hS471 := St.extend hS352 he468
                          obtain ⟨S472, hS473, hf474⟩ := hphi470 8 120 _ rfl rfl rfl
                          have e475 : f466 120 = (Value.pointer (some (elA u437 ((k336 : Int)).toNat))) := hf474
                          exact OpX.val (Value.int .i64 x462) wd467 rfl (op_load one_2 e475 (Ext.cell hS471.ext hc477)) (Ext.refl _) ⟨rfl, hr478⟩
                        · refine ObX.op rfl fun f479 wd480 he481 hout482 hphi483 => ?_
                          have hS484 := St.extend hS352 he481
                          have e485 : f479 0 = v_t := (hout482 0 rfl).trans hf345
                          exact OpX.val v_t wd480 rfl (op_move e485) (Ext.refl _) rfl
                        · refine ObX.op rfl fun f486 wd487 he488 hout489 hphi490 => ?_
                          have hS491 := St.extend hS352 he488
                          have e492 : f486 7 = u215 := (hout489 7 rfl).trans hf347
                          exact OpX.val u215 wd487 rfl (op_move e492) (Ext.refl _) rfl
                        · refine ObX.op rfl fun f493 wd494 he495 hout496 hphi497 => ?_
                          have hS498 := St.extend hS352 he495
                          have e499 : f493 10 = (Value.int .i64 (k297 : Int)) := (hout496 10 rfl).trans hf348
                          exact OpX.val (Value.int .i64 (k297 : Int)) wd494 rfl (op_move e499) (Ext.refl _) ⟨rfl, hr310⟩
                        · refine ObX.op rfl fun f500 wd501 he502 hout503 hphi504 => ?_
                          have hS505 := St.extend hS352 he502
                          obtain ⟨S506, hS507, hf508⟩ := hphi504 11 123 _ rfl rfl rfl
                          have e509 : f500 123 = u215 := hf508
                          obtain ⟨S510, hS511, hf512⟩ := hphi504 12 124 _ rfl rfl rfl
                          obtain ⟨e513, hr514⟩ := hf512
                          exact OpX.val (Value.pointer (some (elA u215 ((k297 : Int)).toNat))) wd501 rfl (op_idx sl_36 (St.rep (t := (Ty.sl (Ty.i .i64))) hS505 0 rfl) e509 e513 ha516 hb517) (Ext.refl _) rfl
                        · refine ObX.op rfl fun f519 wd520 he521 hout522 hphi523 => ?_
                          have hS524 := St.extend hS352 he521
                          obtain ⟨S525, hS526, hf527⟩ := hphi523 13 125 _ rfl rfl rfl
                          have e528 : f519 125 = (Value.pointer (some (elA u215 ((k297 : Int)).toNat))) := hf527
                          exact OpX.val (Value.int .i64 x515) wd520 rfl (op_load one_2 e528 (Ext.cell he521 hc530)) (Ext.refl _) ⟨rfl, hr531⟩
                        · refine ObX.op rfl fun f532 wd533 he534 hout535 hphi536 => ?_
                          have hS537 := St.extend hS352 he534
                          obtain ⟨S538, hS539, hf540⟩ := hphi536 10 122 _ rfl rfl rfl
                          have e541 : f532 122 = v_t := hf540
                          obtain ⟨S542, hS543, hf544⟩ := hphi536 14 126 _ rfl rfl rfl
                          obtain ⟨e545, hr546⟩ := hf544
                          exact OpX.val (Value.pointer (some (elA v_t (x515).toNat))) wd533 rfl (op_idx sl_22 (Ty.lift _ hS537.ext r_t) e541 e545 ha548 hb549) (Ext.refl _) rfl
                        · refine ObX.op rfl fun f551 wd552 he553 hout554 hphi555 => ?_
                          have hS556 := St.extend hS352 he553
                          obtain ⟨S557, hS558, hf559⟩ := hphi555 15 127 _ rfl rfl rfl
                          have e560 : f551 127 = (Value.pointer (some (elA v_t (x515).toNat))) := hf559
                          exact OpX.val u561 wd552 rfl (op_load one_25 e560 (Ext.cell hS556.ext hc562)) (Ext.refl _) rfl
                        · refine ObX.op rfl fun f564 wd565 he566 hout567 hphi568 => ?_
                          have hS569 := St.extend hS352 he566
                          have e570 : f564 12 = (Value.int .i64 (k336 : Int)) := (hout567 12 rfl).trans hf350
                          exact OpX.val (Value.int .i64 (k336 : Int)) wd565 rfl (op_move e570) (Ext.refl _) ⟨rfl, hr351⟩
                        · refine ObX.op rfl fun f571 wd572 he573 hout574 hphi575 => ?_
                          have hS576 := St.extend hS352 he573
                          obtain ⟨S577, hS578, hf579⟩ := hphi575 16 128 _ rfl rfl rfl
                          have e580 : f571 128 = u561 := hf579
                          obtain ⟨S581, hS582, hf583⟩ := hphi575 17 129 _ rfl rfl rfl
                          obtain ⟨e584, hr585⟩ := hf583
                          exact OpX.val (Value.pointer (some (elA u561 ((k336 : Int)).toNat))) wd572 rfl (op_idx sl_25 (Ty.lift _ hS576.ext hr563) e580 e584 ha587 hb588) (Ext.refl _) rfl
                        · refine ObX.op rfl fun f590 wd591 he592 hout593 hphi594 => ?_
                          have hS595 := St.extend hS352 he592
                          obtain ⟨S596, hS597, hf598⟩ := hphi594 18 130 _ rfl rfl rfl
                          have e599 : f590 130 = (Value.pointer (some (elA u561 ((k336 : Int)).toNat))) := hf598
                          exact OpX.val u600 wd591 rfl (op_load one_36 e599 (Ext.cell hS595.ext hc601)) (Ext.refl _) rfl
                        · refine ObX.op rfl fun f603 wd604 he605 hout606 hphi607 => ?_
                          have hS608 := St.extend hS352 he605
                          have e609 : f603 11 = (Value.int .i64 (k316 : Int)) := (hout606 11 rfl).trans hf349
                          exact OpX.val (Value.int .i64 (k316 : Int)) wd604 rfl (op_move e609) (Ext.refl _) ⟨rfl, hr330⟩
                        · refine ObX.op rfl fun f610 wd611 he612 hout613 hphi614 => ?_
                          have hS615 := St.extend hS352 he612
                          obtain ⟨S616, hS617, hf618⟩ := hphi614 19 131 _ rfl rfl rfl
                          have e619 : f610 131 = u600 := hf618
                          obtain ⟨S620, hS621, hf622⟩ := hphi614 20 132 _ rfl rfl rfl
                          obtain ⟨e623, hr624⟩ := hf622
                          exact OpX.val (Value.pointer (some (elA u600 ((k316 : Int)).toNat))) wd611 rfl (op_idx sl_36 (Ty.lift _ hS615.ext hr602) e619 e623 ha626 hb627) (Ext.refl _) rfl
                        · refine ObX.op rfl fun f629 wd630 he631 hout632 hphi633 => ?_
                          have hS634 := St.extend hS352 he631
                          obtain ⟨S635, hS636, hf637⟩ := hphi633 21 133 _ rfl rfl rfl
                          have e638 : f629 133 = (Value.pointer (some (elA u600 ((k316 : Int)).toNat))) := hf637
                          exact OpX.val (Value.int .i64 x625) wd630 rfl (op_load one_2 e638 (Ext.cell hS634.ext hc640)) (Ext.refl _) ⟨rfl, hr641⟩
                        · refine ObX.op rfl fun f642 wd643 he644 hout645 hphi646 => ?_
                          have hS647 := St.extend hS352 he644
                          obtain ⟨S648, hS649, hf650⟩ := hphi646 9 121 _ rfl rfl rfl
                          obtain ⟨e651, hr652⟩ := hf650
                          obtain ⟨S653, hS654, hf655⟩ := hphi646 22 134 _ rfl rfl rfl
                          obtain ⟨e656, hr657⟩ := hf655
                          exact OpX.val (Value.bool (x462 != x625)) wd643 rfl (op_neq e651 e656) (Ext.refl _) rfl
                        · refine ObX.op rfl fun f658 wd659 he660 hout661 hphi662 => ?_
                          have hS663 := St.extend hS352 he660
                          obtain ⟨S664, hS665, hf666⟩ := hphi662 23 135 _ rfl rfl rfl
                          have e667 : f658 135 = (Value.bool (x462 != x625)) := hf666
                          exact OpX.val (Value.bool (x462 != x625)) wd659 rfl (op_move e667) (Ext.refl _) rfl
                        · refine ObX.op rfl fun f917 wd918 he919 hout920 hphi921 => ?_
                          have e923 : f917 0 = v_t := (hout920 0 rfl).trans hf345
                          obtain ⟨S924, hS925, hf926⟩ := hphi921 24 136 _ rfl rfl rfl
                          have e927 : f917 136 = (Value.bool (x462 != x625)) := hf926
                          exact OpX.val v_t wd918 (wanted_run rfl rfl e927 hc670) (op_move e923) (Ext.refl _) rfl
                        · refine ObX.op rfl fun f928 wd929 he930 hout931 hphi932 => ?_
                          have e934 : f928 10 = (Value.int .i64 (k297 : Int)) := (hout931 10 rfl).trans hf348
                          obtain ⟨S935, hS936, hf937⟩ := hphi932 24 136 _ rfl rfl rfl
                          have e938 : f928 136 = (Value.bool (x462 != x625)) := hf937
                          exact OpX.val (Value.int .i64 (k297 : Int)) wd929 (wanted_run rfl rfl e938 hc670) (op_move e934) (Ext.refl _) ⟨rfl, hr310⟩
                        · refine ObX.op rfl fun f939 wd940 he941 hout942 hphi943 => ?_
                          have hS944 := St.extend hS352 he941
                          obtain ⟨S945, hS946, hf947⟩ := hphi943 24 136 _ rfl rfl rfl
                          have e948 : f939 136 = (Value.bool (x462 != x625)) := hf947
                          obtain ⟨S949, hS950, hf951⟩ := hphi943 25 137 _ rfl rfl rfl
                          have e952 : f939 137 = v_t := hf951
                          obtain ⟨S953, hS954, hf955⟩ := hphi943 26 138 _ rfl rfl rfl
                          obtain ⟨e956, hr957⟩ := hf955
                          exact OpX.val (Value.pointer (some (elA v_t ((k297 : Int)).toNat))) wd940 (wanted_run rfl rfl e948 hc670) (op_idx sl_22 (Ty.lift _ hS944.ext r_t) e952 e956 ha385 hb386) (Ext.refl _) rfl
                        · refine ObX.op rfl fun f958 wd959 he960 hout961 hphi962 => ?_
                          have hS963 := St.extend hS352 he960
                          obtain ⟨S964, hS965, hf966⟩ := hphi962 24 136 _ rfl rfl rfl
                          have e967 : f958 136 = (Value.bool (x462 != x625)) := hf966
                          obtain ⟨S968, hS969, hf970⟩ := hphi962 27 139 _ rfl rfl rfl
                          have e971 : f958 139 = (Value.pointer (some (elA v_t ((k297 : Int)).toNat))) := hf970
                          exact OpX.val u972 wd959 (wanted_run rfl rfl e967 hc670) (op_load one_25 e971 (Ext.cell hS963.ext hc973)) (Ext.refl _) rfl
                        · refine ObX.op rfl fun f975 wd976 he977 hout978 hphi979 => ?_
                          have e981 : f975 11 = (Value.int .i64 (k316 : Int)) := (hout978 11 rfl).trans hf349
                          obtain ⟨S982, hS983, hf984⟩ := hphi979 24 136 _ rfl rfl rfl
                          have e985 : f975 136 = (Value.bool (x462 != x625)) := hf984
                          exact OpX.val (Value.int .i64 (k316 : Int)) wd976 (wanted_run rfl rfl e985 hc670) (op_move e981) (Ext.refl _) ⟨rfl, hr330⟩
                        · refine ObX.op rfl fun f986 wd987 he988 hout989 hphi990 => ?_
                          have hS991 := St.extend hS352 he988
                          obtain ⟨S992, hS993, hf994⟩ := hphi990 24 136 _ rfl rfl rfl
                          have e995 : f986 136 = (Value.bool (x462 != x625)) := hf994
                          obtain ⟨S996, hS997, hf998⟩ := hphi990 28 140 _ rfl rfl rfl
                          have e999 : f986 140 = u972 := hf998
                          obtain ⟨S1000, hS1001, hf1002⟩ := hphi990 29 141 _ rfl rfl rfl
                          obtain ⟨e1003, hr1004⟩ := hf1002
                          exact OpX.val (Value.pointer (some (elA u972 ((k316 : Int)).toNat))) wd987 (wanted_run rfl rfl e995 hc670) (op_idx sl_25 (Ty.lift _ hS991.ext hr974) e999 e1003 ha424 hb425) (Ext.refl _) rfl
                        · refine ObX.op rfl fun f1005 wd1006 he1007 hout1008 hphi1009 => ?_
                          have hS1010 := St.extend hS352 he1007
                          obtain ⟨S1011, hS1012, hf1013⟩ := hphi1009 24 136 _ rfl rfl rfl
                          have e1014 : f1005 136 = (Value.bool (x462 != x625)) := hf1013
                          obtain ⟨S1015, hS1016, hf1017⟩ := hphi1009 30 142 _ rfl rfl rfl
                          have e1018 : f1005 142 = (Value.pointer (some (elA u972 ((k316 : Int)).toNat))) := hf1017
                          exact OpX.val u1019 wd1006 (wanted_run rfl rfl e1014 hc670) (op_load one_36 e1018 (Ext.cell hS1010.ext hc1020)) (Ext.refl _) rfl
                        · refine ObX.op rfl fun f1022 wd1023 he1024 hout1025 hphi1026 => ?_
                          have e1028 : f1022 12 = (Value.int .i64 (k336 : Int)) := (hout1025 12 rfl).trans hf350
                          obtain ⟨S1029, hS1030, hf1031⟩ := hphi1026 24 136 _ rfl rfl rfl
                          have e1032 : f1022 136 = (Value.bool (x462 != x625)) := hf1031
                          exact OpX.val (Value.int .i64 (k336 : Int)) wd1023 (wanted_run rfl rfl e1032 hc670) (op_move e1028) (Ext.refl _) ⟨rfl, hr351⟩
                        · refine ObX.op rfl fun f1033 wd1034 he1035 hout1036 hphi1037 => ?_
                          have hS1038 := St.extend hS352 he1035
                          obtain ⟨S1039, hS1040, hf1041⟩ := hphi1037 24 136 _ rfl rfl rfl
                          have e1042 : f1033 136 = (Value.bool (x462 != x625)) := hf1041
                          obtain ⟨S1043, hS1044, hf1045⟩ := hphi1037 31 143 _ rfl rfl rfl
                          have e1046 : f1033 143 = u1019 := hf1045
                          obtain ⟨S1047, hS1048, hf1049⟩ := hphi1037 32 144 _ rfl rfl rfl
                          obtain ⟨e1050, hr1051⟩ := hf1049
                          exact OpX.val (Value.pointer (some (elA u1019 ((k336 : Int)).toNat))) wd1034 (wanted_run rfl rfl e1042 hc670) (op_idx sl_36 (Ty.lift _ hS1038.ext hr1021) e1046 e1050 ha463 hb464) (Ext.refl _) rfl
                        · refine ObX.op rfl fun f1052 wd1053 he1054 hout1055 hphi1056 => ?_
                          have hS1057 := St.extend hS352 he1054
                          obtain ⟨S1058, hS1059, hf1060⟩ := hphi1056 24 136 _ rfl rfl rfl
                          have e1061 : f1052 136 = (Value.bool (x462 != x625)) := hf1060
                          obtain ⟨S1062, hS1063, hf1064⟩ := hphi1056 33 145 _ rfl rfl rfl
                          have e1065 : f1052 145 = (Value.pointer (some (elA u1019 ((k336 : Int)).toNat))) := hf1064
                          exact OpX.val (Value.int .i64 x462) wd1053 (wanted_run rfl rfl e1061 hc670) (op_load one_2 e1065 (Ext.cell hS1057.ext hc1067)) (Ext.refl _) ⟨rfl, hr1068⟩
                        · refine ObX.op rfl fun f1069 wd1070 he1071 hout1072 hphi1073 => ?_
                          have e1075 : f1069 0 = v_t := (hout1072 0 rfl).trans hf345
                          obtain ⟨S1076, hS1077, hf1078⟩ := hphi1073 24 136 _ rfl rfl rfl
                          have e1079 : f1069 136 = (Value.bool (x462 != x625)) := hf1078
                          exact OpX.val v_t wd1070 (wanted_run rfl rfl e1079 hc670) (op_move e1075) (Ext.refl _) rfl
                        · refine ObX.op rfl fun f1080 wd1081 he1082 hout1083 hphi1084 => ?_
                          have e1086 : f1080 12 = (Value.int .i64 (k336 : Int)) := (hout1083 12 rfl).trans hf350
                          obtain ⟨S1087, hS1088, hf1089⟩ := hphi1084 24 136 _ rfl rfl rfl
                          have e1090 : f1080 136 = (Value.bool (x462 != x625)) := hf1089
                          exact OpX.val (Value.int .i64 (k336 : Int)) wd1081 (wanted_run rfl rfl e1090 hc670) (op_move e1086) (Ext.refl _) ⟨rfl, hr351⟩
                        · refine ObX.op rfl fun f1091 wd1092 he1093 hout1094 hphi1095 => ?_
                          have hS1096 := St.extend hS352 he1093
                          obtain ⟨S1097, hS1098, hf1099⟩ := hphi1095 24 136 _ rfl rfl rfl
                          have e1100 : f1091 136 = (Value.bool (x462 != x625)) := hf1099
                          obtain ⟨S1101, hS1102, hf1103⟩ := hphi1095 35 147 _ rfl rfl rfl
                          have e1104 : f1091 147 = v_t := hf1103
                          obtain ⟨S1105, hS1106, hf1107⟩ := hphi1095 36 148 _ rfl rfl rfl
                          obtain ⟨e1108, hr1109⟩ := hf1107
                          exact OpX.val (Value.pointer (some (elA v_t ((k336 : Int)).toNat))) wd1092 (wanted_run rfl rfl e1100 hc670) (op_idx sl_22 (Ty.lift _ hS1096.ext r_t) e1104 e1108 ha1111 hb1112) (Ext.refl _) rfl
                        · refine ObX.op rfl fun f1114 wd1115 he1116 hout1117 hphi1118 => ?_
                          have hS1119 := St.extend hS352 he1116
                          obtain ⟨S1120, hS1121, hf1122⟩ := hphi1118 24 136 _ rfl rfl rfl
                          have e1123 : f1114 136 = (Value.bool (x462 != x625)) := hf1122
                          obtain ⟨S1124, hS1125, hf1126⟩ := hphi1118 37 149 _ rfl rfl rfl
                          have e1127 : f1114 149 = (Value.pointer (some (elA v_t ((k336 : Int)).toNat))) := hf1126
                          exact OpX.val u1128 wd1115 (wanted_run rfl rfl e1123 hc670) (op_load one_25 e1127 (Ext.cell hS1119.ext hc1129)) (Ext.refl _) rfl
                        · refine ObX.op rfl fun f1131 wd1132 he1133 hout1134 hphi1135 => ?_
                          have e1137 : f1131 7 = u215 := (hout1134 7 rfl).trans hf347
                          obtain ⟨S1138, hS1139, hf1140⟩ := hphi1135 24 136 _ rfl rfl rfl
                          have e1141 : f1131 136 = (Value.bool (x462 != x625)) := hf1140
                          exact OpX.val u215 wd1132 (wanted_run rfl rfl e1141 hc670) (op_move e1137) (Ext.refl _) rfl
                        · refine ObX.op rfl fun f1142 wd1143 he1144 hout1145 hphi1146 => ?_
                          have e1148 : f1142 11 = (Value.int .i64 (k316 : Int)) := (hout1145 11 rfl).trans hf349
                          obtain ⟨S1149, hS1150, hf1151⟩ := hphi1146 24 136 _ rfl rfl rfl
                          have e1152 : f1142 136 = (Value.bool (x462 != x625)) := hf1151
                          exact OpX.val (Value.int .i64 (k316 : Int)) wd1143 (wanted_run rfl rfl e1152 hc670) (op_move e1148) (Ext.refl _) ⟨rfl, hr330⟩
                        · refine ObX.op rfl fun f1153 wd1154 he1155 hout1156 hphi1157 => ?_
                          have hS1158 := St.extend hS352 he1155
                          obtain ⟨S1159, hS1160, hf1161⟩ := hphi1157 24 136 _ rfl rfl rfl
                          have e1162 : f1153 136 = (Value.bool (x462 != x625)) := hf1161
                          obtain ⟨S1163, hS1164, hf1165⟩ := hphi1157 39 151 _ rfl rfl rfl
                          have e1166 : f1153 151 = u215 := hf1165
                          obtain ⟨S1167, hS1168, hf1169⟩ := hphi1157 40 152 _ rfl rfl rfl
                          obtain ⟨e1170, hr1171⟩ := hf1169
                          exact OpX.val (Value.pointer (some (elA u215 ((k316 : Int)).toNat))) wd1154 (wanted_run rfl rfl e1162 hc670) (op_idx sl_36 (St.rep (t := (Ty.sl (Ty.i .i64))) hS1158 0 rfl) e1166 e1170 ha1173 hb1174) (Ext.refl _) rfl
                        · refine ObX.op rfl fun f1176 wd1177 he1178 hout1179 hphi1180 => ?_
                          obtain ⟨S1182, hS1183, hf1184⟩ := hphi1180 24 136 _ rfl rfl rfl
                          have e1185 : f1176 136 = (Value.bool (x462 != x625)) := hf1184
                          obtain ⟨S1186, hS1187, hf1188⟩ := hphi1180 41 153 _ rfl rfl rfl
                          have e1189 : f1176 153 = (Value.pointer (some (elA u215 ((k316 : Int)).toNat))) := hf1188
                          exact OpX.val (Value.int .i64 x1172) wd1177 (wanted_run rfl rfl e1185 hc670) (op_load one_2 e1189 (Ext.cell he1178 hc1191)) (Ext.refl _) ⟨rfl, hr1192⟩
                        · refine ObX.op rfl fun f1193 wd1194 he1195 hout1196 hphi1197 => ?_
                          have hS1198 := St.extend hS352 he1195
                          obtain ⟨S1199, hS1200, hf1201⟩ := hphi1197 24 136 _ rfl rfl rfl
                          have e1202 : f1193 136 = (Value.bool (x462 != x625)) := hf1201
                          obtain ⟨S1203, hS1204, hf1205⟩ := hphi1197 38 150 _ rfl rfl rfl
                          have e1206 : f1193 150 = u1128 := hf1205
                          obtain ⟨S1207, hS1208, hf1209⟩ := hphi1197 42 154 _ rfl rfl rfl
                          obtain ⟨e1210, hr1211⟩ := hf1209
                          exact OpX.val (Value.pointer (some (elA u1128 (x1172).toNat))) wd1194 (wanted_run rfl rfl e1202 hc670) (op_idx sl_25 (Ty.lift _ hS1198.ext hr1130) e1206 e1210 ha1213 hb1214) (Ext.refl _) rfl
                        · refine ObX.op rfl fun f1216 wd1217 he1218 hout1219 hphi1220 => ?_
                          have hS1221 := St.extend hS352 he1218
                          obtain ⟨S1222, hS1223, hf1224⟩ := hphi1220 24 136 _ rfl rfl rfl
                          have e1225 : f1216 136 = (Value.bool (x462 != x625)) := hf1224
                          obtain ⟨S1226, hS1227, hf1228⟩ := hphi1220 43 155 _ rfl rfl rfl
                          have e1229 : f1216 155 = (Value.pointer (some (elA u1128 (x1172).toNat))) := hf1228
                          exact OpX.val u1230 wd1217 (wanted_run rfl rfl e1225 hc670) (op_load one_36 e1229 (Ext.cell hS1221.ext hc1231)) (Ext.refl _) rfl
                        · refine ObX.op rfl fun f1233 wd1234 he1235 hout1236 hphi1237 => ?_
                          have e1239 : f1233 10 = (Value.int .i64 (k297 : Int)) := (hout1236 10 rfl).trans hf348
                          obtain ⟨S1240, hS1241, hf1242⟩ := hphi1237 24 136 _ rfl rfl rfl
                          have e1243 : f1233 136 = (Value.bool (x462 != x625)) := hf1242
                          exact OpX.val (Value.int .i64 (k297 : Int)) wd1234 (wanted_run rfl rfl e1243 hc670) (op_move e1239) (Ext.refl _) ⟨rfl, hr310⟩
                        · refine ObX.op rfl fun f1244 wd1245 he1246 hout1247 hphi1248 => ?_
                          have hS1249 := St.extend hS352 he1246
                          obtain ⟨S1250, hS1251, hf1252⟩ := hphi1248 24 136 _ rfl rfl rfl
                          have e1253 : f1244 136 = (Value.bool (x462 != x625)) := hf1252
                          obtain ⟨S1254, hS1255, hf1256⟩ := hphi1248 44 156 _ rfl rfl rfl
                          have e1257 : f1244 156 = u1230 := hf1256
                          obtain ⟨S1258, hS1259, hf1260⟩ := hphi1248 45 157 _ rfl rfl rfl
                          obtain ⟨e1261, hr1262⟩ := hf1260
                          exact OpX.val (Value.pointer (some (elA u1230 ((k297 : Int)).toNat))) wd1245 (wanted_run rfl rfl e1253 hc670) (op_idx sl_36 (Ty.lift _ hS1249.ext hr1232) e1257 e1261 ha1264 hb1265) (Ext.refl _) rfl
                        · refine ObX.op rfl fun f1267 wd1268 he1269 hout1270 hphi1271 => ?_
                          have hS1272 := St.extend hS352 he1269
                          obtain ⟨S1273, hS1274, hf1275⟩ := hphi1271 24 136 _ rfl rfl rfl
                          have e1276 : f1267 136 = (Value.bool (x462 != x625)) := hf1275
                          obtain ⟨S1277, hS1278, hf1279⟩ := hphi1271 46 158 _ rfl rfl rfl
                          have e1280 : f1267 158 = (Value.pointer (some (elA u1230 ((k297 : Int)).toNat))) := hf1279
                          exact OpX.val (Value.int .i64 x1263) wd1268 (wanted_run rfl rfl e1276 hc670) (op_load one_2 e1280 (Ext.cell hS1272.ext hc1282)) (Ext.refl _) ⟨rfl, hr1283⟩
                        · intro f1284 wd1285 Ss1286 he1287 hout1288 hSn1289 hSd1290 hphi1291
                          show WL _ _ _ _ _ _ _
                          have hS1292 := St.extend hS352 he1287
                          have e1293 : f1284 136 = (Value.bool (x462 != x625)) := hphi1291 24 136 _ (by decide) rfl rfl
                          obtain ⟨e1295, hr1296⟩ := hphi1291 26 138 _ (by decide) rfl rfl
                          obtain ⟨e1299, hr1300⟩ := hphi1291 29 141 _ (by decide) rfl rfl
                          obtain ⟨e1303, hr1304⟩ := hphi1291 32 144 _ (by decide) rfl rfl
                          obtain ⟨e1306, hr1307⟩ := hphi1291 34 146 _ (by decide) rfl rfl
                          obtain ⟨e1309, hr1310⟩ := hphi1291 36 148 _ (by decide) rfl rfl
                          obtain ⟨e1314, hr1315⟩ := hphi1291 40 152 _ (by decide) rfl rfl
                          obtain ⟨e1317, hr1318⟩ := hphi1291 42 154 _ (by decide) rfl rfl
                          obtain ⟨e1321, hr1322⟩ := hphi1291 45 157 _ (by decide) rfl rfl
                          obtain ⟨e1324, hr1325⟩ := hphi1291 47 159 _ (by decide) rfl rfl
                          have e1326 : f1284 0 = v_t := (hout1288 0 rfl).trans hf345
                          have e1327 : f1284 3 = (Value.int .i64 ((t).length : Int)) := (hout1288 3 rfl).trans hf346
                          have e1328 : f1284 7 = u215 := (hout1288 7 rfl).trans hf347
                          have e1329 : f1284 10 = (Value.int .i64 (k297 : Int)) := (hout1288 10 rfl).trans hf348
                          have e1330 : f1284 11 = (Value.int .i64 (k316 : Int)) := (hout1288 11 rfl).trans hf349
                          have e1331 : f1284 12 = (Value.int .i64 (k336 : Int)) := (hout1288 12 rfl).trans hf350
                          refine WL.grun rfl (bool_of e1293 hc670) ?_
                          refine WL.val (Value.bool (x462 != x1263)) _ (op_neq e1306 e1324) rfl ?_
                          refine WL.val (Value.bool (x462 != x1263)) _ (op_pick_f (evb_of e1293 hc670) rfl) rfl ?_
                          refine WL.nil ?_
                          obtain rfl := Option.some.inj hj669
                          exact ⟨e1326, e1327, e1328, e1329, e1330, e1331, rfl, hS1292⟩
                    · intro f1332 wd1333 hq1334
                      obtain ⟨hf1335, hf1336, hf1337, hf1338, hf1339, hf1340, hf1341, hS1342⟩ := hq1334
                      refine W.cond x668 hf1341 (fun hc1343 => ?_) (fun hc1343 => ?_)
                      · replace hb341 := ip hb341 hc1343
                        refine W.seq (W.region ?_)
                        refine WL.val (Value.int .i64 (k297 : Int)) _ (op_move hf1338) rfl ?_
                        refine WL.val (Value.int .i64 (k316 : Int)) _ (op_move hf1339) rfl ?_
                        refine WL.val (Value.int .i64 (k336 : Int)) _ (op_move hf1340) rfl ?_
                        refine WL.litFlat (t := (Ty.i .i64)) (flat_i .i64) [(Value.int .i64 (2 : Int)), (Value.int .i64 (k297 : Int)), (Value.int .i64 (k316 : Int)), (Value.int .i64 (k336 : Int))] [(2 : Int), (k297 : Int), (k316 : Int), (k336 : Int)] hS1342 sl_36 rfl rfl (fillL rfl ⟨rfl, rfl, rfl, rfl, rfl, rfl, rfl, rfl, rfl, rfl, rfl, rfl, trivial⟩) rfl rfl (litL ⟨⟨rfl, (inL rfl)⟩, ⟨rfl, hr310⟩, ⟨rfl, hr330⟩, ⟨rfl, hr351⟩, trivial⟩) rfl ?_
                        intro u1345 wd1346 hS1347 he1348
                        replace hS1347 : St w wd1346 [(Ty.sl (Ty.i .i64)).at u215 x214, (Ty.sl (Ty.i .i64)).at u1345 ([(2 : Int), (k297 : Int), (k316 : Int), (k336 : Int)] : (List Int))] := hS1347
                        refine WL.val u1345 _ (op_assign rfl) rfl ?_
                        refine WL.nil ?_
                        refine W.ret ?_
                        obtain rfl := Option.some.inj hb341
                        obtain rfl := hret344 _ rfl
                        replace hb321 := onRes_ret hb321
                        obtain rfl := Option.some.inj hb321
                        obtain rfl := hret324 _ rfl
                        replace hb302 := onRes_ret hb302
                        obtain rfl := Option.some.inj hb302
                        obtain rfl := hret305 _ rfl
                        replace h := onRes_ret h
                        obtain rfl := Option.some.inj h
                        show FinP _ _ _ _ _ _ _
                        exact FinP.ret _ (res1 rfl rfl) ⟨u1345, rfl, hS1347.ext, (St.out (St.pick hS1347 [1] rfl) (Ext.refl _))⟩
                      · replace hb341 := inegb hb341 hc1343
                        refine W.skip ?_
                        show W _ _ _ _ _ _
                        refine W.region ?_
                        refine WL.val (Value.int .i64 (k336 : Int)) _ (op_move hf1340) rfl ?_
                        refine WL.val (Value.int .i64 (w64 ((k336 : Int) + (1 : Int)))) _ (op_add rfl rfl) rfl ?_
                        refine WL.val (Value.int .i64 (w64 ((k336 : Int) + (1 : Int)))) _ (op_assign rfl) rfl ?_
                        refine WL.nil ?_
                        obtain rfl := Option.some.inj hb341
                        show ∃ s, _ = Ctl.next s ∧ _
                        exact ⟨_, rfl, hf1335, hf1336, hf1337, hf1338, hf1339, (ctr_next hl353 hr1), (ctr_rng hl353 hr1), hS1342⟩
                  · intro s1354 f1350 wd1351 hs1352 hI1353
                    obtain ⟨⟩ := s1354
                    replace hI1353 : f1350 0 = v_t ∧ f1350 3 = (Value.int .i64 ((t).length : Int)) ∧ f1350 7 = u215 ∧ f1350 10 = (Value.int .i64 (k297 : Int)) ∧ f1350 11 = (Value.int .i64 (k316 : Int)) ∧ f1350 12 = Value.int .i64 (((t).length : Nat) : Int) ∧ InR .i64 (((t).length : Nat) : Int) ∧ St w wd1351 [(Ty.sl (Ty.i .i64)).at u215 x214] := hI1353
                    obtain ⟨hf1355, hf1356, hf1357, hf1358, hf1359, hf1360, hr1361, hS1362⟩ := hI1353
                    refine W.seq (W.seq (W.region ?_))
                    refine WL.val (Value.int .i64 (((t).length : Nat) : Int)) _ (op_move hf1360) rfl ?_
                    refine WL.val (Value.int .i64 ((t).length : Int)) _ (op_move hf1356) rfl ?_
                    refine WL.val (Value.bool (decide ((((t).length : Nat) : Int) < ((t).length : Int)))) _ (op_lss rfl rfl) rfl ?_
                    have hl1363 : ¬ (((t).length : Nat) : Int) < ((t).length : Int) := by omega
                    refine WL.nil ?_
                    refine W.condF (decide ((((t).length : Nat) : Int) < ((t).length : Int))) rfl (decide_eq_false hl1363) ?_
                    refine W.exit ?_
                    show _ = _ ∧ _
                    exact ⟨rfl, _, hs1352, hf1355, hf1356, hf1357, hf1358, hf1359, hS1362⟩
                · rintro f1364 wd1365 ⟨s1367, rfl, hq1366⟩
                  replace hb321 := onRes_fin hb321
                  obtain ⟨⟩ := s1367
                  replace hq1366 : f1364 0 = v_t ∧ f1364 3 = (Value.int .i64 ((t).length : Int)) ∧ f1364 7 = u215 ∧ f1364 10 = (Value.int .i64 (k297 : Int)) ∧ f1364 11 = (Value.int .i64 (k316 : Int)) ∧ St w wd1365 [(Ty.sl (Ty.i .i64)).at u215 x214] := hq1366
                  obtain ⟨hf1368, hf1369, hf1370, hf1371, hf1372, hS1373⟩ := hq1366
                  show W _ _ _ _ _ _
                  refine W.region ?_
                  refine WL.val (Value.int .i64 (k316 : Int)) _ (op_move hf1372) rfl ?_
                  refine WL.val (Value.int .i64 (w64 ((k316 : Int) + (1 : Int)))) _ (op_add rfl rfl) rfl ?_
                  refine WL.val (Value.int .i64 (w64 ((k316 : Int) + (1 : Int)))) _ (op_assign rfl) rfl ?_
                  refine WL.nil ?_
                  obtain rfl := Option.some.inj hb321
                  show ∃ s, _ = Ctl.next s ∧ _
                  exact ⟨_, rfl, hf1368, hf1369, hf1370, hf1371, (ctr_next hl332 hr1), (ctr_rng hl332 hr1), hS1373⟩
              · intro s1380 f1376 wd1377 hs1378 hI1379
                obtain ⟨⟩ := s1380
                replace hI1379 : f1376 0 = v_t ∧ f1376 3 = (Value.int .i64 ((t).length : Int)) ∧ f1376 7 = u215 ∧ f1376 10 = (Value.int .i64 (k297 : Int)) ∧ f1376 11 = Value.int .i64 (((t).length : Nat) : Int) ∧ InR .i64 (((t).length : Nat) : Int) ∧ St w wd1377 [(Ty.sl (Ty.i .i64)).at u215 x214] := hI1379
                obtain ⟨hf1381, hf1382, hf1383, hf1384, hf1385, hr1386, hS1387⟩ := hI1379
                refine W.seq (W.seq (W.region ?_))
                refine WL.val (Value.int .i64 (((t).length : Nat) : Int)) _ (op_move hf1385) rfl ?_
                refine WL.val (Value.int .i64 ((t).length : Int)) _ (op_move hf1382) rfl ?_
                refine WL.val (Value.bool (decide ((((t).length : Nat) : Int) < ((t).length : Int)))) _ (op_lss rfl rfl) rfl ?_
                have hl1388 : ¬ (((t).length : Nat) : Int) < ((t).length : Int) := by omega
                refine WL.nil ?_
                refine W.condF (decide ((((t).length : Nat) : Int) < ((t).length : Int))) rfl (decide_eq_false hl1388) ?_
                refine W.exit ?_
                show _ = _ ∧ _
                exact ⟨rfl, _, hs1378, hf1381, hf1382, hf1383, hf1384, hS1387⟩
            · rintro f1389 wd1390 ⟨s1392, rfl, hq1391⟩
              replace hb302 := onRes_fin hb302
              obtain ⟨⟩ := s1392
              replace hq1391 : f1389 0 = v_t ∧ f1389 3 = (Value.int .i64 ((t).length : Int)) ∧ f1389 7 = u215 ∧ f1389 10 = (Value.int .i64 (k297 : Int)) ∧ St w wd1390 [(Ty.sl (Ty.i .i64)).at u215 x214] := hq1391
              obtain ⟨hf1393, hf1394, hf1395, hf1396, hS1397⟩ := hq1391
              show W _ _ _ _ _ _
              refine W.region ?_
              refine WL.val (Value.int .i64 (k297 : Int)) _ (op_move hf1396) rfl ?_
              refine WL.val (Value.int .i64 (w64 ((k297 : Int) + (1 : Int)))) _ (op_add rfl rfl) rfl ?_
              refine WL.val (Value.int .i64 (w64 ((k297 : Int) + (1 : Int)))) _ (op_assign rfl) rfl ?_
              refine WL.nil ?_
              obtain rfl := Option.some.inj hb302
              show ∃ s, _ = Ctl.next s ∧ _
              exact ⟨_, rfl, hf1393, hf1394, hf1395, (ctr_next hl312 hr1), (ctr_rng hl312 hr1), hS1397⟩
          · intro s1404 f1400 wd1401 hs1402 hI1403
            obtain ⟨⟩ := s1404
            replace hI1403 : f1400 0 = v_t ∧ f1400 3 = (Value.int .i64 ((t).length : Int)) ∧ f1400 7 = u215 ∧ f1400 10 = Value.int .i64 (((t).length : Nat) : Int) ∧ InR .i64 (((t).length : Nat) : Int) ∧ St w wd1401 [(Ty.sl (Ty.i .i64)).at u215 x214] := hI1403
            obtain ⟨hf1405, hf1406, hf1407, hf1408, hr1409, hS1410⟩ := hI1403
            refine W.seq (W.seq (W.region ?_))
            refine WL.val (Value.int .i64 (((t).length : Nat) : Int)) _ (op_move hf1408) rfl ?_
            refine WL.val (Value.int .i64 ((t).length : Int)) _ (op_move hf1406) rfl ?_
            refine WL.val (Value.bool (decide ((((t).length : Nat) : Int) < ((t).length : Int)))) _ (op_lss rfl rfl) rfl ?_
            have hl1411 : ¬ (((t).length : Nat) : Int) < ((t).length : Int) := by omega
            refine WL.nil ?_
            refine W.condF (decide ((((t).length : Nat) : Int) < ((t).length : Int))) rfl (decide_eq_false hl1411) ?_
            refine W.exit ?_
            show _ = _ ∧ _
            exact ⟨rfl, _, hs1402, hf1405, hf1406, (St.pick hS1410 [] rfl)⟩
        · rintro f1412 wd1413 ⟨s1415, rfl, hq1414⟩
          replace h := onRes_fin h
          obtain ⟨⟩ := s1415
          replace hq1414 : f1412 0 = v_t ∧ f1412 3 = (Value.int .i64 ((t).length : Int)) ∧ St w wd1413 [] := hq1414
          obtain ⟨hf1416, hf1417, hS1418⟩ := hq1414
          refine W.seq (W.seq (W.region ?_))
          refine WL.val (Value.int .i64 (0 : Int)) _ (op_assign rfl) rfl ?_
          refine WL.nil ?_
          show W _ _ _ _ _ _
          obtain ⟨res1419, hres1420, h⟩ := bs h
          refine W.blockLoop (fun fq wq => ∃ s, res1419 = Res.fin s ∧ St w wq []) ?_ ?_
          · refine W.forN (fun k (s : Unit) fq wq => fq 0 = v_t ∧ fq 3 = (Value.int .i64 ((t).length : Int)) ∧ fq 13 = Value.int .i64 (k : Int) ∧ InR .i64 (k : Int) ∧ St w wq []) hres1420 ⟨hf1416, hf1417, rfl, (inL rfl), hS1418⟩ ?_ ?_
            · intro k1421 s2223 ct1422 f1423 wd1424 hk1425 hb1426 hI1427 hbrk1428 hret1429
              obtain ⟨⟩ := s2223
              replace hI1427 : f1423 0 = v_t ∧ f1423 3 = (Value.int .i64 ((t).length : Int)) ∧ f1423 13 = Value.int .i64 (k1421 : Int) ∧ InR .i64 (k1421 : Int) ∧ St w wd1424 [] := hI1427
              replace hb1426 : p_spec_l03Fault_L8 t k1421  = some ct1422 := hb1426
              unfold p_spec_l03Fault_L8 at hb1426
              obtain ⟨hf1430, hf1431, hf1432, hr1433, hS1434⟩ := hI1427
              refine W.seq (W.seq (W.region ?_))
              refine WL.val (Value.int .i64 (k1421 : Int)) _ (op_move hf1432) rfl ?_
              refine WL.val (Value.int .i64 ((t).length : Int)) _ (op_move hf1431) rfl ?_
              refine WL.val (Value.bool (decide ((k1421 : Int) < ((t).length : Int)))) _ (op_lss rfl rfl) rfl ?_
              have hl1435 : (k1421 : Int) < ((t).length : Int) := by omega
              refine WL.nil ?_
              refine W.condT (decide ((k1421 : Int) < ((t).length : Int))) rfl (decide_eq_true hl1435) ?_
              refine W.skip ?_
              refine W.seq ?_
              refine W.block ?_
              refine W.seq (W.region ?_)
              refine WL.val (Value.int .i64 (0 : Int)) _ (op_assign rfl) rfl ?_
              refine WL.nil ?_
              show W _ _ _ _ _ _
              obtain ⟨res1437, hres1438, hb1426⟩ := bs hb1426
              refine W.blockLoop (fun fq wq => ∃ s, res1437 = Res.fin s ∧ fq 0 = v_t ∧ fq 3 = (Value.int .i64 ((t).length : Int)) ∧ fq 13 = (Value.int .i64 (k1421 : Int)) ∧ St w wq []) ?_ ?_
              · refine W.forN (fun k (s : Unit) fq wq => fq 0 = v_t ∧ fq 3 = (Value.int .i64 ((t).length : Int)) ∧ fq 13 = (Value.int .i64 (k1421 : Int)) ∧ fq 14 = Value.int .i64 (k : Int) ∧ InR .i64 (k : Int) ∧ St w wq []) hres1438 ⟨hf1430, hf1431, hf1432, rfl, (inL rfl), hS1434⟩ ?_ ?_
                · intro k1439 s2201 ct1440 f1441 wd1442 hk1443 hb1444 hI1445 hbrk1446 hret1447
                  obtain ⟨⟩ := s2201
                  replace hI1445 : f1441 0 = v_t ∧ f1441 3 = (Value.int .i64 ((t).length : Int)) ∧ f1441 13 = (Value.int .i64 (k1421 : Int)) ∧ f1441 14 = Value.int .i64 (k1439 : Int) ∧ InR .i64 (k1439 : Int) ∧ St w wd1442 [] := hI1445
                  replace hb1444 : p_spec_l03Fault_L9 t k1421 k1439  = some ct1440 := hb1444
                  unfold p_spec_l03Fault_L9 at hb1444
                  obtain ⟨hf1448, hf1449, hf1450, hf1451, hr1452, hS1453⟩ := hI1445
                  refine W.seq (W.seq (W.region ?_))
                  refine WL.val (Value.int .i64 (k1439 : Int)) _ (op_move hf1451) rfl ?_
                  refine WL.val (Value.int .i64 ((t).length : Int)) _ (op_move hf1449) rfl ?_
                  refine WL.val (Value.bool (decide ((k1439 : Int) < ((t).length : Int)))) _ (op_lss rfl rfl) rfl ?_
                  have hl1454 : (k1439 : Int) < ((t).length : Int) := by omega
                  refine WL.nil ?_
                  refine W.condT (decide ((k1439 : Int) < ((t).length : Int))) rfl (decide_eq_true hl1454) ?_
                  refine W.skip ?_
                  refine W.seq ?_
                  refine W.block ?_
                  refine W.seq (W.region ?_)
                  refine WL.val (Value.int .i64 (0 : Int)) _ (op_assign rfl) rfl ?_
                  refine WL.nil ?_
                  show W _ _ _ _ _ _
                  obtain ⟨res1456, hres1457, hb1444⟩ := bs hb1444
                  refine W.blockLoop (fun fq wq => ∃ s, res1456 = Res.fin s ∧ fq 0 = v_t ∧ fq 3 = (Value.int .i64 ((t).length : Int)) ∧ fq 13 = (Value.int .i64 (k1421 : Int)) ∧ fq 14 = (Value.int .i64 (k1439 : Int)) ∧ St w wq []) ?_ ?_
                  · refine W.forN (fun k (s : Unit) fq wq => fq 0 = v_t ∧ fq 3 = (Value.int .i64 ((t).length : Int)) ∧ fq 13 = (Value.int .i64 (k1421 : Int)) ∧ fq 14 = (Value.int .i64 (k1439 : Int)) ∧ fq 15 = Value.int .i64 (k : Int) ∧ InR .i64 (k : Int) ∧ St w wq []) hres1457 ⟨hf1448, hf1449, hf1450, hf1451, rfl, (inL rfl), hS1453⟩ ?_ ?_
                    · intro k1458 s2177 ct1459 f1460 wd1461 hk1462 hb1463 hI1464 hbrk1465 hret1466
                      obtain ⟨⟩ := s2177
                      replace hI1464 : f1460 0 = v_t ∧ f1460 3 = (Value.int .i64 ((t).length : Int)) ∧ f1460 13 = (Value.int .i64 (k1421 : Int)) ∧ f1460 14 = (Value.int .i64 (k1439 : Int)) ∧ f1460 15 = Value.int .i64 (k1458 : Int) ∧ InR .i64 (k1458 : Int) ∧ St w wd1461 [] := hI1464
                      replace hb1463 : p_spec_l03Fault_L10 t k1421 k1439 k1458  = some ct1459 := hb1463
                      unfold p_spec_l03Fault_L10 at hb1463
                      obtain ⟨hf1467, hf1468, hf1469, hf1470, hf1471, hr1472, hS1473⟩ := hI1464
                      refine W.seq (W.seq (W.region ?_))
                      refine WL.val (Value.int .i64 (k1458 : Int)) _ (op_move hf1471) rfl ?_
                      refine WL.val (Value.int .i64 ((t).length : Int)) _ (op_move hf1468) rfl ?_
                      refine WL.val (Value.bool (decide ((k1458 : Int) < ((t).length : Int)))) _ (op_lss rfl rfl) rfl ?_
                      have hl1474 : (k1458 : Int) < ((t).length : Int) := by omega
                      refine WL.nil ?_
                      refine W.condT (decide ((k1458 : Int) < ((t).length : Int))) rfl (decide_eq_true hl1474) ?_
                      refine W.skip ?_
                      refine W.seq ?_
                      refine W.block ?_
                      refine W.seq (W.region ?_)
                      refine WL.val (Value.int .i64 (0 : Int)) _ (op_assign rfl) rfl ?_
                      refine WL.nil ?_
                      show W _ _ _ _ _ _
                      obtain ⟨res1476, hres1477, hb1463⟩ := bs hb1463
                      refine W.blockLoop (fun fq wq => ∃ s, res1476 = Res.fin s ∧ fq 0 = v_t ∧ fq 3 = (Value.int .i64 ((t).length : Int)) ∧ fq 13 = (Value.int .i64 (k1421 : Int)) ∧ fq 14 = (Value.int .i64 (k1439 : Int)) ∧ fq 15 = (Value.int .i64 (k1458 : Int)) ∧ St w wq []) ?_ ?_
                      · refine W.forN (fun k (s : Unit) fq wq => fq 0 = v_t ∧ fq 3 = (Value.int .i64 ((t).length : Int)) ∧ fq 13 = (Value.int .i64 (k1421 : Int)) ∧ fq 14 = (Value.int .i64 (k1439 : Int)) ∧ fq 15 = (Value.int .i64 (k1458 : Int)) ∧ fq 16 = Value.int .i64 (k : Int) ∧ InR .i64 (k : Int) ∧ St w wq []) hres1477 ⟨hf1467, hf1468, hf1469, hf1470, hf1471, rfl, (inL rfl), hS1473⟩ ?_ ?_
                        · intro k1478 s2151 ct1479 f1480 wd1481 hk1482 hb1483 hI1484 hbrk1485 hret1486
                          obtain ⟨⟩ := s2151
                          replace hI1484 : f1480 0 = v_t ∧ f1480 3 = (Value.int .i64 ((t).length : Int)) ∧ f1480 13 = (Value.int .i64 (k1421 : Int)) ∧ f1480 14 = (Value.int .i64 (k1439 : Int)) ∧ f1480 15 = (Value.int .i64 (k1458 : Int)) ∧ f1480 16 = Value.int .i64 (k1478 : Int) ∧ InR .i64 (k1478 : Int) ∧ St w wd1481 [] := hI1484
                          replace hb1483 : p_spec_l03Fault_L11 t k1421 k1439 k1458 k1478  = some ct1479 := hb1483
                          unfold p_spec_l03Fault_L11 at hb1483
                          obtain ⟨hf1487, hf1488, hf1489, hf1490, hf1491, hf1492, hr1493, hS1494⟩ := hI1484
                          refine W.seq (W.seq (W.region ?_))
                          refine WL.val (Value.int .i64 (k1478 : Int)) _ (op_move hf1492) rfl ?_
                          refine WL.val (Value.int .i64 ((t).length : Int)) _ (op_move hf1488) rfl ?_
                          refine WL.val (Value.bool (decide ((k1478 : Int) < ((t).length : Int)))) _ (op_lss rfl rfl) rfl ?_
                          have hl1495 : (k1478 : Int) < ((t).length : Int) := by omega
                          refine WL.nil ?_
                          refine W.condT (decide ((k1478 : Int) < ((t).length : Int))) rfl (decide_eq_true hl1495) ?_
                          refine W.skip ?_
                          refine W.seq ?_
                          refine W.block ?_
                          refine W.seq (W.region ?_)
                          refine WL.val (Value.int .i64 (0 : Int)) _ (op_assign rfl) rfl ?_
                          refine WL.val (Value.int .i64 (0 : Int)) _ (op_assign rfl) rfl ?_
                          refine WL.nil ?_
                          refine W.seq (W.seq (W.region ?_))
                          refine WL.val (Value.int .i64 (0 : Int)) _ (op_assign rfl) rfl ?_
                          refine WL.nil ?_
                          show W _ _ _ _ _ _
                          obtain ⟨res1497, hres1498, hb1483⟩ := bs hb1483
                          refine W.blockLoop (fun fq wq => ∃ s, res1497 = Res.fin s ∧ fq 0 = v_t ∧ fq 3 = (Value.int .i64 ((t).length : Int)) ∧ fq 13 = (Value.int .i64 (k1421 : Int)) ∧ fq 14 = (Value.int .i64 (k1439 : Int)) ∧ fq 15 = (Value.int .i64 (k1458 : Int)) ∧ fq 16 = (Value.int .i64 (k1478 : Int)) ∧ fq 17 = Value.int .i64 s.1 ∧ InR .i64 s.1 ∧ fq 18 = Value.int .i64 s.2 ∧ InR .i64 s.2 ∧ St w wq []) ?_ ?_
                          · refine W.forN (fun k (s : Int × Int) fq wq => fq 0 = v_t ∧ fq 3 = (Value.int .i64 ((t).length : Int)) ∧ fq 13 = (Value.int .i64 (k1421 : Int)) ∧ fq 14 = (Value.int .i64 (k1439 : Int)) ∧ fq 15 = (Value.int .i64 (k1458 : Int)) ∧ fq 16 = (Value.int .i64 (k1478 : Int)) ∧ fq 17 = Value.int .i64 s.1 ∧ InR .i64 s.1 ∧ fq 18 = Value.int .i64 s.2 ∧ InR .i64 s.2 ∧ fq 19 = Value.int .i64 (k : Int) ∧ InR .i64 (k : Int) ∧ St w wq []) hres1498 ⟨hf1487, hf1488, hf1489, hf1490, hf1491, hf1492, rfl, (inL rfl), rfl, (inL rfl), rfl, (inL rfl), hS1494⟩ ?_ ?_
                            · intro k1499 s2105 ct1502 f1503 wd1504 hk1505 hb1506 hI1507 hbrk1508 hret1509
                              obtain ⟨x1500, x1501⟩ := s2105
                              replace hI1507 : f1503 0 = v_t ∧ f1503 3 = (Value.int .i64 ((t).length : Int)) ∧ f1503 13 = (Value.int .i64 (k1421 : Int)) ∧ f1503 14 = (Value.int .i64 (k1439 : Int)) ∧ f1503 15 = (Value.int .i64 (k1458 : Int)) ∧ f1503 16 = (Value.int .i64 (k1478 : Int)) ∧ f1503 17 = Value.int .i64 x1500 ∧ InR .i64 x1500 ∧ f1503 18 = Value.int .i64 x1501 ∧ InR .i64 x1501 ∧ f1503 19 = Value.int .i64 (k1499 : Int) ∧ InR .i64 (k1499 : Int) ∧ St w wd1504 [] := hI1507
                              replace hb1506 : p_spec_l03Fault_L12 t k1421 k1439 k1458 k1478 k1499 x1500 x1501 = some ct1502 := hb1506
                              unfold p_spec_l03Fault_L12 at hb1506
                              obtain ⟨hf1510, hf1511, hf1512, hf1513, hf1514, hf1515, hf1516, hr1517, hf1518, hr1519, hf1520, hr1521, hS1522⟩ := hI1507
                              refine W.seq (W.seq (W.region ?_))
                              refine WL.val (Value.int .i64 (k1499 : Int)) _ (op_move hf1520) rfl ?_
                              refine WL.val (Value.int .i64 ((t).length : Int)) _ (op_move hf1511) rfl ?_
                              refine WL.val (Value.bool (decide ((k1499 : Int) < ((t).length : Int)))) _ (op_lss rfl rfl) rfl ?_
                              have hl1523 : (k1499 : Int) < ((t).length : Int) := by omega
                              refine WL.nil ?_
                              refine W.condT (decide ((k1499 : Int) < ((t).length : Int))) rfl (decide_eq_true hl1523) ?_
                              refine W.skip ?_
                              refine W.seq ?_
                              refine W.block ?_
                              refine W.seq ?_
                              obtain ⟨x1561, hx1564, hb1506⟩ := bs hb1506
                              obtain ⟨ha1562, hb1563, hx1564⟩ := idx_some hx1564
                              obtain ⟨u1575, hc1576, hr1577⟩ := repSl.el r_t hx1564
                              obtain ⟨x1600, hx1603, hb1506⟩ := bs hb1506
                              obtain ⟨ha1601, hb1602, hx1603⟩ := idx_some hx1603
                              obtain ⟨u1614, hc1615, hr1616⟩ := repSl.el hr1577 hx1603
                              obtain ⟨x1639, hx1642, hb1506⟩ := bs hb1506
                              obtain ⟨ha1640, hb1641, hx1642⟩ := idx_some hx1642
                              obtain ⟨u1653, hc1654, hr1655⟩ := repSl.el hr1616 hx1642
                              obtain ⟨rfl, hr1655⟩ := hr1655
                              obtain ⟨x1685, hx1688, hb1506⟩ := bs hb1506
                              obtain ⟨ha1686, hb1687, hx1688⟩ := idx_some hx1688
                              obtain ⟨u1699, hc1700, hr1701⟩ := repSl.el r_t hx1688
                              obtain ⟨x1724, hx1727, hb1506⟩ := bs hb1506
                              obtain ⟨ha1725, hb1726, hx1727⟩ := idx_some hx1727
                              obtain ⟨u1738, hc1739, hr1740⟩ := repSl.el hr1701 hx1727
                              obtain ⟨x1763, hx1766, hb1506⟩ := bs hb1506
                              obtain ⟨ha1764, hb1765, hx1766⟩ := idx_some hx1766
                              obtain ⟨u1777, hc1778, hr1779⟩ := repSl.el hr1740 hx1766
                              obtain ⟨rfl, hr1779⟩ := hr1779
                              refine W.drawR mixo 22 [] [fun _ v _ _ => v = (Value.int .i64 x1500) ∧ InR .i64 x1500, fun _ v _ _ => v = v_t, fun _ v _ _ => v = (Value.int .i64 (k1421 : Int)) ∧ InR .i64 (k1421 : Int), fun _ v _ _ => v = (Value.pointer (some (elA v_t ((k1421 : Int)).toNat))), fun _ v _ _ => v = u1575, fun _ v _ _ => v = (Value.int .i64 (k1439 : Int)) ∧ InR .i64 (k1439 : Int), fun _ v _ _ => v = (Value.pointer (some (elA u1575 ((k1439 : Int)).toNat))), fun _ v _ _ => v = u1614, fun _ v _ _ => v = (Value.int .i64 (k1499 : Int)) ∧ InR .i64 (k1499 : Int), fun _ v _ _ => v = (Value.pointer (some (elA u1614 ((k1499 : Int)).toNat))), fun _ v _ _ => v = (Value.int .i64 x1639) ∧ InR .i64 x1639, fun _ v _ _ => v = v_t, fun _ v _ _ => v = (Value.int .i64 (k1499 : Int)) ∧ InR .i64 (k1499 : Int), fun _ v _ _ => v = (Value.pointer (some (elA v_t ((k1499 : Int)).toNat))), fun _ v _ _ => v = u1699, fun _ v _ _ => v = (Value.int .i64 (k1458 : Int)) ∧ InR .i64 (k1458 : Int), fun _ v _ _ => v = (Value.pointer (some (elA u1699 ((k1458 : Int)).toNat))), fun _ v _ _ => v = u1738, fun _ v _ _ => v = (Value.int .i64 (k1478 : Int)) ∧ InR .i64 (k1478 : Int), fun _ v _ _ => v = (Value.pointer (some (elA u1738 ((k1478 : Int)).toNat))), fun _ v _ _ => v = (Value.int .i64 x1763) ∧ InR .i64 x1763, fun _ v _ _ => v = (Value.int .i64 (w64 (x1639 * x1763))) ∧ InR .i64 (w64 (x1639 * x1763))] (by kernel_rfl) (by kernel_rfl) ⟨pk, pk, pk, pk, pk, pk, pk, pk, pk, pk, pk, pk, pk, pk, pk, pk, pk, pk, pk, pk, pk, pk, trivial⟩ ⟨?_, ?_, ?_, ?_, ?_, ?_, ?_, ?_, ?_, ?_, ?_, ?_, ?_, ?_, ?_, ?_, ?_, ?_, ?_, ?_, ?_, ?_, trivial⟩ ?_
                              · refine ObX.op rfl fun f1525 wd1526 he1527 hout1528 hphi1529 => ?_
                                have e1531 : f1525 17 = (Value.int .i64 x1500) := (hout1528 17 rfl).trans hf1516
                                exact OpX.val (Value.int .i64 x1500) wd1526 rfl (op_move e1531) (Ext.refl _) ⟨rfl, hr1517⟩
                              · refine ObX.op rfl fun f1532 wd1533 he1534 hout1535 hphi1536 => ?_
                                have e1538 : f1532 0 = v_t := (hout1535 0 rfl).trans hf1510
                                exact OpX.val v_t wd1533 rfl (op_move e1538) (Ext.refl _) rfl
                              · refine ObX.op rfl fun f1539 wd1540 he1541 hout1542 hphi1543 => ?_
                                have e1545 : f1539 13 = (Value.int .i64 (k1421 : Int)) := (hout1542 13 rfl).trans hf1512
                                exact OpX.val (Value.int .i64 (k1421 : Int)) wd1540 rfl (op_move e1545) (Ext.refl _) ⟨rfl, hr1433⟩
                              · refine ObX.op rfl fun f1546 wd1547 he1548 hout1549 hphi1550 => ?_
                                have hS1551 := St.extend hS1522 he1548
                                obtain ⟨S1552, hS1553, hf1554⟩ := hphi1550 1 192 _ rfl rfl rfl
                                have e1555 : f1546 192 = v_t := hf1554
                                obtain ⟨S1556, hS1557, hf1558⟩ := hphi1550 2 193 _ rfl rfl rfl
                                obtain ⟨e1559, hr1560⟩ := hf1558
                                exact OpX.val (Value.pointer (some (elA v_t ((k1421 : Int)).toNat))) wd1547 rfl (op_idx sl_22 (Ty.lift _ hS1551.ext r_t) e1555 e1559 ha1562 hb1563) (Ext.refl _) rfl
                              · refine ObX.op rfl fun f1565 wd1566 he1567 hout1568 hphi1569 => ?_
                                have hS1570 := St.extend hS1522 he1567
                                obtain ⟨S1571, hS1572, hf1573⟩ := hphi1569 3 194 _ rfl rfl rfl
                                have e1574 : f1565 194 = (Value.pointer (some (elA v_t ((k1421 : Int)).toNat))) := hf1573
                                exact OpX.val u1575 wd1566 rfl (op_load one_25 e1574 (Ext.cell hS1570.ext hc1576)) (Ext.refl _) rfl
                              · refine ObX.op rfl fun f1578 wd1579 he1580 hout1581 hphi1582 => ?_
                                have e1584 : f1578 14 = (Value.int .i64 (k1439 : Int)) := (hout1581 14 rfl).trans hf1513
                                exact OpX.val (Value.int .i64 (k1439 : Int)) wd1579 rfl (op_move e1584) (Ext.refl _) ⟨rfl, hr1452⟩
                              · refine ObX.op rfl fun f1585 wd1586 he1587 hout1588 hphi1589 => ?_
                                have hS1590 := St.extend hS1522 he1587
                                obtain ⟨S1591, hS1592, hf1593⟩ := hphi1589 4 195 _ rfl rfl rfl
                                have e1594 : f1585 195 = u1575 := hf1593
                                obtain ⟨S1595, hS1596, hf1597⟩ := hphi1589 5 196 _ rfl rfl rfl
                                obtain ⟨e1598, hr1599⟩ := hf1597
                                exact OpX.val (Value.pointer (some (elA u1575 ((k1439 : Int)).toNat))) wd1586 rfl (op_idx sl_25 (Ty.lift _ hS1590.ext hr1577) e1594 e1598 ha1601 hb1602) (Ext.refl _) rfl
                              · refine ObX.op rfl fun f1604 wd1605 he1606 hout1607 hphi1608 => ?_
                                have hS1609 := St.extend hS1522 he1606
                                obtain ⟨S1610, hS1611, hf1612⟩ := hphi1608 6 197 _ rfl rfl rfl
                                have e1613 : f1604 197 = (Value.pointer (some (elA u1575 ((k1439 : Int)).toNat))) := hf1612
                                exact OpX.val u1614 wd1605 rfl (op_load one_36 e1613 (Ext.cell hS1609.ext hc1615)) (Ext.refl _) rfl
                              · refine ObX.op rfl fun f1617 wd1618 he1619 hout1620 hphi1621 => ?_
                                have e1623 : f1617 19 = (Value.int .i64 (k1499 : Int)) := (hout1620 19 rfl).trans hf1520
                                exact OpX.val (Value.int .i64 (k1499 : Int)) wd1618 rfl (op_move e1623) (Ext.refl _) ⟨rfl, hr1521⟩
                              · refine ObX.op rfl fun f1624 wd1625 he1626 hout1627 hphi1628 => ?_
                                have hS1629 := St.extend hS1522 he1626
                                obtain ⟨S1630, hS1631, hf1632⟩ := hphi1628 7 198 _ rfl rfl rfl
                                have e1633 : f1624 198 = u1614 := hf1632
                                obtain ⟨S1634, hS1635, hf1636⟩ := hphi1628 8 199 _ rfl rfl rfl
                                obtain ⟨e1637, hr1638⟩ := hf1636
                                exact OpX.val (Value.pointer (some (elA u1614 ((k1499 : Int)).toNat))) wd1625 rfl (op_idx sl_36 (Ty.lift _ hS1629.ext hr1616) e1633 e1637 ha1640 hb1641) (Ext.refl _) rfl
                              · refine ObX.op rfl fun f1643 wd1644 he1645 hout1646 hphi1647 => ?_
                                have hS1648 := St.extend hS1522 he1645
                                obtain ⟨S1649, hS1650, hf1651⟩ := hphi1647 9 200 _ rfl rfl rfl
                                have e1652 : f1643 200 = (Value.pointer (some (elA u1614 ((k1499 : Int)).toNat))) := hf1651
                                exact OpX.val (Value.int .i64 x1639) wd1644 rfl (op_load one_2 e1652 (Ext.cell hS1648.ext hc1654)) (Ext.refl _) ⟨rfl, hr1655⟩
                              · refine ObX.op rfl fun f1656 wd1657 he1658 hout1659 hphi1660 => ?_
                                have e1662 : f1656 0 = v_t := (hout1659 0 rfl).trans hf1510
                                exact OpX.val v_t wd1657 rfl (op_move e1662) (Ext.refl _) rfl
                              · refine ObX.op rfl fun f1663 wd1664 he1665 hout1666 hphi1667 => ?_
                                have e1669 : f1663 19 = (Value.int .i64 (k1499 : Int)) := (hout1666 19 rfl).trans hf1520
                                exact OpX.val (Value.int .i64 (k1499 : Int)) wd1664 rfl (op_move e1669) (Ext.refl _) ⟨rfl, hr1521⟩
                              · refine ObX.op rfl fun f1670 wd1671 he1672 hout1673 hphi1674 => ?_
                                have hS1675 := St.extend hS1522 he1672
                                obtain ⟨S1676, hS1677, hf1678⟩ := hphi1674 11 202 _ rfl rfl rfl
                                have e1679 : f1670 202 = v_t := hf1678
                                obtain ⟨S1680, hS1681, hf1682⟩ := hphi1674 12 203 _ rfl rfl rfl
                                obtain ⟨e1683, hr1684⟩ := hf1682
                                exact OpX.val (Value.pointer (some (elA v_t ((k1499 : Int)).toNat))) wd1671 rfl (op_idx sl_22 (Ty.lift _ hS1675.ext r_t) e1679 e1683 ha1686 hb1687) (Ext.refl _) rfl
                              · refine ObX.op rfl fun f1689 wd1690 he1691 hout1692 hphi1693 => ?_
                                have hS1694 := St.extend hS1522 he1691
                                obtain ⟨S1695, hS1696, hf1697⟩ := hphi1693 13 204 _ rfl rfl rfl
                                have e1698 : f1689 204 = (Value.pointer (some (elA v_t ((k1499 : Int)).toNat))) := hf1697
                                exact OpX.val u1699 wd1690 rfl (op_load one_25 e1698 (Ext.cell hS1694.ext hc1700)) (Ext.refl _) rfl
                              · refine ObX.op rfl fun f1702 wd1703 he1704 hout1705 hphi1706 => ?_
                                have e1708 : f1702 15 = (Value.int .i64 (k1458 : Int)) := (hout1705 15 rfl).trans hf1514
                                exact OpX.val (Value.int .i64 (k1458 : Int)) wd1703 rfl (op_move e1708) (Ext.refl _) ⟨rfl, hr1472⟩
                              · refine ObX.op rfl fun f1709 wd1710 he1711 hout1712 hphi1713 => ?_
                                have hS1714 := St.extend hS1522 he1711
                                obtain ⟨S1715, hS1716, hf1717⟩ := hphi1713 14 205 _ rfl rfl rfl
                                have e1718 : f1709 205 = u1699 := hf1717
                                obtain ⟨S1719, hS1720, hf1721⟩ := hphi1713 15 206 _ rfl rfl rfl
                                obtain ⟨e1722, hr1723⟩ := hf1721
                                exact OpX.val (Value.pointer (some (elA u1699 ((k1458 : Int)).toNat))) wd1710 rfl (op_idx sl_25 (Ty.lift _ hS1714.ext hr1701) e1718 e1722 ha1725 hb1726) (Ext.refl _) rfl
                              · refine ObX.op rfl fun f1728 wd1729 he1730 hout1731 hphi1732 => ?_
                                have hS1733 := St.extend hS1522 he1730
                                obtain ⟨S1734, hS1735, hf1736⟩ := hphi1732 16 207 _ rfl rfl rfl
                                have e1737 : f1728 207 = (Value.pointer (some (elA u1699 ((k1458 : Int)).toNat))) := hf1736
                                exact OpX.val u1738 wd1729 rfl (op_load one_36 e1737 (Ext.cell hS1733.ext hc1739)) (Ext.refl _) rfl
                              · refine ObX.op rfl fun f1741 wd1742 he1743 hout1744 hphi1745 => ?_
                                have e1747 : f1741 16 = (Value.int .i64 (k1478 : Int)) := (hout1744 16 rfl).trans hf1515
                                exact OpX.val (Value.int .i64 (k1478 : Int)) wd1742 rfl (op_move e1747) (Ext.refl _) ⟨rfl, hr1493⟩
                              · refine ObX.op rfl fun f1748 wd1749 he1750 hout1751 hphi1752 => ?_
                                have hS1753 := St.extend hS1522 he1750
                                obtain ⟨S1754, hS1755, hf1756⟩ := hphi1752 17 208 _ rfl rfl rfl
                                have e1757 : f1748 208 = u1738 := hf1756
                                obtain ⟨S1758, hS1759, hf1760⟩ := hphi1752 18 209 _ rfl rfl rfl
                                obtain ⟨e1761, hr1762⟩ := hf1760
                                exact OpX.val (Value.pointer (some (elA u1738 ((k1478 : Int)).toNat))) wd1749 rfl (op_idx sl_36 (Ty.lift _ hS1753.ext hr1740) e1757 e1761 ha1764 hb1765) (Ext.refl _) rfl
                              · refine ObX.op rfl fun f1767 wd1768 he1769 hout1770 hphi1771 => ?_
                                have hS1772 := St.extend hS1522 he1769
                                obtain ⟨S1773, hS1774, hf1775⟩ := hphi1771 19 210 _ rfl rfl rfl
                                have e1776 : f1767 210 = (Value.pointer (some (elA u1738 ((k1478 : Int)).toNat))) := hf1775
                                exact OpX.val (Value.int .i64 x1763) wd1768 rfl (op_load one_2 e1776 (Ext.cell hS1772.ext hc1778)) (Ext.refl _) ⟨rfl, hr1779⟩
                              · refine ObX.op rfl fun f1780 wd1781 he1782 hout1783 hphi1784 => ?_
                                obtain ⟨S1786, hS1787, hf1788⟩ := hphi1784 10 201 _ rfl rfl rfl
                                obtain ⟨e1789, hr1790⟩ := hf1788
                                obtain ⟨S1791, hS1792, hf1793⟩ := hphi1784 20 211 _ rfl rfl rfl
                                obtain ⟨e1794, hr1795⟩ := hf1793
                                exact OpX.val (Value.int .i64 (w64 (x1639 * x1763))) wd1781 rfl (op_mul e1789 e1794) (Ext.refl _) ⟨rfl, (inR_wrap _ _)⟩
                              · intro f1796 wd1797 Ss1798 he1799 hout1800 hSn1801 hSd1802 hphi1803
                                show WL _ _ _ _ _ _ _
                                have hS1804 := St.extend hS1522 he1799
                                obtain ⟨e1805, hr1806⟩ := hphi1803 0 191 _ (by decide) rfl rfl
                                obtain ⟨e1807, hr1808⟩ := hphi1803 21 212 _ (by decide) rfl rfl
                                have e1809 : f1796 0 = v_t := (hout1800 0 rfl).trans hf1510
                                have e1810 : f1796 3 = (Value.int .i64 ((t).length : Int)) := (hout1800 3 rfl).trans hf1511
                                have e1811 : f1796 13 = (Value.int .i64 (k1421 : Int)) := (hout1800 13 rfl).trans hf1512
                                have e1812 : f1796 14 = (Value.int .i64 (k1439 : Int)) := (hout1800 14 rfl).trans hf1513
                                have e1813 : f1796 15 = (Value.int .i64 (k1458 : Int)) := (hout1800 15 rfl).trans hf1514
                                have e1814 : f1796 16 = (Value.int .i64 (k1478 : Int)) := (hout1800 16 rfl).trans hf1515
                                have e1815 : f1796 18 = (Value.int .i64 x1501) := (hout1800 18 rfl).trans hf1518
                                have e1816 : f1796 19 = (Value.int .i64 (k1499 : Int)) := (hout1800 19 rfl).trans hf1520
                                refine WL.val (Value.int .i64 (w64 (x1500 + (w64 (x1639 * x1763))))) _ (op_add e1805 e1807) rfl ?_
                                refine WL.val (Value.int .i64 (w64 (x1500 + (w64 (x1639 * x1763))))) _ (op_assign rfl) rfl ?_
                                refine WL.nil ?_
                                show W _ _ _ _ _ _
                                obtain ⟨x1853, hx1856, hb1506⟩ := bs hb1506
                                obtain ⟨ha1854, hb1855, hx1856⟩ := idx_some hx1856
                                obtain ⟨u1867, hc1868, hr1869⟩ := repSl.el r_t hx1856
                                obtain ⟨x1892, hx1895, hb1506⟩ := bs hb1506
                                obtain ⟨ha1893, hb1894, hx1895⟩ := idx_some hx1895
                                obtain ⟨u1906, hc1907, hr1908⟩ := repSl.el hr1869 hx1895
                                obtain ⟨x1931, hx1934, hb1506⟩ := bs hb1506
                                obtain ⟨ha1932, hb1933, hx1934⟩ := idx_some hx1934
                                obtain ⟨u1945, hc1946, hr1947⟩ := repSl.el hr1908 hx1934
                                obtain ⟨rfl, hr1947⟩ := hr1947
                                obtain ⟨u1987, hc1988, hr1989⟩ := repSl.el r_t hx1564
                                obtain ⟨x2012, hx2015, hb1506⟩ := bs hb1506
                                obtain ⟨ha2013, hb2014, hx2015⟩ := idx_some hx2015
                                obtain ⟨u2026, hc2027, hr2028⟩ := repSl.el hr1989 hx2015
                                obtain ⟨x2051, hx2054, hb1506⟩ := bs hb1506
                                obtain ⟨ha2052, hb2053, hx2054⟩ := idx_some hx2054
                                obtain ⟨u2065, hc2066, hr2067⟩ := repSl.el hr2028 hx2054
                                obtain ⟨rfl, hr2067⟩ := hr2067
                                refine W.drawR mixo 22 [] [fun _ v _ _ => v = (Value.int .i64 x1501) ∧ InR .i64 x1501, fun _ v _ _ => v = v_t, fun _ v _ _ => v = (Value.int .i64 (k1439 : Int)) ∧ InR .i64 (k1439 : Int), fun _ v _ _ => v = (Value.pointer (some (elA v_t ((k1439 : Int)).toNat))), fun _ v _ _ => v = u1867, fun _ v _ _ => v = (Value.int .i64 (k1458 : Int)) ∧ InR .i64 (k1458 : Int), fun _ v _ _ => v = (Value.pointer (some (elA u1867 ((k1458 : Int)).toNat))), fun _ v _ _ => v = u1906, fun _ v _ _ => v = (Value.int .i64 (k1499 : Int)) ∧ InR .i64 (k1499 : Int), fun _ v _ _ => v = (Value.pointer (some (elA u1906 ((k1499 : Int)).toNat))), fun _ v _ _ => v = (Value.int .i64 x1931) ∧ InR .i64 x1931, fun _ v _ _ => v = v_t, fun _ v _ _ => v = (Value.int .i64 (k1421 : Int)) ∧ InR .i64 (k1421 : Int), fun _ v _ _ => v = (Value.pointer (some (elA v_t ((k1421 : Int)).toNat))), fun _ v _ _ => v = u1987, fun _ v _ _ => v = (Value.int .i64 (k1499 : Int)) ∧ InR .i64 (k1499 : Int), fun _ v _ _ => v = (Value.pointer (some (elA u1987 ((k1499 : Int)).toNat))), fun _ v _ _ => v = u2026, fun _ v _ _ => v = (Value.int .i64 (k1478 : Int)) ∧ InR .i64 (k1478 : Int), fun _ v _ _ => v = (Value.pointer (some (elA u2026 ((k1478 : Int)).toNat))), fun _ v _ _ => v = (Value.int .i64 x2051) ∧ InR .i64 x2051, fun _ v _ _ => v = (Value.int .i64 (w64 (x1931 * x2051))) ∧ InR .i64 (w64 (x1931 * x2051))] (by kernel_rfl) (by kernel_rfl) ⟨pk, pk, pk, pk, pk, pk, pk, pk, pk, pk, pk, pk, pk, pk, pk, pk, pk, pk, pk, pk, pk, pk, trivial⟩ ⟨?_, ?_, ?_, ?_, ?_, ?_, ?_, ?_, ?_, ?_, ?_, ?_, ?_, ?_, ?_, ?_, ?_, ?_, ?_, ?_, ?_, ?_, trivial⟩ ?_
                                · refine ObX.op rfl fun f1817 wd1818 he1819 hout1820 hphi1821 => ?_
                                  have e1823 : f1817 18 = (Value.int .i64 x1501) := (hout1820 18 rfl).trans e1815
                                  exact OpX.val (Value.int .i64 x1501) wd1818 rfl (op_move e1823) (Ext.refl _) ⟨rfl, hr1519⟩
                                · refine ObX.op rfl fun f1824 wd1825 he1826 hout1827 hphi1828 => ?_
                                  have e1830 : f1824 0 = v_t := (hout1827 0 rfl).trans e1809
                                  exact OpX.val v_t wd1825 rfl (op_move e1830) (Ext.refl _) rfl
                                · refine ObX.op rfl fun f1831 wd1832 he1833 hout1834 hphi1835 => ?_
                                  have e1837 : f1831 14 = (Value.int .i64 (k1439 : Int)) := (hout1834 14 rfl).trans e1812
                                  exact OpX.val (Value.int .i64 (k1439 : Int)) wd1832 rfl (op_move e1837) (Ext.refl _) ⟨rfl, hr1452⟩
                                · refine ObX.op rfl fun f1838 wd1839 he1840 hout1841 hphi1842 => ?_
                                  have hS1843 := St.extend hS1804 he1840
                                  obtain ⟨S1844, hS1845, hf1846⟩ := hphi1842 1 215 _ rfl rfl rfl
                                  have e1847 : f1838 215 = v_t := hf1846
                                  obtain ⟨S1848, hS1849, hf1850⟩ := hphi1842 2 216 _ rfl rfl rfl
                                  obtain ⟨e1851, hr1852⟩ := hf1850
                                  exact OpX.val (Value.pointer (some (elA v_t ((k1439 : Int)).toNat))) wd1839 rfl (op_idx sl_22 (Ty.lift _ hS1843.ext r_t) e1847 e1851 ha1854 hb1855) (Ext.refl _) rfl
                                · refine ObX.op rfl fun f1857 wd1858 he1859 hout1860 hphi1861 => ?_
                                  have hS1862 := St.extend hS1804 he1859
                                  obtain ⟨S1863, hS1864, hf1865⟩ := hphi1861 3 217 _ rfl rfl rfl
                                  have e1866 : f1857 217 = (Value.pointer (some (elA v_t ((k1439 : Int)).toNat))) := hf1865
                                  exact OpX.val u1867 wd1858 rfl (op_load one_25 e1866 (Ext.cell hS1862.ext hc1868)) (Ext.refl _) rfl
                                · refine ObX.op rfl fun f1870 wd1871 he1872 hout1873 hphi1874 => ?_
                                  have e1876 : f1870 15 = (Value.int .i64 (k1458 : Int)) := (hout1873 15 rfl).trans e1813
                                  exact OpX.val (Value.int .i64 (k1458 : Int)) wd1871 rfl (op_move e1876) (Ext.refl _) ⟨rfl, hr1472⟩
                                · refine ObX.op rfl fun f1877 wd1878 he1879 hout1880 hphi1881 => ?_
                                  have hS1882 := St.extend hS1804 he1879
                                  obtain ⟨S1883, hS1884, hf1885⟩ := hphi1881 4 218 _ rfl rfl rfl
                                  have e1886 : f1877 218 = u1867 := hf1885
                                  obtain ⟨S1887, hS1888, hf1889⟩ := hphi1881 5 219 _ rfl rfl rfl
                                  obtain ⟨e1890, hr1891⟩ := hf1889
                                  exact OpX.val (Value.pointer (some (elA u1867 ((k1458 : Int)).toNat))) wd1878 rfl (op_idx sl_25 (Ty.lift _ hS1882.ext hr1869) e1886 e1890 ha1893 hb1894) (Ext.refl _) rfl
                                · refine ObX.op rfl fun f1896 wd1897 he1898 hout1899 hphi1900 => ?_
                                  have hS1901 := St.extend hS1804 he1898
                                  obtain ⟨S1902, hS1903, hf1904⟩ := hphi1900 6 220 _ rfl rfl rfl
                                  have e1905 : f1896 220 = (Value.pointer (some (elA u1867 ((k1458 : Int)).toNat))) := hf1904
                                  exact OpX.val u1906 wd1897 rfl (op_load one_36 e1905 (Ext.cell hS1901.ext hc1907)) (Ext.refl _) rfl
                                · refine ObX.op rfl fun f1909 wd1910 he1911 hout1912 hphi1913 => ?_
                                  have e1915 : f1909 19 = (Value.int .i64 (k1499 : Int)) := (hout1912 19 rfl).trans e1816
                                  exact OpX.val (Value.int .i64 (k1499 : Int)) wd1910 rfl (op_move e1915) (Ext.refl _) ⟨rfl, hr1521⟩
                                · refine ObX.op rfl fun f1916 wd1917 he1918 hout1919 hphi1920 => ?_
                                  have hS1921 := St.extend hS1804 he1918
                                  obtain ⟨S1922, hS1923, hf1924⟩ := hphi1920 7 221 _ rfl rfl rfl
                                  have e1925 : f1916 221 = u1906 := hf1924
                                  obtain ⟨S1926, hS1927, hf1928⟩ := hphi1920 8 222 _ rfl rfl rfl
                                  obtain ⟨e1929, hr1930⟩ := hf1928
                                  exact OpX.val (Value.pointer (some (elA u1906 ((k1499 : Int)).toNat))) wd1917 rfl (op_idx sl_36 (Ty.lift _ hS1921.ext hr1908) e1925 e1929 ha1932 hb1933) (Ext.refl _) rfl
                                · refine ObX.op rfl fun f1935 wd1936 he1937 hout1938 hphi1939 => ?_
                                  have hS1940 := St.extend hS1804 he1937
                                  obtain ⟨S1941, hS1942, hf1943⟩ := hphi1939 9 223 _ rfl rfl rfl
                                  have e1944 : f1935 223 = (Value.pointer (some (elA u1906 ((k1499 : Int)).toNat))) := hf1943
                                  exact OpX.val (Value.int .i64 x1931) wd1936 rfl (op_load one_2 e1944 (Ext.cell hS1940.ext hc1946)) (Ext.refl _) ⟨rfl, hr1947⟩
                                · refine ObX.op rfl fun f1948 wd1949 he1950 hout1951 hphi1952 => ?_
                                  have e1954 : f1948 0 = v_t := (hout1951 0 rfl).trans e1809
                                  exact OpX.val v_t wd1949 rfl (op_move e1954) (Ext.refl _) rfl
                                · refine ObX.op rfl fun f1955 wd1956 he1957 hout1958 hphi1959 => ?_
                                  have e1961 : f1955 13 = (Value.int .i64 (k1421 : Int)) := (hout1958 13 rfl).trans e1811
                                  exact OpX.val (Value.int .i64 (k1421 : Int)) wd1956 rfl (op_move e1961) (Ext.refl _) ⟨rfl, hr1433⟩
                                · refine ObX.op rfl fun f1962 wd1963 he1964 hout1965 hphi1966 => ?_
                                  have hS1967 := St.extend hS1804 he1964
                                  obtain ⟨S1968, hS1969, hf1970⟩ := hphi1966 11 225 _ rfl rfl rfl
                                  have e1971 : f1962 225 = v_t := hf1970
                                  obtain ⟨S1972, hS1973, hf1974⟩ := hphi1966 12 226 _ rfl rfl rfl
                                  obtain ⟨e1975, hr1976⟩ := hf1974
                                  exact OpX.val (Value.pointer (some (elA v_t ((k1421 : Int)).toNat))) wd1963 rfl (op_idx sl_22 (Ty.lift _ hS1967.ext r_t) e1971 e1975 ha1562 hb1563) (Ext.refl _) rfl
                                · refine ObX.op rfl fun f1977 wd1978 he1979 hout1980 hphi1981 => ?_
                                  have hS1982 := St.extend hS1804 he1979
                                  obtain ⟨S1983, hS1984, hf1985⟩ := hphi1981 13 227 _ rfl rfl rfl
                                  have e1986 : f1977 227 = (Value.pointer (some (elA v_t ((k1421 : Int)).toNat))) := hf1985
                                  exact OpX.val u1987 wd1978 rfl (op_load one_25 e1986 (Ext.cell hS1982.ext hc1988)) (Ext.refl _) rfl
                                · refine ObX.op rfl fun f1990 wd1991 he1992 hout1993 hphi1994 => ?_
                                  have e1996 : f1990 19 = (Value.int .i64 (k1499 : Int)) := (hout1993 19 rfl).trans e1816
                                  exact OpX.val (Value.int .i64 (k1499 : Int)) wd1991 rfl (op_move e1996) (Ext.refl _) ⟨rfl, hr1521⟩
                                · refine ObX.op rfl fun f1997 wd1998 he1999 hout2000 hphi2001 => ?_
                                  have hS2002 := St.extend hS1804 he1999
                                  obtain ⟨S2003, hS2004, hf2005⟩ := hphi2001 14 228 _ rfl rfl rfl
                                  have e2006 : f1997 228 = u1987 := hf2005
                                  obtain ⟨S2007, hS2008, hf2009⟩ := hphi2001 15 229 _ rfl rfl rfl
                                  obtain ⟨e2010, hr2011⟩ := hf2009
                                  exact OpX.val (Value.pointer (some (elA u1987 ((k1499 : Int)).toNat))) wd1998 rfl (op_idx sl_25 (Ty.lift _ hS2002.ext hr1989) e2006 e2010 ha2013 hb2014) (Ext.refl _) rfl
                                · refine ObX.op rfl fun f2016 wd2017 he2018 hout2019 hphi2020 => ?_
                                  have hS2021 := St.extend hS1804 he2018
                                  obtain ⟨S2022, hS2023, hf2024⟩ := hphi2020 16 230 _ rfl rfl rfl
                                  have e2025 : f2016 230 = (Value.pointer (some (elA u1987 ((k1499 : Int)).toNat))) := hf2024
                                  exact OpX.val u2026 wd2017 rfl (op_load one_36 e2025 (Ext.cell hS2021.ext hc2027)) (Ext.refl _) rfl
                                · refine ObX.op rfl fun f2029 wd2030 he2031 hout2032 hphi2033 => ?_
                                  have e2035 : f2029 16 = (Value.int .i64 (k1478 : Int)) := (hout2032 16 rfl).trans e1814
                                  exact OpX.val (Value.int .i64 (k1478 : Int)) wd2030 rfl (op_move e2035) (Ext.refl _) ⟨rfl, hr1493⟩
                                · refine ObX.op rfl fun f2036 wd2037 he2038 hout2039 hphi2040 => ?_
                                  have hS2041 := St.extend hS1804 he2038
                                  obtain ⟨S2042, hS2043, hf2044⟩ := hphi2040 17 231 _ rfl rfl rfl
                                  have e2045 : f2036 231 = u2026 := hf2044
                                  obtain ⟨S2046, hS2047, hf2048⟩ := hphi2040 18 232 _ rfl rfl rfl
                                  obtain ⟨e2049, hr2050⟩ := hf2048
                                  exact OpX.val (Value.pointer (some (elA u2026 ((k1478 : Int)).toNat))) wd2037 rfl (op_idx sl_36 (Ty.lift _ hS2041.ext hr2028) e2045 e2049 ha2052 hb2053) (Ext.refl _) rfl
                                · refine ObX.op rfl fun f2055 wd2056 he2057 hout2058 hphi2059 => ?_
                                  have hS2060 := St.extend hS1804 he2057
                                  obtain ⟨S2061, hS2062, hf2063⟩ := hphi2059 19 233 _ rfl rfl rfl
                                  have e2064 : f2055 233 = (Value.pointer (some (elA u2026 ((k1478 : Int)).toNat))) := hf2063
                                  exact OpX.val (Value.int .i64 x2051) wd2056 rfl (op_load one_2 e2064 (Ext.cell hS2060.ext hc2066)) (Ext.refl _) ⟨rfl, hr2067⟩
                                · refine ObX.op rfl fun f2068 wd2069 he2070 hout2071 hphi2072 => ?_
                                  obtain ⟨S2074, hS2075, hf2076⟩ := hphi2072 10 224 _ rfl rfl rfl
                                  obtain ⟨e2077, hr2078⟩ := hf2076
                                  obtain ⟨S2079, hS2080, hf2081⟩ := hphi2072 20 234 _ rfl rfl rfl
                                  obtain ⟨e2082, hr2083⟩ := hf2081
                                  exact OpX.val (Value.int .i64 (w64 (x1931 * x2051))) wd2069 rfl (op_mul e2077 e2082) (Ext.refl _) ⟨rfl, (inR_wrap _ _)⟩
                                · intro f2084 wd2085 Ss2086 he2087 hout2088 hSn2089 hSd2090 hphi2091
                                  show WL _ _ _ _ _ _ _
                                  have hS2092 := St.extend hS1804 he2087
                                  obtain ⟨e2093, hr2094⟩ := hphi2091 0 214 _ (by decide) rfl rfl
                                  obtain ⟨e2095, hr2096⟩ := hphi2091 21 235 _ (by decide) rfl rfl
                                  have e2097 : f2084 0 = v_t := (hout2088 0 rfl).trans e1809
                                  have e2098 : f2084 3 = (Value.int .i64 ((t).length : Int)) := (hout2088 3 rfl).trans e1810
                                  have e2099 : f2084 13 = (Value.int .i64 (k1421 : Int)) := (hout2088 13 rfl).trans e1811
                                  have e2100 : f2084 14 = (Value.int .i64 (k1439 : Int)) := (hout2088 14 rfl).trans e1812
                                  have e2101 : f2084 15 = (Value.int .i64 (k1458 : Int)) := (hout2088 15 rfl).trans e1813
                                  have e2102 : f2084 16 = (Value.int .i64 (k1478 : Int)) := (hout2088 16 rfl).trans e1814
                                  have e2103 : f2084 17 = (Value.int .i64 (w64 (x1500 + (w64 (x1639 * x1763))))) := (hout2088 17 rfl).trans rfl
                                  have e2104 : f2084 19 = (Value.int .i64 (k1499 : Int)) := (hout2088 19 rfl).trans e1816
                                  refine WL.val (Value.int .i64 (w64 (x1501 + (w64 (x1931 * x2051))))) _ (op_add e2093 e2095) rfl ?_
                                  refine WL.val (Value.int .i64 (w64 (x1501 + (w64 (x1931 * x2051))))) _ (op_assign rfl) rfl ?_
                                  refine WL.nil ?_
                                  show W _ _ _ _ _ _
                                  refine W.region ?_
                                  refine WL.val (Value.int .i64 (k1499 : Int)) _ (op_move e2104) rfl ?_
                                  refine WL.val (Value.int .i64 (w64 ((k1499 : Int) + (1 : Int)))) _ (op_add rfl rfl) rfl ?_
                                  refine WL.val (Value.int .i64 (w64 ((k1499 : Int) + (1 : Int)))) _ (op_assign rfl) rfl ?_
                                  refine WL.nil ?_
                                  obtain rfl := Option.some.inj hb1506
                                  show ∃ s, _ = Ctl.next s ∧ _
                                  exact ⟨_, rfl, e2097, e2098, e2099, e2100, e2101, e2102, e2103, (inR_wrap _ _), rfl, (inR_wrap _ _), (ctr_next hl1523 hr1), (ctr_rng hl1523 hr1), hS2092⟩
                            · intro s2110 f2106 wd2107 hs2108 hI2109
                              obtain ⟨x2111, x2112⟩ := s2110
                              replace hI2109 : f2106 0 = v_t ∧ f2106 3 = (Value.int .i64 ((t).length : Int)) ∧ f2106 13 = (Value.int .i64 (k1421 : Int)) ∧ f2106 14 = (Value.int .i64 (k1439 : Int)) ∧ f2106 15 = (Value.int .i64 (k1458 : Int)) ∧ f2106 16 = (Value.int .i64 (k1478 : Int)) ∧ f2106 17 = Value.int .i64 x2111 ∧ InR .i64 x2111 ∧ f2106 18 = Value.int .i64 x2112 ∧ InR .i64 x2112 ∧ f2106 19 = Value.int .i64 (((t).length : Nat) : Int) ∧ InR .i64 (((t).length : Nat) : Int) ∧ St w wd2107 [] := hI2109
                              obtain ⟨hf2113, hf2114, hf2115, hf2116, hf2117, hf2118, hf2119, hr2120, hf2121, hr2122, hf2123, hr2124, hS2125⟩ := hI2109
                              refine W.seq (W.seq (W.region ?_))
                              refine WL.val (Value.int .i64 (((t).length : Nat) : Int)) _ (op_move hf2123) rfl ?_
                              refine WL.val (Value.int .i64 ((t).length : Int)) _ (op_move hf2114) rfl ?_
                              refine WL.val (Value.bool (decide ((((t).length : Nat) : Int) < ((t).length : Int)))) _ (op_lss rfl rfl) rfl ?_
                              have hl2126 : ¬ (((t).length : Nat) : Int) < ((t).length : Int) := by omega
                              refine WL.nil ?_
                              refine W.condF (decide ((((t).length : Nat) : Int) < ((t).length : Int))) rfl (decide_eq_false hl2126) ?_
                              refine W.exit ?_
                              show _ = _ ∧ _
                              exact ⟨rfl, _, hs2108, hf2113, hf2114, hf2115, hf2116, hf2117, hf2118, hf2119, hr2120, hf2121, hr2122, hS2125⟩
                          · rintro f2127 wd2128 ⟨s2130, rfl, hq2129⟩
                            replace hb1483 := onRes_fin hb1483
                            obtain ⟨x2131, x2132⟩ := s2130
                            replace hq2129 : f2127 0 = v_t ∧ f2127 3 = (Value.int .i64 ((t).length : Int)) ∧ f2127 13 = (Value.int .i64 (k1421 : Int)) ∧ f2127 14 = (Value.int .i64 (k1439 : Int)) ∧ f2127 15 = (Value.int .i64 (k1458 : Int)) ∧ f2127 16 = (Value.int .i64 (k1478 : Int)) ∧ f2127 17 = Value.int .i64 x2131 ∧ InR .i64 x2131 ∧ f2127 18 = Value.int .i64 x2132 ∧ InR .i64 x2132 ∧ St w wd2128 [] := hq2129
                            replace hb1483 : (_ : Option _) = _ := hb1483
                            dsimp only at hb1483
                            obtain ⟨hf2133, hf2134, hf2135, hf2136, hf2137, hf2138, hf2139, hr2140, hf2141, hr2142, hS2143⟩ := hq2129
                            refine W.seq (W.region ?_)
                            refine WL.val (Value.int .i64 x2131) _ (op_move hf2139) rfl ?_
                            refine WL.val (Value.int .i64 x2132) _ (op_move hf2141) rfl ?_
                            refine WL.val (Value.bool (x2131 != x2132)) _ (op_neq rfl rfl) rfl ?_
                            refine WL.nil ?_
                            refine W.cond (x2131 != x2132) rfl (fun hc2144 => ?_) (fun hc2144 => ?_)
                            · replace hb1483 := ip hb1483 hc2144
                              refine W.seq (W.region ?_)
                              refine WL.val (Value.int .i64 (k1421 : Int)) _ (op_move hf2135) rfl ?_
                              refine WL.val (Value.int .i64 (k1439 : Int)) _ (op_move hf2136) rfl ?_
                              refine WL.val (Value.int .i64 (k1458 : Int)) _ (op_move hf2137) rfl ?_
                              refine WL.val (Value.int .i64 (k1478 : Int)) _ (op_move hf2138) rfl ?_
                              refine WL.litFlat (t := (Ty.i .i64)) (flat_i .i64) [(Value.int .i64 (3 : Int)), (Value.int .i64 (k1421 : Int)), (Value.int .i64 (k1439 : Int)), (Value.int .i64 (k1458 : Int)), (Value.int .i64 (k1478 : Int))] [(3 : Int), (k1421 : Int), (k1439 : Int), (k1458 : Int), (k1478 : Int)] hS2143 sl_36 rfl rfl (fillL rfl ⟨rfl, rfl, rfl, rfl, rfl, rfl, rfl, rfl, rfl, rfl, rfl, rfl, rfl, rfl, rfl, trivial⟩) rfl rfl (litL ⟨⟨rfl, (inL rfl)⟩, ⟨rfl, hr1433⟩, ⟨rfl, hr1452⟩, ⟨rfl, hr1472⟩, ⟨rfl, hr1493⟩, trivial⟩) rfl ?_
                              intro u2146 wd2147 hS2148 he2149
                              replace hS2148 : St w wd2147 [(Ty.sl (Ty.i .i64)).at u2146 ([(3 : Int), (k1421 : Int), (k1439 : Int), (k1458 : Int), (k1478 : Int)] : (List Int))] := hS2148
                              refine WL.val u2146 _ (op_assign rfl) rfl ?_
                              refine WL.nil ?_
                              refine W.ret ?_
                              obtain rfl := Option.some.inj hb1483
                              obtain rfl := hret1486 _ rfl
                              replace hb1463 := onRes_ret hb1463
                              obtain rfl := Option.some.inj hb1463
                              obtain rfl := hret1466 _ rfl
                              replace hb1444 := onRes_ret hb1444
                              obtain rfl := Option.some.inj hb1444
                              obtain rfl := hret1447 _ rfl
                              replace hb1426 := onRes_ret hb1426
                              obtain rfl := Option.some.inj hb1426
                              obtain rfl := hret1429 _ rfl
                              replace h := onRes_ret h
                              obtain rfl := Option.some.inj h
                              show FinP _ _ _ _ _ _ _
                              exact FinP.ret _ (res1 rfl rfl) ⟨u2146, rfl, hS2148.ext, (St.out (St.pick hS2148 [0] rfl) (Ext.refl _))⟩
                            · replace hb1483 := inegb hb1483 hc2144
                              refine W.skip ?_
                              show W _ _ _ _ _ _
                              refine W.region ?_
                              refine WL.val (Value.int .i64 (k1478 : Int)) _ (op_move hf2138) rfl ?_
                              refine WL.val (Value.int .i64 (w64 ((k1478 : Int) + (1 : Int)))) _ (op_add rfl rfl) rfl ?_
                              refine WL.val (Value.int .i64 (w64 ((k1478 : Int) + (1 : Int)))) _ (op_assign rfl) rfl ?_
                              refine WL.nil ?_
                              obtain rfl := Option.some.inj hb1483
                              show ∃ s, _ = Ctl.next s ∧ _
                              exact ⟨_, rfl, hf2133, hf2134, hf2135, hf2136, hf2137, (ctr_next hl1495 hr1), (ctr_rng hl1495 hr1), hS2143⟩
                        · intro s2156 f2152 wd2153 hs2154 hI2155
                          obtain ⟨⟩ := s2156
                          replace hI2155 : f2152 0 = v_t ∧ f2152 3 = (Value.int .i64 ((t).length : Int)) ∧ f2152 13 = (Value.int .i64 (k1421 : Int)) ∧ f2152 14 = (Value.int .i64 (k1439 : Int)) ∧ f2152 15 = (Value.int .i64 (k1458 : Int)) ∧ f2152 16 = Value.int .i64 (((t).length : Nat) : Int) ∧ InR .i64 (((t).length : Nat) : Int) ∧ St w wd2153 [] := hI2155
                          obtain ⟨hf2157, hf2158, hf2159, hf2160, hf2161, hf2162, hr2163, hS2164⟩ := hI2155
                          refine W.seq (W.seq (W.region ?_))
                          refine WL.val (Value.int .i64 (((t).length : Nat) : Int)) _ (op_move hf2162) rfl ?_
                          refine WL.val (Value.int .i64 ((t).length : Int)) _ (op_move hf2158) rfl ?_
                          refine WL.val (Value.bool (decide ((((t).length : Nat) : Int) < ((t).length : Int)))) _ (op_lss rfl rfl) rfl ?_
                          have hl2165 : ¬ (((t).length : Nat) : Int) < ((t).length : Int) := by omega
                          refine WL.nil ?_
                          refine W.condF (decide ((((t).length : Nat) : Int) < ((t).length : Int))) rfl (decide_eq_false hl2165) ?_
                          refine W.exit ?_
                          show _ = _ ∧ _
                          exact ⟨rfl, _, hs2154, hf2157, hf2158, hf2159, hf2160, hf2161, hS2164⟩
                      · rintro f2166 wd2167 ⟨s2169, rfl, hq2168⟩
                        replace hb1463 := onRes_fin hb1463
                        obtain ⟨⟩ := s2169
                        replace hq2168 : f2166 0 = v_t ∧ f2166 3 = (Value.int .i64 ((t).length : Int)) ∧ f2166 13 = (Value.int .i64 (k1421 : Int)) ∧ f2166 14 = (Value.int .i64 (k1439 : Int)) ∧ f2166 15 = (Value.int .i64 (k1458 : Int)) ∧ St w wd2167 [] := hq2168
                        obtain ⟨hf2170, hf2171, hf2172, hf2173, hf2174, hS2175⟩ := hq2168
                        show W _ _ _ _ _ _
                        refine W.region ?_
                        refine WL.val (Value.int .i64 (k1458 : Int)) _ (op_move hf2174) rfl ?_
                        refine WL.val (Value.int .i64 (w64 ((k1458 : Int) + (1 : Int)))) _ (op_add rfl rfl) rfl ?_
                        refine WL.val (Value.int .i64 (w64 ((k1458 : Int) + (1 : Int)))) _ (op_assign rfl) rfl ?_
                        refine WL.nil ?_
                        obtain rfl := Option.some.inj hb1463
                        show ∃ s, _ = Ctl.next s ∧ _
                        exact ⟨_, rfl, hf2170, hf2171, hf2172, hf2173, (ctr_next hl1474 hr1), (ctr_rng hl1474 hr1), hS2175⟩
                    · intro s2182 f2178 wd2179 hs2180 hI2181
                      obtain ⟨⟩ := s2182
                      replace hI2181 : f2178 0 = v_t ∧ f2178 3 = (Value.int .i64 ((t).length : Int)) ∧ f2178 13 = (Value.int .i64 (k1421 : Int)) ∧ f2178 14 = (Value.int .i64 (k1439 : Int)) ∧ f2178 15 = Value.int .i64 (((t).length : Nat) : Int) ∧ InR .i64 (((t).length : Nat) : Int) ∧ St w wd2179 [] := hI2181
                      obtain ⟨hf2183, hf2184, hf2185, hf2186, hf2187, hr2188, hS2189⟩ := hI2181
                      refine W.seq (W.seq (W.region ?_))
                      refine WL.val (Value.int .i64 (((t).length : Nat) : Int)) _ (op_move hf2187) rfl ?_
                      refine WL.val (Value.int .i64 ((t).length : Int)) _ (op_move hf2184) rfl ?_
                      refine WL.val (Value.bool (decide ((((t).length : Nat) : Int) < ((t).length : Int)))) _ (op_lss rfl rfl) rfl ?_
                      have hl2190 : ¬ (((t).length : Nat) : Int) < ((t).length : Int) := by omega
                      refine WL.nil ?_
                      refine W.condF (decide ((((t).length : Nat) : Int) < ((t).length : Int))) rfl (decide_eq_false hl2190) ?_
                      refine W.exit ?_
                      show _ = _ ∧ _
                      exact ⟨rfl, _, hs2180, hf2183, hf2184, hf2185, hf2186, hS2189⟩
                  · rintro f2191 wd2192 ⟨s2194, rfl, hq2193⟩
                    replace hb1444 := onRes_fin hb1444
                    obtain ⟨⟩ := s2194
                    replace hq2193 : f2191 0 = v_t ∧ f2191 3 = (Value.int .i64 ((t).length : Int)) ∧ f2191 13 = (Value.int .i64 (k1421 : Int)) ∧ f2191 14 = (Value.int .i64 (k1439 : Int)) ∧ St w wd2192 [] := hq2193
                    obtain ⟨hf2195, hf2196, hf2197, hf2198, hS2199⟩ := hq2193
                    show W _ _ _ _ _ _
                    refine W.region ?_
                    refine WL.val (Value.int .i64 (k1439 : Int)) _ (op_move hf2198) rfl ?_
                    refine WL.val (Value.int .i64 (w64 ((k1439 : Int) + (1 : Int)))) _ (op_add rfl rfl) rfl ?_
                    refine WL.val (Value.int .i64 (w64 ((k1439 : Int) + (1 : Int)))) _ (op_assign rfl) rfl ?_
                    refine WL.nil ?_
                    obtain rfl := Option.some.inj hb1444
                    show ∃ s, _ = Ctl.next s ∧ _
                    exact ⟨_, rfl, hf2195, hf2196, hf2197, (ctr_next hl1454 hr1), (ctr_rng hl1454 hr1), hS2199⟩
                · intro s2206 f2202 wd2203 hs2204 hI2205
                  obtain ⟨⟩ := s2206
                  replace hI2205 : f2202 0 = v_t ∧ f2202 3 = (Value.int .i64 ((t).length : Int)) ∧ f2202 13 = (Value.int .i64 (k1421 : Int)) ∧ f2202 14 = Value.int .i64 (((t).length : Nat) : Int) ∧ InR .i64 (((t).length : Nat) : Int) ∧ St w wd2203 [] := hI2205
                  obtain ⟨hf2207, hf2208, hf2209, hf2210, hr2211, hS2212⟩ := hI2205
                  refine W.seq (W.seq (W.region ?_))
                  refine WL.val (Value.int .i64 (((t).length : Nat) : Int)) _ (op_move hf2210) rfl ?_
                  refine WL.val (Value.int .i64 ((t).length : Int)) _ (op_move hf2208) rfl ?_
                  refine WL.val (Value.bool (decide ((((t).length : Nat) : Int) < ((t).length : Int)))) _ (op_lss rfl rfl) rfl ?_
                  have hl2213 : ¬ (((t).length : Nat) : Int) < ((t).length : Int) := by omega
                  refine WL.nil ?_
                  refine W.condF (decide ((((t).length : Nat) : Int) < ((t).length : Int))) rfl (decide_eq_false hl2213) ?_
                  refine W.exit ?_
                  show _ = _ ∧ _
                  exact ⟨rfl, _, hs2204, hf2207, hf2208, hf2209, hS2212⟩
              · rintro f2214 wd2215 ⟨s2217, rfl, hq2216⟩
                replace hb1426 := onRes_fin hb1426
                obtain ⟨⟩ := s2217
                replace hq2216 : f2214 0 = v_t ∧ f2214 3 = (Value.int .i64 ((t).length : Int)) ∧ f2214 13 = (Value.int .i64 (k1421 : Int)) ∧ St w wd2215 [] := hq2216
                obtain ⟨hf2218, hf2219, hf2220, hS2221⟩ := hq2216
                show W _ _ _ _ _ _
                refine W.region ?_
                refine WL.val (Value.int .i64 (k1421 : Int)) _ (op_move hf2220) rfl ?_
                refine WL.val (Value.int .i64 (w64 ((k1421 : Int) + (1 : Int)))) _ (op_add rfl rfl) rfl ?_
                refine WL.val (Value.int .i64 (w64 ((k1421 : Int) + (1 : Int)))) _ (op_assign rfl) rfl ?_
                refine WL.nil ?_
                obtain rfl := Option.some.inj hb1426
                show ∃ s, _ = Ctl.next s ∧ _
                exact ⟨_, rfl, hf2218, hf2219, (ctr_next hl1435 hr1), (ctr_rng hl1435 hr1), hS2221⟩
            · intro s2228 f2224 wd2225 hs2226 hI2227
              obtain ⟨⟩ := s2228
              replace hI2227 : f2224 0 = v_t ∧ f2224 3 = (Value.int .i64 ((t).length : Int)) ∧ f2224 13 = Value.int .i64 (((t).length : Nat) : Int) ∧ InR .i64 (((t).length : Nat) : Int) ∧ St w wd2225 [] := hI2227
              obtain ⟨hf2229, hf2230, hf2231, hr2232, hS2233⟩ := hI2227
              refine W.seq (W.seq (W.region ?_))
              refine WL.val (Value.int .i64 (((t).length : Nat) : Int)) _ (op_move hf2231) rfl ?_
              refine WL.val (Value.int .i64 ((t).length : Int)) _ (op_move hf2230) rfl ?_
              refine WL.val (Value.bool (decide ((((t).length : Nat) : Int) < ((t).length : Int)))) _ (op_lss rfl rfl) rfl ?_
              have hl2234 : ¬ (((t).length : Nat) : Int) < ((t).length : Int) := by omega
              refine WL.nil ?_
              refine W.condF (decide ((((t).length : Nat) : Int) < ((t).length : Int))) rfl (decide_eq_false hl2234) ?_
              refine W.exit ?_
              show _ = _ ∧ _
              exact ⟨rfl, _, hs2226, hS2233⟩
          · rintro f2235 wd2236 ⟨s2238, rfl, hq2237⟩
            replace h := onRes_fin h
            obtain ⟨⟩ := s2238
            replace hq2237 : St w wd2236 [] := hq2237
            have hS2239 := hq2237
            refine W.seq (W.region ?_)
            refine WL.val (Value.slice none 0 0) _ (op_assign rfl) rfl ?_
            refine WL.nil ?_
            refine W.ret ?_
            obtain rfl := Option.some.inj h
            show FinP _ _ _ _ _ _ _
            exact FinP.ret _ (res1 rfl rfl) ⟨(Value.slice none 0 0), rfl, hS2239.ext, (St.out (St.pick (St.addNil (Ty.i .i64) hS2239) [0] rfl) (Ext.refl _))⟩

theorem c_spec_l03Is {w : World} {r_Table : (List (List (List Int)))} {v_r_Table : Value} (r_r_Table : (Ty.sl (Ty.sl (Ty.sl (Ty.i .i64)))).rep w v_r_Table r_Table) {res : Bool} (h : p_spec_l03Is r_Table  = some res) :
    Ret Try.prog 23 #[(Value.agg #[v_r_Table])] w (fun v w' => v = Value.bool res ∧ Ext w w') := by
  unfold p_spec_l03Is at h
  have hS0 : St w w [] := St.start w
  refine Ret.start (fn := Try.f23) Try.func23 rfl 13 rfl rfl ?_
  refine W.seq (W.region ?_)
  refine WL.box hS0 rfl (cs := [v_r_Table]) rfl rfl ?_
  intro b1 wd2 hS3 he4 hx5
  replace hS3 : St w wd2 [bx b1 [v_r_Table]] := hS3
  have hx6 := St.boxAt hS3 0 rfl
  have hE7 : Ext w wd2 := hS3.ext
  have hS8 : St wd2 wd2 [] := St.start wd2
  refine WL.val (Value.bool false) _ (op_assign rfl) rfl ?_
  refine WL.nil ?_
  refine W.seq (W.region ?_)
  refine WL.val (Value.pointer (some ⟨b1, 0, none⟩)) _ (op_fieldAddr fd_30_0 rfl) rfl ?_
  refine WL.val v_r_Table _ (op_load one_22 rfl (BoxAt.cell (BoxAt.lift hS8.ext hx6) rfl)) rfl ?_
  obtain ⟨x9, hx10, h⟩ := bs h
  refine WL.call _ (op_call fn_44 (args1 rfl)) (c_spec_l03Cube (Ty.lift _ (Ext.trans hE7 hS8.ext) r_r_Table) hx10) rfl ?_
  rintro _ wd11 ⟨rfl, he12⟩
  have hS14 := St.extend hS8 he12
  replace hS14 : St wd2 wd11 [] := hS14
  refine WL.val (Value.bool x9) _ (op_move rfl) rfl ?_
  obtain ⟨x16, hj17, h⟩ := bs h
  refine WL.cut 6 (fun fq wq => fq 12 = Value.bool x16 ∧ St wd2 wq []) ?_ ?_
  · rcases Bool.eq_false_or_eq_true x9 with hc15 | hc15
    · replace hj17 := ip hj17 hc15
      refine WL.grun rfl (bool_of rfl hc15) ?_
      refine WL.val (Value.pointer (some ⟨b1, 0, none⟩)) _ (op_fieldAddr fd_30_0 rfl) rfl ?_
      refine WL.grun rfl (bool_of rfl hc15) ?_
      refine WL.val v_r_Table _ (op_load one_22 rfl (BoxAt.cell (BoxAt.lift hS14.ext hx6) rfl)) rfl ?_
      refine WL.grun rfl (bool_of rfl hc15) ?_
      obtain ⟨x21, hx22, hj17⟩ := bs hj17
      refine WL.call _ (op_call fn_45 (args1 rfl)) (c_spec_l03Fault (Ty.lift _ (Ext.trans hE7 hS14.ext) r_r_Table) hx22) rfl ?_
      rintro u23 wd24 ⟨_, rfl, he25, hs26⟩
      have hS27 := St.join hS14 he25 hs26
      replace hS27 : St wd2 wd24 [(Ty.sl (Ty.i .i64)).at u23 x21] := hS27
      refine WL.grun rfl (bool_of rfl hc15) ?_
      have hr28 := inR_len (St.rep (t := (Ty.sl (Ty.i .i64))) hS27 0 rfl)
      refine WL.val (Value.int .i64 ((x21).length : Int)) _ (op_lenL sl_36 (St.rep (t := (Ty.sl (Ty.i .i64))) hS27 0 rfl) rfl) rfl ?_
      refine WL.grun rfl (bool_of rfl hc15) ?_
      refine WL.val (Value.bool (((x21).length : Int) == (0 : Int))) _ (op_eql rfl rfl) rfl ?_
      refine WL.val (Value.bool (((x21).length : Int) == (0 : Int))) _ (op_pick_t (evb_of rfl hc15) rfl) rfl ?_
      refine WL.nil ?_
      obtain rfl := Option.some.inj hj17
      exact ⟨rfl, rfl, (St.pick hS27 [] rfl)⟩
    · replace hj17 := inegb hj17 hc15
      refine WL.gskip rfl (bool_of rfl hc15) rfl ?_
      refine WL.gskip rfl (bool_of rfl hc15) rfl ?_
      refine WL.gskip rfl (bool_of rfl hc15) rfl ?_
      refine WL.gskip rfl (bool_of rfl hc15) rfl ?_
      refine WL.gskip rfl (bool_of rfl hc15) rfl ?_
      refine WL.val (Value.bool false) _ (op_pick_f (evb_of rfl hc15) rfl) rfl ?_
      refine WL.nil ?_
      obtain rfl := Option.some.inj hj17
      exact ⟨rfl, rfl, hS14⟩
  · intro f18 wd19 hq20
    obtain ⟨hf29, hS30⟩ := hq20
    refine WL.val (Value.bool x16) _ (op_assign hf29) rfl ?_
    refine WL.nil ?_
    refine W.ret ?_
    obtain rfl := Option.some.inj h
    show FinP _ _ _ _ _ _ _
    exact FinP.ret _ (res1 rfl rfl) ⟨rfl, (Ext.trans hE7 hS30.ext)⟩

theorem c_spec_l15Graph {w : World} {graph : (List (List Int))} {v_graph : Value} (r_graph : (Ty.sl (Ty.sl (Ty.i .i64))).rep w v_graph graph) {res : Bool} (h : p_spec_l15Graph graph  = some res) :
    Ret Try.prog 24 #[v_graph] w (fun v w' => v = Value.bool res ∧ Ext w w') := by
  unfold p_spec_l15Graph at h
  have hS0 : St w w [] := St.start w
  refine Ret.start (fn := Try.f24) Try.func24 rfl 82 rfl rfl ?_
  refine W.seq (W.region ?_)
  refine WL.val (Value.bool false) _ (op_assign rfl) rfl ?_
  refine WL.nil ?_
  refine W.seq (W.region ?_)
  refine WL.val (Value.int .i64 (0 : Int)) _ (op_assign rfl) rfl ?_
  refine WL.nil ?_
  refine W.seq (W.seq (W.region ?_))
  refine WL.val (Value.int .i64 (0 : Int)) _ (op_assign rfl) rfl ?_
  refine WL.nil ?_
  show W _ _ _ _ _ _
  obtain ⟨res1, hres2, h⟩ := bs h
  refine W.blockLoop (fun fq wq => ∃ s, res1 = Res.fin s ∧ fq 0 = v_graph ∧ fq 3 = Value.int .i64 s ∧ InR .i64 s ∧ St w wq []) ?_ ?_
  · refine W.forN (fun k (s : Int) fq wq => fq 0 = v_graph ∧ fq 3 = Value.int .i64 s ∧ InR .i64 s ∧ fq 4 = Value.int .i64 (k : Int) ∧ InR .i64 (k : Int) ∧ St w wq []) hres2 ⟨rfl, rfl, (inL rfl), rfl, (inL rfl), hS0⟩ ?_ ?_
    · intro k3 x4 ct5 f6 wd7 hk8 hb9 hI10 hbrk11 hret12
      replace hI10 : f6 0 = v_graph ∧ f6 3 = Value.int .i64 x4 ∧ InR .i64 x4 ∧ f6 4 = Value.int .i64 (k3 : Int) ∧ InR .i64 (k3 : Int) ∧ St w wd7 [] := hI10
      replace hb9 : p_spec_l15Graph_L1 graph k3 x4 = some ct5 := hb9
      unfold p_spec_l15Graph_L1 at hb9
      obtain ⟨hf13, hf14, hr15, hf16, hr17, hS18⟩ := hI10
      refine W.seq (W.seq (W.region ?_))
      refine WL.val (Value.int .i64 (k3 : Int)) _ (op_move hf16) rfl ?_
      refine WL.val v_graph _ (op_move hf13) rfl ?_
      have hr19 := inR_len (Ty.lift _ hS18.ext r_graph)
      refine WL.val (Value.int .i64 ((graph).length : Int)) _ (op_lenL sl_25 (Ty.lift _ hS18.ext r_graph) rfl) rfl ?_
      refine WL.val (Value.bool (decide ((k3 : Int) < ((graph).length : Int)))) _ (op_lss rfl rfl) rfl ?_
      have hl20 : (k3 : Int) < ((graph).length : Int) := by omega
      refine WL.nil ?_
      refine W.condT (decide ((k3 : Int) < ((graph).length : Int))) rfl (decide_eq_true hl20) ?_
      refine W.skip ?_
      refine W.seq ?_
      refine W.block ?_
      refine W.seq (W.seq (W.region ?_))
      refine WL.val v_graph _ (op_move hf13) rfl ?_
      refine WL.val (Value.int .i64 (k3 : Int)) _ (op_move hf16) rfl ?_
      obtain ⟨x22, hx25, hb9⟩ := bs hb9
      obtain ⟨ha23, hb24, hx25⟩ := idx_some hx25
      refine WL.val (Value.pointer (some (elA v_graph ((k3 : Int)).toNat))) _ (op_idx sl_25 (Ty.lift _ hS18.ext r_graph) rfl rfl ha23 hb24) rfl ?_
      obtain ⟨u26, hc27, hr28⟩ := repSl.el r_graph hx25
      refine WL.val u26 _ (op_load one_36 rfl (Ext.cell hS18.ext hc27)) rfl ?_
      have hr29 := inR_len (Ty.lift _ hS18.ext hr28)
      refine WL.val (Value.int .i64 ((x22).length : Int)) _ (op_lenL sl_36 (Ty.lift _ hS18.ext hr28) rfl) rfl ?_
      refine WL.val (Value.bool (((x22).length : Int) != (3 : Int))) _ (op_neq rfl rfl) rfl ?_
      refine WL.nil ?_
      refine W.cond (((x22).length : Int) != (3 : Int)) rfl (fun hc30 => ?_) (fun hc30 => ?_)
      · replace hb9 := ip hb9 hc30
        refine W.seq (W.region ?_)
        refine WL.val (Value.bool false) _ (op_assign rfl) rfl ?_
        refine WL.nil ?_
        refine W.ret ?_
        obtain rfl := Option.some.inj hb9
        obtain rfl := hret12 _ rfl
        replace h := onRes_ret h
        obtain rfl := Option.some.inj h
        show FinP _ _ _ _ _ _ _
        exact FinP.ret _ (res1 rfl rfl) ⟨rfl, hS18.ext⟩
      · replace hb9 := inegb hb9 hc30
        refine W.skip ?_
        show W _ _ _ _ _ _
        refine W.region ?_
        refine WL.val (Value.int .i64 x4) _ (op_move hf14) rfl ?_
        refine WL.val (Value.int .i64 (w64 (x4 + (3 : Int)))) _ (op_add rfl rfl) rfl ?_
        refine WL.val (Value.int .i64 (w64 (x4 + (3 : Int)))) _ (op_assign rfl) rfl ?_
        refine WL.nil ?_
        show W _ _ _ _ _ _
        refine W.region ?_
        refine WL.val (Value.int .i64 (k3 : Int)) _ (op_move hf16) rfl ?_
        refine WL.val (Value.int .i64 (w64 ((k3 : Int) + (1 : Int)))) _ (op_add rfl rfl) rfl ?_
        refine WL.val (Value.int .i64 (w64 ((k3 : Int) + (1 : Int)))) _ (op_assign rfl) rfl ?_
        refine WL.nil ?_
        obtain rfl := Option.some.inj hb9
        show ∃ s, _ = Ctl.next s ∧ _
        exact ⟨_, rfl, hf13, rfl, (inR_wrap _ _), (ctr_next hl20 hr19), (ctr_rng hl20 hr19), hS18⟩
    · intro x38 f33 wd34 hs35 hI36
      replace hI36 : f33 0 = v_graph ∧ f33 3 = Value.int .i64 x38 ∧ InR .i64 x38 ∧ f33 4 = Value.int .i64 (((graph).length : Nat) : Int) ∧ InR .i64 (((graph).length : Nat) : Int) ∧ St w wd34 [] := hI36
      obtain ⟨hf39, hf40, hr41, hf42, hr43, hS44⟩ := hI36
      refine W.seq (W.seq (W.region ?_))
      refine WL.val (Value.int .i64 (((graph).length : Nat) : Int)) _ (op_move hf42) rfl ?_
      refine WL.val v_graph _ (op_move hf39) rfl ?_
      have hr45 := inR_len (Ty.lift _ hS44.ext r_graph)
      refine WL.val (Value.int .i64 ((graph).length : Int)) _ (op_lenL sl_25 (Ty.lift _ hS44.ext r_graph) rfl) rfl ?_
      refine WL.val (Value.bool (decide ((((graph).length : Nat) : Int) < ((graph).length : Int)))) _ (op_lss rfl rfl) rfl ?_
      have hl46 : ¬ (((graph).length : Nat) : Int) < ((graph).length : Int) := by omega
      refine WL.nil ?_
      refine W.condF (decide ((((graph).length : Nat) : Int) < ((graph).length : Int))) rfl (decide_eq_false hl46) ?_
      refine W.exit ?_
      show _ = _ ∧ _
      exact ⟨rfl, _, hs35, hf39, hf40, hr41, hS44⟩
  · rintro f47 wd48 ⟨x51, rfl, hq49⟩
    replace h := onRes_fin h
    replace hq49 : f47 0 = v_graph ∧ f47 3 = Value.int .i64 x51 ∧ InR .i64 x51 ∧ St w wd48 [] := hq49
    obtain ⟨hf52, hf53, hr54, hS55⟩ := hq49
    refine W.seq (W.seq (W.region ?_))
    refine WL.val (Value.int .i64 x51) _ (op_move hf53) rfl ?_
    refine WL.val (Value.int .i64 ((x51).tmod (2 : Int))) _ (op_rem (b := 2) rfl rfl (by decide)) rfl ?_
    refine WL.val (Value.bool (((x51).tmod (2 : Int)) != (0 : Int))) _ (op_neq rfl rfl) rfl ?_
    refine WL.val (Value.bool (((x51).tmod (2 : Int)) != (0 : Int))) _ (op_move rfl) rfl ?_
    refine WL.cut 3 (fun fq wq => fq 0 = v_graph ∧ fq 3 = (Value.int .i64 x51) ∧ fq 29 = (Value.bool ((((x51).tmod (2 : Int)) != (0 : Int)) || (decide (x51 < (2 : Int))))) ∧ St w wq []) ?_ ?_
    · rcases Bool.eq_false_or_eq_true (((x51).tmod (2 : Int)) != (0 : Int)) with hc56 | hc56
      · refine WL.gskip rfl (bool_of rfl hc56) rfl ?_
        refine WL.gskip rfl (bool_of rfl hc56) rfl ?_
        refine WL.val (Value.bool true) _ (op_pick_t (evb_of rfl hc56) rfl) rfl ?_
        refine WL.nil ?_
        exact ⟨rfl, hf52, hf53, (orT hc56), hS55⟩
      · refine WL.grun rfl (bool_of rfl hc56) ?_
        refine WL.val (Value.int .i64 x51) _ (op_move hf53) rfl ?_
        refine WL.grun rfl (bool_of rfl hc56) ?_
        refine WL.val (Value.bool (decide (x51 < (2 : Int)))) _ (op_lss rfl rfl) rfl ?_
        refine WL.val (Value.bool (decide (x51 < (2 : Int)))) _ (op_pick_f (evb_of rfl hc56) rfl) rfl ?_
        refine WL.nil ?_
        exact ⟨rfl, hf52, hf53, (orF hc56), hS55⟩
    · intro f57 wd58 hq59
      obtain ⟨hf60, hf61, hf62, hS63⟩ := hq59
      refine WL.val (Value.bool ((((x51).tmod (2 : Int)) != (0 : Int)) || (decide (x51 < (2 : Int))))) _ (op_move hf62) rfl ?_
      refine WL.cut 3 (fun fq wq => fq 0 = v_graph ∧ fq 3 = (Value.int .i64 x51) ∧ fq 33 = (Value.bool (((((x51).tmod (2 : Int)) != (0 : Int)) || (decide (x51 < (2 : Int)))) || (decide (x51 > (18 : Int))))) ∧ St w wq []) ?_ ?_
      · rcases Bool.eq_false_or_eq_true ((((x51).tmod (2 : Int)) != (0 : Int)) || (decide (x51 < (2 : Int)))) with hc64 | hc64
        · refine WL.gskip rfl (bool_of rfl hc64) rfl ?_
          refine WL.gskip rfl (bool_of rfl hc64) rfl ?_
          refine WL.val (Value.bool true) _ (op_pick_t (evb_of rfl hc64) rfl) rfl ?_
          refine WL.nil ?_
          exact ⟨rfl, hf60, hf61, (orT hc64), hS63⟩
        · refine WL.grun rfl (bool_of rfl hc64) ?_
          refine WL.val (Value.int .i64 x51) _ (op_move hf61) rfl ?_
          refine WL.grun rfl (bool_of rfl hc64) ?_
          refine WL.val (Value.bool (decide (x51 > (18 : Int)))) _ (op_gtr rfl rfl) rfl ?_
          refine WL.val (Value.bool (decide (x51 > (18 : Int)))) _ (op_pick_f (evb_of rfl hc64) rfl) rfl ?_
          refine WL.nil ?_
          exact ⟨rfl, hf60, hf61, (orF hc64), hS63⟩
      · intro f65 wd66 hq67
        obtain ⟨hf68, hf69, hf70, hS71⟩ := hq67
        refine WL.nil ?_
        refine W.cond (((((x51).tmod (2 : Int)) != (0 : Int)) || (decide (x51 < (2 : Int)))) || (decide (x51 > (18 : Int)))) hf70 (fun hc72 => ?_) (fun hc72 => ?_)
        · replace h := ip h hc72
          refine W.seq (W.region ?_)
          refine WL.val (Value.bool false) _ (op_assign rfl) rfl ?_
          refine WL.nil ?_
          refine W.ret ?_
          obtain rfl := Option.some.inj h
          show FinP _ _ _ _ _ _ _
          exact FinP.ret _ (res1 rfl rfl) ⟨rfl, hS71.ext⟩
        · replace h := inegb h hc72
          refine W.skip ?_
          refine W.seq (W.region ?_)
          refine WL.val (Value.int .i64 x51) _ (op_move hf69) rfl ?_
          refine WL.val (Value.int .i64 (w64 ((x51).tdiv (2 : Int)))) _ (op_quo (b := 2) rfl rfl (by decide)) rfl ?_
          obtain ⟨x74, hx75, h⟩ := bs h
          refine WL.make (t := (Ty.i .i64)) hS71 sl_52 (fun _ _ => ⟨rfl, (inL rfl)⟩) rfl rfl hx75 rfl rfl ?_
          intro u76 wd77 hS78 he79
          replace hS78 : St w wd77 [(Ty.sl (Ty.i .i64)).at u76 x74] := hS78
          refine WL.val u76 _ (op_assign rfl) rfl ?_
          refine WL.nil ?_
          refine W.seq (W.seq (W.region ?_))
          refine WL.val (Value.int .i64 (0 : Int)) _ (op_assign rfl) rfl ?_
          refine WL.nil ?_
          show W _ _ _ _ _ _
          obtain ⟨res80, hres81, h⟩ := bs h
          refine W.blockLoop (fun fq wq => ∃ s, res80 = Res.fin s ∧ fq 5 = u76 ∧ St w wq [(Ty.sl (Ty.i .i64)).at u76 s]) ?_ ?_
          · refine W.forN (fun k (s : (List Int)) fq wq => fq 0 = v_graph ∧ fq 5 = u76 ∧ fq 6 = Value.int .i64 (k : Int) ∧ InR .i64 (k : Int) ∧ St w wq [(Ty.sl (Ty.i .i64)).at u76 s]) hres81 ⟨hf68, rfl, rfl, (inL rfl), hS78⟩ ?_ ?_
            · intro k82 x83 ct84 f85 wd86 hk87 hb88 hI89 hbrk90 hret91
              replace hI89 : f85 0 = v_graph ∧ f85 5 = u76 ∧ f85 6 = Value.int .i64 (k82 : Int) ∧ InR .i64 (k82 : Int) ∧ St w wd86 [(Ty.sl (Ty.i .i64)).at u76 x83] := hI89
              replace hb88 : p_spec_l15Graph_L2 graph k82 x83 = some ct84 := hb88
              unfold p_spec_l15Graph_L2 at hb88
              obtain ⟨hf92, hf93, hf94, hr95, hS96⟩ := hI89
              refine W.seq (W.seq (W.region ?_))
              refine WL.val (Value.int .i64 (k82 : Int)) _ (op_move hf94) rfl ?_
              refine WL.val v_graph _ (op_move hf92) rfl ?_
              have hr97 := inR_len (Ty.lift _ hS96.ext r_graph)
              refine WL.val (Value.int .i64 ((graph).length : Int)) _ (op_lenL sl_25 (Ty.lift _ hS96.ext r_graph) rfl) rfl ?_
              refine WL.val (Value.bool (decide ((k82 : Int) < ((graph).length : Int)))) _ (op_lss rfl rfl) rfl ?_
              have hl98 : (k82 : Int) < ((graph).length : Int) := by omega
              refine WL.nil ?_
              refine W.condT (decide ((k82 : Int) < ((graph).length : Int))) rfl (decide_eq_true hl98) ?_
              refine W.skip ?_
              refine W.seq ?_
              refine W.block ?_
              refine W.seq (W.region ?_)
              refine WL.val (Value.int .i64 (0 : Int)) _ (op_assign rfl) rfl ?_
              refine WL.nil ?_
              show W _ _ _ _ _ _
              obtain ⟨res100, hres101, hb88⟩ := bs hb88
              refine W.blockLoop (fun fq wq => ∃ s, res100 = Res.fin s ∧ fq 0 = v_graph ∧ fq 5 = u76 ∧ fq 6 = (Value.int .i64 (k82 : Int)) ∧ St w wq [(Ty.sl (Ty.i .i64)).at u76 s]) ?_ ?_
              · refine W.forN (fun k (s : (List Int)) fq wq => fq 0 = v_graph ∧ fq 5 = u76 ∧ fq 6 = (Value.int .i64 (k82 : Int)) ∧ fq 7 = Value.int .i64 (k : Int) ∧ InR .i64 (k : Int) ∧ St w wq [(Ty.sl (Ty.i .i64)).at u76 s]) hres101 ⟨hf92, hf93, hf94, rfl, (inL rfl), hS96⟩ ?_ ?_
                · intro k102 x103 ct104 f105 wd106 hk107 hb108 hI109 hbrk110 hret111
                  replace hI109 : f105 0 = v_graph ∧ f105 5 = u76 ∧ f105 6 = (Value.int .i64 (k82 : Int)) ∧ f105 7 = Value.int .i64 (k102 : Int) ∧ InR .i64 (k102 : Int) ∧ St w wd106 [(Ty.sl (Ty.i .i64)).at u76 x103] := hI109
                  replace hb108 : p_spec_l15Graph_L3 graph k82 k102 x103 = some ct104 := hb108
                  unfold p_spec_l15Graph_L3 at hb108
                  obtain ⟨hf112, hf113, hf114, hf115, hr116, hS117⟩ := hI109
                  refine W.seq (W.seq (W.region ?_))
                  refine WL.val (Value.int .i64 (k102 : Int)) _ (op_move hf115) rfl ?_
                  refine WL.val (Value.bool (decide ((k102 : Int) < (3 : Int)))) _ (op_lss rfl rfl) rfl ?_
                  have hl118 : (k102 : Int) < (3 : Int) := by omega
                  refine WL.nil ?_
                  refine W.condT (decide ((k102 : Int) < (3 : Int))) rfl (decide_eq_true hl118) ?_
                  refine W.skip ?_
                  refine W.seq ?_
                  refine W.block ?_
                  refine W.seq (W.seq (W.region ?_))
                  refine WL.val v_graph _ (op_move hf112) rfl ?_
                  refine WL.val (Value.int .i64 (k82 : Int)) _ (op_move hf114) rfl ?_
                  obtain ⟨x120, hx123, hb108⟩ := bs hb108
                  obtain ⟨ha121, hb122, hx123⟩ := idx_some hx123
                  refine WL.val (Value.pointer (some (elA v_graph ((k82 : Int)).toNat))) _ (op_idx sl_25 (Ty.lift _ hS117.ext r_graph) rfl rfl ha121 hb122) rfl ?_
                  obtain ⟨u124, hc125, hr126⟩ := repSl.el r_graph hx123
                  refine WL.val u124 _ (op_load one_36 rfl (Ext.cell hS117.ext hc125)) rfl ?_
                  refine WL.val (Value.int .i64 (k102 : Int)) _ (op_move hf115) rfl ?_
                  obtain ⟨x127, hx130, hb108⟩ := bs hb108
                  obtain ⟨ha128, hb129, hx130⟩ := idx_some hx130
                  refine WL.val (Value.pointer (some (elA u124 ((k102 : Int)).toNat))) _ (op_idx sl_36 (Ty.lift _ hS117.ext hr126) rfl rfl ha128 hb129) rfl ?_
                  obtain ⟨u131, hc132, hr133⟩ := repSl.el hr126 hx130
                  obtain ⟨rfl, hr133⟩ := hr133
                  refine WL.val (Value.int .i64 x127) _ (op_load one_2 rfl (Ext.cell hS117.ext hc132)) rfl ?_
                  refine WL.val u76 _ (op_move hf113) rfl ?_
                  have hr134 := inR_len (St.rep (t := (Ty.sl (Ty.i .i64))) hS117 0 rfl)
                  refine WL.val (Value.int .i64 ((x103).length : Int)) _ (op_lenL sl_52 (St.rep (t := (Ty.sl (Ty.i .i64))) hS117 0 rfl) rfl) rfl ?_
                  refine WL.val (Value.int .i64 (w64 (((x103).length : Int) - (1 : Int)))) _ (op_sub rfl rfl) rfl ?_
                  obtain ⟨x135, hx136, hb108⟩ := bs hb108
                  refine WL.call _ (op_call fn_46 (args3 rfl rfl rfl)) (c_spec_l01In hr133 (inL rfl) (inR_wrap _ _) hx136) rfl ?_
                  rintro _ wd137 ⟨rfl, he138⟩
                  have hS140 := St.extend hS117 he138
                  replace hS140 : St w wd137 [(Ty.sl (Ty.i .i64)).at u76 x103] := hS140
                  refine WL.val (Value.bool (!x135)) _ (op_not rfl) rfl ?_
                  refine WL.nil ?_
                  refine W.cond (!x135) rfl (fun hc141 => ?_) (fun hc141 => ?_)
                  · replace hb108 := ip hb108 hc141
                    refine W.seq (W.region ?_)
                    refine WL.val (Value.bool false) _ (op_assign rfl) rfl ?_
                    refine WL.nil ?_
                    refine W.ret ?_
                    obtain rfl := Option.some.inj hb108
                    obtain rfl := hret111 _ rfl
                    replace hb88 := onRes_ret hb88
                    obtain rfl := Option.some.inj hb88
                    obtain rfl := hret91 _ rfl
                    replace h := onRes_ret h
                    obtain rfl := Option.some.inj h
                    show FinP _ _ _ _ _ _ _
                    exact FinP.ret _ (res1 rfl rfl) ⟨rfl, hS140.ext⟩
                  · replace hb108 := inegb hb108 hc141
                    refine W.skip ?_
                    show W _ _ _ _ _ _
                    refine W.region ?_
                    refine WL.val u76 _ (op_move hf113) rfl ?_
                    refine WL.val v_graph _ (op_move hf112) rfl ?_
                    refine WL.val (Value.int .i64 (k82 : Int)) _ (op_move hf114) rfl ?_
                    refine WL.val (Value.pointer (some (elA v_graph ((k82 : Int)).toNat))) _ (op_idx sl_25 (Ty.lift _ hS140.ext r_graph) rfl rfl ha121 hb122) rfl ?_
                    obtain ⟨u143, hc144, hr145⟩ := repSl.el r_graph hx123
                    refine WL.val u143 _ (op_load one_36 rfl (Ext.cell hS140.ext hc144)) rfl ?_
                    refine WL.val (Value.int .i64 (k102 : Int)) _ (op_move hf115) rfl ?_
                    refine WL.val (Value.pointer (some (elA u143 ((k102 : Int)).toNat))) _ (op_idx sl_36 (Ty.lift _ hS140.ext hr145) rfl rfl ha128 hb129) rfl ?_
                    obtain ⟨u146, hc147, hr148⟩ := repSl.el hr145 hx130
                    obtain ⟨rfl, hr148⟩ := hr148
                    refine WL.val (Value.int .i64 x127) _ (op_load one_2 rfl (Ext.cell hS140.ext hc147)) rfl ?_
                    obtain ⟨x149, hx152, hb108⟩ := bs hb108
                    obtain ⟨ha150, hb151, hx152⟩ := idx_some hx152
                    refine WL.val (Value.pointer (some (elA u76 (x127).toNat))) _ (op_idx sl_52 (St.rep (t := (Ty.sl (Ty.i .i64))) hS140 0 rfl) rfl rfl ha150 hb151) rfl ?_
                    obtain ⟨u153, hc154, hr155⟩ := repSl.el (St.rep (t := (Ty.sl (Ty.i .i64))) hS140 0 rfl) hx152
                    obtain ⟨rfl, hr155⟩ := hr155
                    refine WL.val (Value.int .i64 x149) _ (op_load one_3 rfl hc154) rfl ?_
                    refine WL.val (Value.int .i64 (w64 (x149 + (1 : Int)))) _ (op_add rfl rfl) rfl ?_
                    refine WL.val (Value.pointer (some (elA u76 (x127).toNat))) _ (op_idx sl_52 (St.rep (t := (Ty.sl (Ty.i .i64))) hS140 0 rfl) rfl rfl ha150 hb151) rfl ?_
                    refine WL.storeEl (flat_i .i64) hS140 (k := 0) rfl sz_3 rfl rfl (lt_of_idx ha150 hb151) ⟨rfl, (inR_wrap _ _)⟩ ?_
                    intro wd156 hS157
                    replace hS157 : St w wd156 [(Ty.sl (Ty.i .i64)).at u76 ((x103).set (x127).toNat (w64 (x149 + (1 : Int))))] := hS157
                    refine WL.nil ?_
                    show W _ _ _ _ _ _
                    refine W.region ?_
                    refine WL.val (Value.int .i64 (k102 : Int)) _ (op_move hf115) rfl ?_
                    refine WL.val (Value.int .i64 (w64 ((k102 : Int) + (1 : Int)))) _ (op_add rfl rfl) rfl ?_
                    refine WL.val (Value.int .i64 (w64 ((k102 : Int) + (1 : Int)))) _ (op_assign rfl) rfl ?_
                    refine WL.nil ?_
                    obtain rfl := Option.some.inj hb108
                    show ∃ s, _ = Ctl.next s ∧ _
                    exact ⟨_, rfl, hf112, hf113, hf114, (ctr_next hl118 (inL rfl)), (ctr_rng hl118 (inL rfl)), hS157⟩
                · intro x164 f159 wd160 hs161 hI162
                  replace hI162 : f159 0 = v_graph ∧ f159 5 = u76 ∧ f159 6 = (Value.int .i64 (k82 : Int)) ∧ f159 7 = Value.int .i64 ((((3 : Int)).toNat : Nat) : Int) ∧ InR .i64 ((((3 : Int)).toNat : Nat) : Int) ∧ St w wd160 [(Ty.sl (Ty.i .i64)).at u76 x164] := hI162
                  obtain ⟨hf165, hf166, hf167, hf168, hr169, hS170⟩ := hI162
                  refine W.seq (W.seq (W.region ?_))
                  refine WL.val (Value.int .i64 ((((3 : Int)).toNat : Nat) : Int)) _ (op_move hf168) rfl ?_
                  refine WL.val (Value.bool (decide (((((3 : Int)).toNat : Nat) : Int) < (3 : Int)))) _ (op_lss rfl rfl) rfl ?_
                  have hl171 : ¬ ((((3 : Int)).toNat : Nat) : Int) < (3 : Int) := by omega
                  refine WL.nil ?_
                  refine W.condF (decide (((((3 : Int)).toNat : Nat) : Int) < (3 : Int))) rfl (decide_eq_false hl171) ?_
                  refine W.exit ?_
                  show _ = _ ∧ _
                  exact ⟨rfl, _, hs161, hf165, hf166, hf167, hS170⟩
              · rintro f172 wd173 ⟨x176, rfl, hq174⟩
                replace hb88 := onRes_fin hb88
                replace hq174 : f172 0 = v_graph ∧ f172 5 = u76 ∧ f172 6 = (Value.int .i64 (k82 : Int)) ∧ St w wd173 [(Ty.sl (Ty.i .i64)).at u76 x176] := hq174
                obtain ⟨hf177, hf178, hf179, hS180⟩ := hq174
                show W _ _ _ _ _ _
                refine W.region ?_
                refine WL.val (Value.int .i64 (k82 : Int)) _ (op_move hf179) rfl ?_
                refine WL.val (Value.int .i64 (w64 ((k82 : Int) + (1 : Int)))) _ (op_add rfl rfl) rfl ?_
                refine WL.val (Value.int .i64 (w64 ((k82 : Int) + (1 : Int)))) _ (op_assign rfl) rfl ?_
                refine WL.nil ?_
                obtain rfl := Option.some.inj hb88
                show ∃ s, _ = Ctl.next s ∧ _
                exact ⟨_, rfl, hf177, hf178, (ctr_next hl98 hr97), (ctr_rng hl98 hr97), hS180⟩
            · intro x188 f183 wd184 hs185 hI186
              replace hI186 : f183 0 = v_graph ∧ f183 5 = u76 ∧ f183 6 = Value.int .i64 (((graph).length : Nat) : Int) ∧ InR .i64 (((graph).length : Nat) : Int) ∧ St w wd184 [(Ty.sl (Ty.i .i64)).at u76 x188] := hI186
              obtain ⟨hf189, hf190, hf191, hr192, hS193⟩ := hI186
              refine W.seq (W.seq (W.region ?_))
              refine WL.val (Value.int .i64 (((graph).length : Nat) : Int)) _ (op_move hf191) rfl ?_
              refine WL.val v_graph _ (op_move hf189) rfl ?_
              have hr194 := inR_len (Ty.lift _ hS193.ext r_graph)
              refine WL.val (Value.int .i64 ((graph).length : Int)) _ (op_lenL sl_25 (Ty.lift _ hS193.ext r_graph) rfl) rfl ?_
              refine WL.val (Value.bool (decide ((((graph).length : Nat) : Int) < ((graph).length : Int)))) _ (op_lss rfl rfl) rfl ?_
              have hl195 : ¬ (((graph).length : Nat) : Int) < ((graph).length : Int) := by omega
              refine WL.nil ?_
              refine W.condF (decide ((((graph).length : Nat) : Int) < ((graph).length : Int))) rfl (decide_eq_false hl195) ?_
              refine W.exit ?_
              show _ = _ ∧ _
              exact ⟨rfl, _, hs185, hf190, hS193⟩
          · rintro f196 wd197 ⟨x200, rfl, hq198⟩
            replace h := onRes_fin h
            replace hq198 : f196 5 = u76 ∧ St w wd197 [(Ty.sl (Ty.i .i64)).at u76 x200] := hq198
            obtain ⟨hf201, hS202⟩ := hq198
            refine W.seq (W.seq (W.region ?_))
            refine WL.val (Value.int .i64 (0 : Int)) _ (op_assign rfl) rfl ?_
            refine WL.nil ?_
            show W _ _ _ _ _ _
            obtain ⟨res203, hres204, h⟩ := bs h
            refine W.blockLoop (fun fq wq => ∃ s, res203 = Res.fin s ∧ St w wq []) ?_ ?_
            · refine W.forN (fun k (s : Unit) fq wq => fq 5 = u76 ∧ fq 8 = Value.int .i64 (k : Int) ∧ InR .i64 (k : Int) ∧ St w wq [(Ty.sl (Ty.i .i64)).at u76 x200]) hres204 ⟨hf201, rfl, (inL rfl), hS202⟩ ?_ ?_
              · intro k205 s230 ct206 f207 wd208 hk209 hb210 hI211 hbrk212 hret213
                obtain ⟨⟩ := s230
                replace hI211 : f207 5 = u76 ∧ f207 8 = Value.int .i64 (k205 : Int) ∧ InR .i64 (k205 : Int) ∧ St w wd208 [(Ty.sl (Ty.i .i64)).at u76 x200] := hI211
                replace hb210 : p_spec_l15Graph_L4 x200 k205  = some ct206 := hb210
                unfold p_spec_l15Graph_L4 at hb210
                obtain ⟨hf214, hf215, hr216, hS217⟩ := hI211
                refine W.seq (W.seq (W.region ?_))
                refine WL.val (Value.int .i64 (k205 : Int)) _ (op_move hf215) rfl ?_
                refine WL.val u76 _ (op_move hf214) rfl ?_
                have hr218 := inR_len (St.rep (t := (Ty.sl (Ty.i .i64))) hS217 0 rfl)
                refine WL.val (Value.int .i64 ((x200).length : Int)) _ (op_lenL sl_52 (St.rep (t := (Ty.sl (Ty.i .i64))) hS217 0 rfl) rfl) rfl ?_
                refine WL.val (Value.bool (decide ((k205 : Int) < ((x200).length : Int)))) _ (op_lss rfl rfl) rfl ?_
                have hl219 : (k205 : Int) < ((x200).length : Int) := by omega
                refine WL.nil ?_
                refine W.condT (decide ((k205 : Int) < ((x200).length : Int))) rfl (decide_eq_true hl219) ?_
                refine W.skip ?_
                refine W.seq ?_
                refine W.block ?_
                refine W.seq (W.region ?_)
                refine WL.val u76 _ (op_move hf214) rfl ?_
                refine WL.val (Value.int .i64 (k205 : Int)) _ (op_move hf215) rfl ?_
                obtain ⟨x221, hx224, hb210⟩ := bs hb210
                obtain ⟨ha222, hb223, hx224⟩ := idx_some hx224
                refine WL.val (Value.pointer (some (elA u76 ((k205 : Int)).toNat))) _ (op_idx sl_52 (St.rep (t := (Ty.sl (Ty.i .i64))) hS217 0 rfl) rfl rfl ha222 hb223) rfl ?_
                obtain ⟨u225, hc226, hr227⟩ := repSl.el (St.rep (t := (Ty.sl (Ty.i .i64))) hS217 0 rfl) hx224
                obtain ⟨rfl, hr227⟩ := hr227
                refine WL.val (Value.int .i64 x221) _ (op_load one_3 rfl hc226) rfl ?_
                refine WL.val (Value.bool (x221 != (2 : Int))) _ (op_neq rfl rfl) rfl ?_
                refine WL.nil ?_
                refine W.cond (x221 != (2 : Int)) rfl (fun hc228 => ?_) (fun hc228 => ?_)
                · replace hb210 := ip hb210 hc228
                  refine W.seq (W.region ?_)
                  refine WL.val (Value.bool false) _ (op_assign rfl) rfl ?_
                  refine WL.nil ?_
                  refine W.ret ?_
                  obtain rfl := Option.some.inj hb210
                  obtain rfl := hret213 _ rfl
                  replace h := onRes_ret h
                  obtain rfl := Option.some.inj h
                  show FinP _ _ _ _ _ _ _
                  exact FinP.ret _ (res1 rfl rfl) ⟨rfl, hS217.ext⟩
                · replace hb210 := inegb hb210 hc228
                  refine W.skip ?_
                  show W _ _ _ _ _ _
                  refine W.region ?_
                  refine WL.val (Value.int .i64 (k205 : Int)) _ (op_move hf215) rfl ?_
                  refine WL.val (Value.int .i64 (w64 ((k205 : Int) + (1 : Int)))) _ (op_add rfl rfl) rfl ?_
                  refine WL.val (Value.int .i64 (w64 ((k205 : Int) + (1 : Int)))) _ (op_assign rfl) rfl ?_
                  refine WL.nil ?_
                  obtain rfl := Option.some.inj hb210
                  show ∃ s, _ = Ctl.next s ∧ _
                  exact ⟨_, rfl, hf214, (ctr_next hl219 hr218), (ctr_rng hl219 hr218), hS217⟩
              · intro s235 f231 wd232 hs233 hI234
                obtain ⟨⟩ := s235
                replace hI234 : f231 5 = u76 ∧ f231 8 = Value.int .i64 (((x200).length : Nat) : Int) ∧ InR .i64 (((x200).length : Nat) : Int) ∧ St w wd232 [(Ty.sl (Ty.i .i64)).at u76 x200] := hI234
                obtain ⟨hf236, hf237, hr238, hS239⟩ := hI234
                refine W.seq (W.seq (W.region ?_))
                refine WL.val (Value.int .i64 (((x200).length : Nat) : Int)) _ (op_move hf237) rfl ?_
                refine WL.val u76 _ (op_move hf236) rfl ?_
                have hr240 := inR_len (St.rep (t := (Ty.sl (Ty.i .i64))) hS239 0 rfl)
                refine WL.val (Value.int .i64 ((x200).length : Int)) _ (op_lenL sl_52 (St.rep (t := (Ty.sl (Ty.i .i64))) hS239 0 rfl) rfl) rfl ?_
                refine WL.val (Value.bool (decide ((((x200).length : Nat) : Int) < ((x200).length : Int)))) _ (op_lss rfl rfl) rfl ?_
                have hl241 : ¬ (((x200).length : Nat) : Int) < ((x200).length : Int) := by omega
                refine WL.nil ?_
                refine W.condF (decide ((((x200).length : Nat) : Int) < ((x200).length : Int))) rfl (decide_eq_false hl241) ?_
                refine W.exit ?_
                show _ = _ ∧ _
                exact ⟨rfl, _, hs233, (St.pick hS239 [] rfl)⟩
            · rintro f242 wd243 ⟨s245, rfl, hq244⟩
              replace h := onRes_fin h
              obtain ⟨⟩ := s245
              replace hq244 : St w wd243 [] := hq244
              have hS246 := hq244
              refine W.seq (W.region ?_)
              refine WL.val (Value.bool true) _ (op_assign rfl) rfl ?_
              refine WL.nil ?_
              refine W.ret ?_
              obtain rfl := Option.some.inj h
              show FinP _ _ _ _ _ _ _
              exact FinP.ret _ (res1 rfl rfl) ⟨rfl, hS246.ext⟩

end Go.VG
