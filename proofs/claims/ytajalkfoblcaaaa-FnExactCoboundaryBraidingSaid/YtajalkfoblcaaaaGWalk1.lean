/- The walks, part 1: each Go function returns what its plain twin returns. No condition beyond what each names. -/
import Derived.Test.YtajalkfoblcaaaaGPure
import Derived.Test.YtajalkfoblcaaaaGFacts
set_option linter.all false
namespace Go.VG
open Go.Proofs
attribute [local irreducible] W WL Sep FinP

theorem c_laws_szInt64S {w : World} {a : (List Int)} {v_a : Value} {left : Int} (r_a : (Ty.sl (Ty.i .i64)).rep w v_a a) (r_left : InR .i64 left) {res : Int} (h : p_laws_szInt64S a left  = some res) :
    Ret Try.prog 36 #[v_a, (Value.int .i64 left)] w (fun v w' => v = Value.int .i64 res ∧ InR .i64 res ∧ Ext w w') := by
  unfold p_laws_szInt64S at h
  have hS0 : St w w [] := St.start w
  refine Ret.start (fn := Try.f36) Try.func36 rfl 12 rfl rfl ?_
  refine W.seq (W.region ?_)
  refine WL.val (Value.int .i64 (0 : Int)) _ (op_assign rfl) rfl ?_
  refine WL.nil ?_
  show W _ _ _ _ _ _
  refine W.seq (W.region ?_)
  refine WL.val (Value.int .i64 left) _ (op_move rfl) rfl ?_
  refine WL.val v_a _ (op_move rfl) rfl ?_
  have hr1 := inR_len (Ty.lift _ hS0.ext r_a)
  refine WL.val (Value.int .i64 ((a).length : Int)) _ (op_lenL sl_22 (Ty.lift _ hS0.ext r_a) rfl) rfl ?_
  refine WL.val (Value.int .i64 (w64 (left - ((a).length : Int)))) _ (op_sub rfl rfl) rfl ?_
  refine WL.val (Value.int .i64 (w64 (left - ((a).length : Int)))) _ (op_assign rfl) rfl ?_
  refine WL.nil ?_
  show W _ _ _ _ _ _
  refine W.seq (W.seq (W.region ?_))
  refine WL.val (Value.int .i64 (w64 (left - ((a).length : Int)))) _ (op_move rfl) rfl ?_
  refine WL.val (Value.bool (decide ((w64 (left - ((a).length : Int))) < (0 : Int)))) _ (op_lss rfl rfl) rfl ?_
  refine WL.nil ?_
  show W _ _ _ _ _ _
  refine W.cond (decide ((w64 (left - ((a).length : Int))) < (0 : Int))) rfl (fun hc2 => ?_) (fun hc2 => ?_)
  · replace h := ip h hc2
    refine W.seq (W.region ?_)
    refine WL.val (Value.int .i64 (-1 : Int)) _ (op_assign rfl) rfl ?_
    refine WL.nil ?_
    show W _ _ _ _ _ _
    refine W.ret ?_
    obtain rfl := Option.some.inj h
    show FinP _ _ _ _ _ _ _
    exact FinP.ret _ (res1 rfl rfl) ⟨rfl, (inR_i64.2 (show (-9223372036854775808 : Int) ≤ -1 ∧ (-1 : Int) ≤ 9223372036854775807 from by decide)), hS0.ext⟩
  · replace h := inegb h hc2
    refine W.skip ?_
    show W _ _ _ _ _ _
    refine W.seq (W.region ?_)
    refine WL.val (Value.int .i64 (w64 (left - ((a).length : Int)))) _ (op_move rfl) rfl ?_
    refine WL.val (Value.int .i64 (w64 (left - ((a).length : Int)))) _ (op_assign rfl) rfl ?_
    refine WL.nil ?_
    show W _ _ _ _ _ _
    refine W.ret ?_
    obtain rfl := Option.some.inj h
    show FinP _ _ _ _ _ _ _
    exact FinP.ret _ (res1 rfl rfl) ⟨rfl, (inR_wrap _ _), hS0.ext⟩

theorem c_laws_szInt64SS {w : World} {a : (List (List Int))} {v_a : Value} {left : Int} (r_a : (Ty.sl (Ty.sl (Ty.i .i64))).rep w v_a a) (r_left : InR .i64 left) {res : Int} (h : p_laws_szInt64SS a left  = some res) :
    Ret Try.prog 22 #[v_a, (Value.int .i64 left)] w (fun v w' => v = Value.int .i64 res ∧ InR .i64 res ∧ Ext w w') := by
  unfold p_laws_szInt64SS at h
  have hS0 : St w w [] := St.start w
  refine Ret.start (fn := Try.f22) Try.func22 rfl 27 rfl rfl ?_
  refine W.seq (W.region ?_)
  refine WL.val (Value.int .i64 (0 : Int)) _ (op_assign rfl) rfl ?_
  refine WL.nil ?_
  show W _ _ _ _ _ _
  refine W.seq (W.region ?_)
  refine WL.val (Value.int .i64 left) _ (op_move rfl) rfl ?_
  refine WL.val v_a _ (op_move rfl) rfl ?_
  have hr1 := inR_len (Ty.lift _ hS0.ext r_a)
  refine WL.val (Value.int .i64 ((a).length : Int)) _ (op_lenL sl_27 (Ty.lift _ hS0.ext r_a) rfl) rfl ?_
  refine WL.val (Value.int .i64 (w64 (left - ((a).length : Int)))) _ (op_sub rfl rfl) rfl ?_
  refine WL.val (Value.int .i64 (w64 (left - ((a).length : Int)))) _ (op_assign rfl) rfl ?_
  refine WL.nil ?_
  show W _ _ _ _ _ _
  refine W.seq (W.seq (W.region ?_))
  refine WL.val (Value.int .i64 (w64 (left - ((a).length : Int)))) _ (op_move rfl) rfl ?_
  refine WL.val (Value.bool (decide ((w64 (left - ((a).length : Int))) < (0 : Int)))) _ (op_lss rfl rfl) rfl ?_
  refine WL.nil ?_
  show W _ _ _ _ _ _
  refine W.cond (decide ((w64 (left - ((a).length : Int))) < (0 : Int))) rfl (fun hc2 => ?_) (fun hc2 => ?_)
  · replace h := ip h hc2
    refine W.seq (W.region ?_)
    refine WL.val (Value.int .i64 (-1 : Int)) _ (op_assign rfl) rfl ?_
    refine WL.nil ?_
    show W _ _ _ _ _ _
    refine W.ret ?_
    obtain rfl := Option.some.inj h
    show FinP _ _ _ _ _ _ _
    exact FinP.ret _ (res1 rfl rfl) ⟨rfl, (inR_i64.2 (show (-9223372036854775808 : Int) ≤ -1 ∧ (-1 : Int) ≤ 9223372036854775807 from by decide)), hS0.ext⟩
  · replace h := inegb h hc2
    refine W.skip ?_
    show W _ _ _ _ _ _
    refine W.seq (W.seq (W.region ?_))
    refine WL.val (Value.int .i64 (0 : Int)) _ (op_assign rfl) rfl ?_
    refine WL.nil ?_
    show W _ _ _ _ _ _
    obtain ⟨res4, hres5, h⟩ := bs h
    refine W.blockLoop (fun fq wq => ∃ s, res4 = Res.fin s ∧ fq 1 = Value.int .i64 s ∧ InR .i64 s ∧ St w wq []) ?_ ?_
    · refine W.forN (fun k (s : Int) fq wq => fq 0 = v_a ∧ fq 1 = Value.int .i64 s ∧ InR .i64 s ∧ fq 5 = Value.int .i64 (k : Int) ∧ InR .i64 (k : Int) ∧ St w wq []) hres5 ⟨rfl, rfl, (inR_wrap _ _), rfl, (inR_i64.2 (show (-9223372036854775808 : Int) ≤ 0 ∧ (0 : Int) ≤ 9223372036854775807 from by decide)), hS0⟩ ?_ ?_
      · intro k6 x7 ct8 f9 wd10 hk11 hb12 hI13 hbrk14 hret15
        replace hI13 : f9 0 = v_a ∧ f9 1 = Value.int .i64 x7 ∧ InR .i64 x7 ∧ f9 5 = Value.int .i64 (k6 : Int) ∧ InR .i64 (k6 : Int) ∧ St w wd10 [] := hI13
        replace hb12 : p_laws_szInt64SS_L1 a k6 x7 = some ct8 := hb12
        unfold p_laws_szInt64SS_L1 at hb12
        obtain ⟨hf16, hf17, hr18, hf19, hr20, hS21⟩ := hI13
        refine W.seq (W.seq (W.region ?_))
        refine WL.val (Value.int .i64 (k6 : Int)) _ (op_move hf19) rfl ?_
        refine WL.val v_a _ (op_move hf16) rfl ?_
        have hr22 := inR_len (Ty.lift _ hS21.ext r_a)
        refine WL.val (Value.int .i64 ((a).length : Int)) _ (op_lenL sl_27 (Ty.lift _ hS21.ext r_a) rfl) rfl ?_
        refine WL.val (Value.bool (decide ((k6 : Int) < ((a).length : Int)))) _ (op_lss rfl rfl) rfl ?_
        have hl23 : (k6 : Int) < ((a).length : Int) := by omega
        refine WL.nil ?_
        show W _ _ _ _ _ _
        refine W.condT (decide ((k6 : Int) < ((a).length : Int))) rfl (decide_eq_true hl23) ?_
        refine W.skip ?_
        show W _ _ _ _ _ _
        refine W.seq ?_
        refine W.block ?_
        refine W.seq (W.region ?_)
        refine WL.val v_a _ (op_move hf16) rfl ?_
        refine WL.val (Value.int .i64 (k6 : Int)) _ (op_move hf19) rfl ?_
        obtain ⟨x25, hx28, hb12⟩ := bs hb12
        obtain ⟨ha26, hb27, hx28⟩ := idx_some hx28
        refine WL.val (Value.pointer (some (elA v_a ((k6 : Int)).toNat))) _ (op_idx sl_27 (Ty.lift _ hS21.ext r_a) rfl rfl ha26 hb27) rfl ?_
        obtain ⟨u29, hc30, hr31⟩ := repSl.el r_a hx28
        refine WL.val u29 _ (op_load one_22 rfl (Ext.cell hS21.ext hc30)) rfl ?_
        refine WL.val (Value.int .i64 x7) _ (op_move hf17) rfl ?_
        obtain ⟨x32, hx33, hb12⟩ := bs hb12
        refine WL.call _ (op_call fn_36 (args2 rfl rfl)) (c_laws_szInt64S (Ty.lift _ hS21.ext hr31) hr18 hx33) rfl ?_
        rintro _ wd35 ⟨rfl, hr34, he36⟩
        have hS38 := St.extend hS21 he36
        replace hS38 : St w wd35 [] := hS38
        refine WL.val (Value.int .i64 x32) _ (op_assign rfl) rfl ?_
        refine WL.nil ?_
        show W _ _ _ _ _ _
        refine W.seq (W.region ?_)
        refine WL.val (Value.int .i64 x32) _ (op_move rfl) rfl ?_
        refine WL.val (Value.bool (decide (x32 < (0 : Int)))) _ (op_lss rfl rfl) rfl ?_
        refine WL.nil ?_
        show W _ _ _ _ _ _
        refine W.cond (decide (x32 < (0 : Int))) rfl (fun hc39 => ?_) (fun hc39 => ?_)
        · replace hb12 := ip hb12 hc39
          refine W.seq (W.region ?_)
          refine WL.val (Value.int .i64 (-1 : Int)) _ (op_assign rfl) rfl ?_
          refine WL.nil ?_
          show W _ _ _ _ _ _
          refine W.ret ?_
          obtain rfl := Option.some.inj hb12
          obtain rfl := hret15 _ rfl
          replace h := onRes_ret h
          obtain rfl := Option.some.inj h
          show FinP _ _ _ _ _ _ _
          exact FinP.ret _ (res1 rfl rfl) ⟨rfl, (inR_i64.2 (show (-9223372036854775808 : Int) ≤ -1 ∧ (-1 : Int) ≤ 9223372036854775807 from by decide)), hS38.ext⟩
        · replace hb12 := inegb hb12 hc39
          refine W.skip ?_
          show W _ _ _ _ _ _
          refine W.region ?_
          refine WL.val (Value.int .i64 (k6 : Int)) _ (op_move hf19) rfl ?_
          refine WL.val (Value.int .i64 (w64 ((k6 : Int) + (1 : Int)))) _ (op_add rfl rfl) rfl ?_
          refine WL.val (Value.int .i64 (w64 ((k6 : Int) + (1 : Int)))) _ (op_assign rfl) rfl ?_
          refine WL.nil ?_
          obtain rfl := Option.some.inj hb12
          show ∃ s, _ = Ctl.next s ∧ _
          exact ⟨_, rfl, hf16, rfl, hr34, (ctr_next hl23 hr22), (ctr_rng hl23 hr22), hS38⟩
      · intro x47 f42 wd43 hs44 hI45
        replace hI45 : f42 0 = v_a ∧ f42 1 = Value.int .i64 x47 ∧ InR .i64 x47 ∧ f42 5 = Value.int .i64 (((a).length : Nat) : Int) ∧ InR .i64 (((a).length : Nat) : Int) ∧ St w wd43 [] := hI45
        obtain ⟨hf48, hf49, hr50, hf51, hr52, hS53⟩ := hI45
        refine W.seq (W.seq (W.region ?_))
        refine WL.val (Value.int .i64 (((a).length : Nat) : Int)) _ (op_move hf51) rfl ?_
        refine WL.val v_a _ (op_move hf48) rfl ?_
        have hr54 := inR_len (Ty.lift _ hS53.ext r_a)
        refine WL.val (Value.int .i64 ((a).length : Int)) _ (op_lenL sl_27 (Ty.lift _ hS53.ext r_a) rfl) rfl ?_
        refine WL.val (Value.bool (decide ((((a).length : Nat) : Int) < ((a).length : Int)))) _ (op_lss rfl rfl) rfl ?_
        have hl55 : ¬ (((a).length : Nat) : Int) < ((a).length : Int) := by omega
        refine WL.nil ?_
        show W _ _ _ _ _ _
        refine W.condF (decide ((((a).length : Nat) : Int) < ((a).length : Int))) rfl (decide_eq_false hl55) ?_
        refine W.exit ?_
        show _ = _ ∧ _
        exact ⟨rfl, _, hs44, hf49, hr50, hS53⟩
    · rintro f56 wd57 ⟨x60, rfl, hq58⟩
      replace h := onRes_fin h
      replace hq58 : f56 1 = Value.int .i64 x60 ∧ InR .i64 x60 ∧ St w wd57 [] := hq58
      obtain ⟨hf61, hr62, hS63⟩ := hq58
      show W _ _ _ _ _ _
      refine W.seq (W.region ?_)
      refine WL.val (Value.int .i64 x60) _ (op_move hf61) rfl ?_
      refine WL.val (Value.int .i64 x60) _ (op_assign rfl) rfl ?_
      refine WL.nil ?_
      show W _ _ _ _ _ _
      refine W.ret ?_
      obtain rfl := Option.some.inj h
      show FinP _ _ _ _ _ _ _
      exact FinP.ret _ (res1 rfl rfl) ⟨rfl, hr62, hS63.ext⟩

theorem c_laws_toInt64S {w : World} {a : (List Int)} {v_a : Value} (r_a : (Ty.sl (Ty.i .i64)).rep w v_a a) {res : (List Int)} (h : p_laws_toInt64S a  = some res) :
    Ret Try.prog 24 #[v_a] w (fun v w' => ∃ (u0 : Value), v = u0 ∧ Ext w w' ∧ Sep w.heap.size w' [(Ty.sl (Ty.i .i64)).at u0 res]) := by
  unfold p_laws_toInt64S at h
  have hS0 : St w w [] := St.start w
  refine Ret.start (fn := Try.f24) Try.func24 rfl 22 rfl rfl ?_
  refine W.seq (W.region ?_)
  refine WL.val (Value.slice none 0 0) _ (op_assign rfl) rfl ?_
  refine WL.nil ?_
  show W _ _ _ _ _ _
  refine W.seq (W.region ?_)
  refine WL.val v_a _ (op_move rfl) rfl ?_
  have hr1 := inR_len (Ty.lift _ hS0.ext r_a)
  refine WL.val (Value.int .i64 ((a).length : Int)) _ (op_lenL sl_22 (Ty.lift _ hS0.ext r_a) rfl) rfl ?_
  obtain ⟨x2, hx3, h⟩ := bs h
  refine WL.make (t := (Ty.i .i64)) hS0 sl_22 (fun _ _ => ⟨rfl, (inR_i64.2 (show (-9223372036854775808 : Int) ≤ 0 ∧ (0 : Int) ≤ 9223372036854775807 from by decide))⟩) rfl rfl hx3 rfl rfl ?_
  intro u4 wd5 hS6 he7
  replace hS6 : St w wd5 [(Ty.sl (Ty.i .i64)).at u4 x2] := hS6
  refine WL.val u4 _ (op_assign rfl) rfl ?_
  refine WL.nil ?_
  show W _ _ _ _ _ _
  refine W.seq (W.seq (W.region ?_))
  refine WL.val (Value.int .i64 (0 : Int)) _ (op_assign rfl) rfl ?_
  refine WL.nil ?_
  show W _ _ _ _ _ _
  obtain ⟨res8, hres9, h⟩ := bs h
  refine W.blockLoop (fun fq wq => ∃ s, res8 = Res.fin s ∧ fq 3 = u4 ∧ St w wq [(Ty.sl (Ty.i .i64)).at u4 s]) ?_ ?_
  · refine W.forN (fun k (s : (List Int)) fq wq => fq 0 = v_a ∧ fq 3 = u4 ∧ fq 4 = Value.int .i64 (k : Int) ∧ InR .i64 (k : Int) ∧ St w wq [(Ty.sl (Ty.i .i64)).at u4 s]) hres9 ⟨rfl, rfl, rfl, (inR_i64.2 (show (-9223372036854775808 : Int) ≤ 0 ∧ (0 : Int) ≤ 9223372036854775807 from by decide)), hS6⟩ ?_ ?_
    · intro k10 x11 ct12 f13 wd14 hk15 hb16 hI17 hbrk18 hret19
      replace hI17 : f13 0 = v_a ∧ f13 3 = u4 ∧ f13 4 = Value.int .i64 (k10 : Int) ∧ InR .i64 (k10 : Int) ∧ St w wd14 [(Ty.sl (Ty.i .i64)).at u4 x11] := hI17
      replace hb16 : p_laws_toInt64S_L1 a k10 x11 = some ct12 := hb16
      unfold p_laws_toInt64S_L1 at hb16
      obtain ⟨hf20, hf21, hf22, hr23, hS24⟩ := hI17
      refine W.seq (W.seq (W.region ?_))
      refine WL.val (Value.int .i64 (k10 : Int)) _ (op_move hf22) rfl ?_
      refine WL.val v_a _ (op_move hf20) rfl ?_
      have hr25 := inR_len (Ty.lift _ hS24.ext r_a)
      refine WL.val (Value.int .i64 ((a).length : Int)) _ (op_lenL sl_22 (Ty.lift _ hS24.ext r_a) rfl) rfl ?_
      refine WL.val (Value.bool (decide ((k10 : Int) < ((a).length : Int)))) _ (op_lss rfl rfl) rfl ?_
      have hl26 : (k10 : Int) < ((a).length : Int) := by omega
      refine WL.nil ?_
      show W _ _ _ _ _ _
      refine W.condT (decide ((k10 : Int) < ((a).length : Int))) rfl (decide_eq_true hl26) ?_
      refine W.skip ?_
      show W _ _ _ _ _ _
      refine W.seq ?_
      refine W.block ?_
      refine W.region ?_
      refine WL.val u4 _ (op_move hf21) rfl ?_
      refine WL.val (Value.int .i64 (k10 : Int)) _ (op_move hf22) rfl ?_
      refine WL.val v_a _ (op_move hf20) rfl ?_
      refine WL.val (Value.int .i64 (k10 : Int)) _ (op_move hf22) rfl ?_
      obtain ⟨x28, hx31, hb16⟩ := bs hb16
      obtain ⟨ha29, hb30, hx31⟩ := idx_some hx31
      refine WL.val (Value.pointer (some (elA v_a ((k10 : Int)).toNat))) _ (op_idx sl_22 (Ty.lift _ hS24.ext r_a) rfl rfl ha29 hb30) rfl ?_
      obtain ⟨u32, hc33, hr34⟩ := repSl.el r_a hx31
      obtain ⟨rfl, hr34⟩ := hr34
      refine WL.val (Value.int .i64 x28) _ (op_load one_2 rfl (Ext.cell hS24.ext hc33)) rfl ?_
      obtain ⟨x35, hx38, hb16⟩ := bs hb16
      obtain ⟨ha36, hb37, hx38⟩ := idx_some hx38
      refine WL.val (Value.pointer (some (elA u4 ((k10 : Int)).toNat))) _ (op_idx sl_22 (St.rep (t := (Ty.sl (Ty.i .i64))) hS24 0 rfl) rfl rfl ha36 hb37) rfl ?_
      refine WL.storeEl (flat_i .i64) hS24 (k := 0) rfl sz_2 rfl rfl (lt_of_idx ha36 hb37) ⟨rfl, hr34⟩ ?_
      intro wd39 hS40
      replace hS40 : St w wd39 [(Ty.sl (Ty.i .i64)).at u4 ((x11).set ((k10 : Int)).toNat x28)] := hS40
      refine WL.nil ?_
      show W _ _ _ _ _ _
      refine W.region ?_
      refine WL.val (Value.int .i64 (k10 : Int)) _ (op_move hf22) rfl ?_
      refine WL.val (Value.int .i64 (w64 ((k10 : Int) + (1 : Int)))) _ (op_add rfl rfl) rfl ?_
      refine WL.val (Value.int .i64 (w64 ((k10 : Int) + (1 : Int)))) _ (op_assign rfl) rfl ?_
      refine WL.nil ?_
      obtain rfl := Option.some.inj hb16
      show ∃ s, _ = Ctl.next s ∧ _
      exact ⟨_, rfl, hf20, hf21, (ctr_next hl26 hr25), (ctr_rng hl26 hr25), hS40⟩
    · intro x47 f42 wd43 hs44 hI45
      replace hI45 : f42 0 = v_a ∧ f42 3 = u4 ∧ f42 4 = Value.int .i64 (((a).length : Nat) : Int) ∧ InR .i64 (((a).length : Nat) : Int) ∧ St w wd43 [(Ty.sl (Ty.i .i64)).at u4 x47] := hI45
      obtain ⟨hf48, hf49, hf50, hr51, hS52⟩ := hI45
      refine W.seq (W.seq (W.region ?_))
      refine WL.val (Value.int .i64 (((a).length : Nat) : Int)) _ (op_move hf50) rfl ?_
      refine WL.val v_a _ (op_move hf48) rfl ?_
      have hr53 := inR_len (Ty.lift _ hS52.ext r_a)
      refine WL.val (Value.int .i64 ((a).length : Int)) _ (op_lenL sl_22 (Ty.lift _ hS52.ext r_a) rfl) rfl ?_
      refine WL.val (Value.bool (decide ((((a).length : Nat) : Int) < ((a).length : Int)))) _ (op_lss rfl rfl) rfl ?_
      have hl54 : ¬ (((a).length : Nat) : Int) < ((a).length : Int) := by omega
      refine WL.nil ?_
      show W _ _ _ _ _ _
      refine W.condF (decide ((((a).length : Nat) : Int) < ((a).length : Int))) rfl (decide_eq_false hl54) ?_
      refine W.exit ?_
      show _ = _ ∧ _
      exact ⟨rfl, _, hs44, hf49, hS52⟩
  · rintro f55 wd56 ⟨x59, rfl, hq57⟩
    replace h := onRes_fin h
    replace hq57 : f55 3 = u4 ∧ St w wd56 [(Ty.sl (Ty.i .i64)).at u4 x59] := hq57
    obtain ⟨hf60, hS61⟩ := hq57
    show W _ _ _ _ _ _
    refine W.seq (W.region ?_)
    refine WL.val u4 _ (op_move hf60) rfl ?_
    refine WL.val u4 _ (op_assign rfl) rfl ?_
    refine WL.nil ?_
    show W _ _ _ _ _ _
    refine W.ret ?_
    obtain rfl := Option.some.inj h
    show FinP _ _ _ _ _ _ _
    exact FinP.ret _ (res1 rfl rfl) ⟨u4, rfl, hS61.ext, (St.out (St.pick hS61 [0] rfl) (Ext.refl _))⟩

theorem c_laws_toInt64SS {w : World} {a : (List (List Int))} {v_a : Value} (r_a : (Ty.sl (Ty.sl (Ty.i .i64))).rep w v_a a) {res : (List (List Int))} (h : p_laws_toInt64SS a  = some res) :
    Ret Try.prog 25 #[v_a] w (fun v w' => ∃ (u0 : Value), v = u0 ∧ Ext w w' ∧ Sep w.heap.size w' [(Ty.sl (Ty.sl (Ty.i .i64))).at u0 res]) := by
  unfold p_laws_toInt64SS at h
  have hS0 : St w w [] := St.start w
  refine Ret.start (fn := Try.f25) Try.func25 rfl 23 rfl rfl ?_
  refine W.seq (W.region ?_)
  refine WL.val (Value.slice none 0 0) _ (op_assign rfl) rfl ?_
  refine WL.nil ?_
  show W _ _ _ _ _ _
  refine W.seq (W.region ?_)
  refine WL.val v_a _ (op_move rfl) rfl ?_
  have hr1 := inR_len (Ty.lift _ hS0.ext r_a)
  refine WL.val (Value.int .i64 ((a).length : Int)) _ (op_lenL sl_27 (Ty.lift _ hS0.ext r_a) rfl) rfl ?_
  obtain ⟨x2, hx3, h⟩ := bs h
  refine WL.make (t := (Ty.sl (Ty.i .i64))) hS0 sl_27 (fun S w => nilOwn _ S w) rfl rfl hx3 rfl rfl ?_
  intro u4 wd5 hS6 he7
  replace hS6 : St w wd5 [(Ty.sl (Ty.sl (Ty.i .i64))).at u4 x2] := hS6
  refine WL.val u4 _ (op_assign rfl) rfl ?_
  refine WL.nil ?_
  show W _ _ _ _ _ _
  refine W.seq (W.seq (W.region ?_))
  refine WL.val (Value.int .i64 (0 : Int)) _ (op_assign rfl) rfl ?_
  refine WL.nil ?_
  show W _ _ _ _ _ _
  obtain ⟨res8, hres9, h⟩ := bs h
  refine W.blockLoop (fun fq wq => ∃ s, res8 = Res.fin s ∧ fq 3 = u4 ∧ St w wq [(Ty.sl (Ty.sl (Ty.i .i64))).at u4 s]) ?_ ?_
  · refine W.forN (fun k (s : (List (List Int))) fq wq => fq 0 = v_a ∧ fq 3 = u4 ∧ fq 4 = Value.int .i64 (k : Int) ∧ InR .i64 (k : Int) ∧ St w wq [(Ty.sl (Ty.sl (Ty.i .i64))).at u4 s]) hres9 ⟨rfl, rfl, rfl, (inR_i64.2 (show (-9223372036854775808 : Int) ≤ 0 ∧ (0 : Int) ≤ 9223372036854775807 from by decide)), hS6⟩ ?_ ?_
    · intro k10 x11 ct12 f13 wd14 hk15 hb16 hI17 hbrk18 hret19
      replace hI17 : f13 0 = v_a ∧ f13 3 = u4 ∧ f13 4 = Value.int .i64 (k10 : Int) ∧ InR .i64 (k10 : Int) ∧ St w wd14 [(Ty.sl (Ty.sl (Ty.i .i64))).at u4 x11] := hI17
      replace hb16 : p_laws_toInt64SS_L1 a k10 x11 = some ct12 := hb16
      unfold p_laws_toInt64SS_L1 at hb16
      obtain ⟨hf20, hf21, hf22, hr23, hS24⟩ := hI17
      refine W.seq (W.seq (W.region ?_))
      refine WL.val (Value.int .i64 (k10 : Int)) _ (op_move hf22) rfl ?_
      refine WL.val v_a _ (op_move hf20) rfl ?_
      have hr25 := inR_len (Ty.lift _ hS24.ext r_a)
      refine WL.val (Value.int .i64 ((a).length : Int)) _ (op_lenL sl_27 (Ty.lift _ hS24.ext r_a) rfl) rfl ?_
      refine WL.val (Value.bool (decide ((k10 : Int) < ((a).length : Int)))) _ (op_lss rfl rfl) rfl ?_
      have hl26 : (k10 : Int) < ((a).length : Int) := by omega
      refine WL.nil ?_
      show W _ _ _ _ _ _
      refine W.condT (decide ((k10 : Int) < ((a).length : Int))) rfl (decide_eq_true hl26) ?_
      refine W.skip ?_
      show W _ _ _ _ _ _
      refine W.seq ?_
      refine W.block ?_
      refine W.region ?_
      refine WL.val u4 _ (op_move hf21) rfl ?_
      refine WL.val (Value.int .i64 (k10 : Int)) _ (op_move hf22) rfl ?_
      refine WL.val v_a _ (op_move hf20) rfl ?_
      refine WL.val (Value.int .i64 (k10 : Int)) _ (op_move hf22) rfl ?_
      obtain ⟨x28, hx31, hb16⟩ := bs hb16
      obtain ⟨ha29, hb30, hx31⟩ := idx_some hx31
      refine WL.val (Value.pointer (some (elA v_a ((k10 : Int)).toNat))) _ (op_idx sl_27 (Ty.lift _ hS24.ext r_a) rfl rfl ha29 hb30) rfl ?_
      obtain ⟨u32, hc33, hr34⟩ := repSl.el r_a hx31
      refine WL.val u32 _ (op_load one_22 rfl (Ext.cell hS24.ext hc33)) rfl ?_
      obtain ⟨x35, hx36, hb16⟩ := bs hb16
      refine WL.call _ (op_call fn_24 (args1 rfl)) (c_laws_toInt64S (Ty.lift _ hS24.ext hr34) hx36) rfl ?_
      rintro u37 wd38 ⟨_, rfl, he39, hs40⟩
      have hS41 := St.join hS24 he39 hs40
      replace hS41 : St w wd38 [(Ty.sl (Ty.sl (Ty.i .i64))).at u4 x11, (Ty.sl (Ty.i .i64)).at u37 x35] := hS41
      obtain ⟨x42, hx45, hb16⟩ := bs hb16
      obtain ⟨ha43, hb44, hx45⟩ := idx_some hx45
      refine WL.val (Value.pointer (some (elA u4 ((k10 : Int)).toNat))) _ (op_idx sl_27 (St.rep (t := (Ty.sl (Ty.sl (Ty.i .i64)))) hS41 0 rfl) rfl rfl ha43 hb44) rfl ?_
      refine WL.storeRow hS41 (k := 0) (k2 := 1) rfl rfl rfl sz_22 rfl rfl (by omega) ?_
      intro wd46 hS47
      replace hS47 : St w wd46 [(Ty.sl (Ty.sl (Ty.i .i64))).at u4 ((x11).set ((k10 : Int)).toNat x35), emp] := hS47
      refine WL.nil ?_
      show W _ _ _ _ _ _
      refine W.region ?_
      refine WL.val (Value.int .i64 (k10 : Int)) _ (op_move hf22) rfl ?_
      refine WL.val (Value.int .i64 (w64 ((k10 : Int) + (1 : Int)))) _ (op_add rfl rfl) rfl ?_
      refine WL.val (Value.int .i64 (w64 ((k10 : Int) + (1 : Int)))) _ (op_assign rfl) rfl ?_
      refine WL.nil ?_
      obtain rfl := Option.some.inj hb16
      show ∃ s, _ = Ctl.next s ∧ _
      exact ⟨_, rfl, hf20, hf21, (ctr_next hl26 hr25), (ctr_rng hl26 hr25), (St.pick hS47 [0] rfl)⟩
    · intro x54 f49 wd50 hs51 hI52
      replace hI52 : f49 0 = v_a ∧ f49 3 = u4 ∧ f49 4 = Value.int .i64 (((a).length : Nat) : Int) ∧ InR .i64 (((a).length : Nat) : Int) ∧ St w wd50 [(Ty.sl (Ty.sl (Ty.i .i64))).at u4 x54] := hI52
      obtain ⟨hf55, hf56, hf57, hr58, hS59⟩ := hI52
      refine W.seq (W.seq (W.region ?_))
      refine WL.val (Value.int .i64 (((a).length : Nat) : Int)) _ (op_move hf57) rfl ?_
      refine WL.val v_a _ (op_move hf55) rfl ?_
      have hr60 := inR_len (Ty.lift _ hS59.ext r_a)
      refine WL.val (Value.int .i64 ((a).length : Int)) _ (op_lenL sl_27 (Ty.lift _ hS59.ext r_a) rfl) rfl ?_
      refine WL.val (Value.bool (decide ((((a).length : Nat) : Int) < ((a).length : Int)))) _ (op_lss rfl rfl) rfl ?_
      have hl61 : ¬ (((a).length : Nat) : Int) < ((a).length : Int) := by omega
      refine WL.nil ?_
      show W _ _ _ _ _ _
      refine W.condF (decide ((((a).length : Nat) : Int) < ((a).length : Int))) rfl (decide_eq_false hl61) ?_
      refine W.exit ?_
      show _ = _ ∧ _
      exact ⟨rfl, _, hs51, hf56, hS59⟩
  · rintro f62 wd63 ⟨x66, rfl, hq64⟩
    replace h := onRes_fin h
    replace hq64 : f62 3 = u4 ∧ St w wd63 [(Ty.sl (Ty.sl (Ty.i .i64))).at u4 x66] := hq64
    obtain ⟨hf67, hS68⟩ := hq64
    show W _ _ _ _ _ _
    refine W.seq (W.region ?_)
    refine WL.val u4 _ (op_move hf67) rfl ?_
    refine WL.val u4 _ (op_assign rfl) rfl ?_
    refine WL.nil ?_
    show W _ _ _ _ _ _
    refine W.ret ?_
    obtain rfl := Option.some.inj h
    show FinP _ _ _ _ _ _ _
    exact FinP.ret _ (res1 rfl rfl) ⟨u4, rfl, hS68.ext, (St.out (St.pick hS68 [0] rfl) (Ext.refl _))⟩

theorem c_spec_l06Orders {w : World} {orders : (List Int)} {v_orders : Value} (r_orders : (Ty.sl (Ty.i .i64)).rep w v_orders orders) {res : Bool} (h : p_spec_l06Orders orders  = some res) :
    Ret Try.prog 73 #[v_orders] w (fun v w' => v = Value.bool res ∧ Ext w w') := by
  unfold p_spec_l06Orders at h
  have hS0 : St w w [] := St.start w
  refine Ret.start (fn := Try.f73) Try.func73 rfl 18 rfl rfl ?_
  refine W.seq (W.region ?_)
  refine WL.val (Value.bool false) _ (op_assign rfl) rfl ?_
  refine WL.nil ?_
  show W _ _ _ _ _ _
  refine W.seq (W.seq (W.region ?_))
  refine WL.val (Value.int .i64 (0 : Int)) _ (op_assign rfl) rfl ?_
  refine WL.nil ?_
  show W _ _ _ _ _ _
  obtain ⟨res1, hres2, h⟩ := bs h
  refine W.blockLoop (fun fq wq => ∃ s, res1 = Res.fin s ∧ fq 0 = v_orders ∧ St w wq []) ?_ ?_
  · refine W.forN (fun k (s : Unit) fq wq => fq 0 = v_orders ∧ fq 3 = Value.int .i64 (k : Int) ∧ InR .i64 (k : Int) ∧ St w wq []) hres2 ⟨rfl, rfl, (inR_i64.2 (show (-9223372036854775808 : Int) ≤ 0 ∧ (0 : Int) ≤ 9223372036854775807 from by decide)), hS0⟩ ?_ ?_
    · intro k3 s28 ct4 f5 wd6 hk7 hb8 hI9 hbrk10 hret11
      obtain ⟨⟩ := s28
      replace hI9 : f5 0 = v_orders ∧ f5 3 = Value.int .i64 (k3 : Int) ∧ InR .i64 (k3 : Int) ∧ St w wd6 [] := hI9
      replace hb8 : p_spec_l06Orders_L1 orders k3  = some ct4 := hb8
      unfold p_spec_l06Orders_L1 at hb8
      obtain ⟨hf12, hf13, hr14, hS15⟩ := hI9
      refine W.seq (W.seq (W.region ?_))
      refine WL.val (Value.int .i64 (k3 : Int)) _ (op_move hf13) rfl ?_
      refine WL.val v_orders _ (op_move hf12) rfl ?_
      have hr16 := inR_len (Ty.lift _ hS15.ext r_orders)
      refine WL.val (Value.int .i64 ((orders).length : Int)) _ (op_lenL sl_22 (Ty.lift _ hS15.ext r_orders) rfl) rfl ?_
      refine WL.val (Value.bool (decide ((k3 : Int) < ((orders).length : Int)))) _ (op_lss rfl rfl) rfl ?_
      have hl17 : (k3 : Int) < ((orders).length : Int) := by omega
      refine WL.nil ?_
      show W _ _ _ _ _ _
      refine W.condT (decide ((k3 : Int) < ((orders).length : Int))) rfl (decide_eq_true hl17) ?_
      refine W.skip ?_
      show W _ _ _ _ _ _
      refine W.seq ?_
      refine W.block ?_
      refine W.seq (W.region ?_)
      refine WL.val v_orders _ (op_move hf12) rfl ?_
      refine WL.val (Value.int .i64 (k3 : Int)) _ (op_move hf13) rfl ?_
      obtain ⟨x19, hx22, hb8⟩ := bs hb8
      obtain ⟨ha20, hb21, hx22⟩ := idx_some hx22
      refine WL.val (Value.pointer (some (elA v_orders ((k3 : Int)).toNat))) _ (op_idx sl_22 (Ty.lift _ hS15.ext r_orders) rfl rfl ha20 hb21) rfl ?_
      obtain ⟨u23, hc24, hr25⟩ := repSl.el r_orders hx22
      obtain ⟨rfl, hr25⟩ := hr25
      refine WL.val (Value.int .i64 x19) _ (op_load one_2 rfl (Ext.cell hS15.ext hc24)) rfl ?_
      refine WL.val (Value.bool (decide (x19 < (1 : Int)))) _ (op_lss rfl rfl) rfl ?_
      refine WL.nil ?_
      show W _ _ _ _ _ _
      refine W.cond (decide (x19 < (1 : Int))) rfl (fun hc26 => ?_) (fun hc26 => ?_)
      · replace hb8 := ip hb8 hc26
        refine W.seq (W.region ?_)
        refine WL.val (Value.bool false) _ (op_assign rfl) rfl ?_
        refine WL.nil ?_
        show W _ _ _ _ _ _
        refine W.ret ?_
        obtain rfl := Option.some.inj hb8
        obtain rfl := hret11 _ rfl
        replace h := onRes_ret h
        obtain rfl := Option.some.inj h
        show FinP _ _ _ _ _ _ _
        exact FinP.ret _ (res1 rfl rfl) ⟨rfl, hS15.ext⟩
      · replace hb8 := inegb hb8 hc26
        refine W.skip ?_
        show W _ _ _ _ _ _
        refine W.region ?_
        refine WL.val (Value.int .i64 (k3 : Int)) _ (op_move hf13) rfl ?_
        refine WL.val (Value.int .i64 (w64 ((k3 : Int) + (1 : Int)))) _ (op_add rfl rfl) rfl ?_
        refine WL.val (Value.int .i64 (w64 ((k3 : Int) + (1 : Int)))) _ (op_assign rfl) rfl ?_
        refine WL.nil ?_
        obtain rfl := Option.some.inj hb8
        show ∃ s, _ = Ctl.next s ∧ _
        exact ⟨_, rfl, hf12, (ctr_next hl17 hr16), (ctr_rng hl17 hr16), hS15⟩
    · intro s33 f29 wd30 hs31 hI32
      obtain ⟨⟩ := s33
      replace hI32 : f29 0 = v_orders ∧ f29 3 = Value.int .i64 (((orders).length : Nat) : Int) ∧ InR .i64 (((orders).length : Nat) : Int) ∧ St w wd30 [] := hI32
      obtain ⟨hf34, hf35, hr36, hS37⟩ := hI32
      refine W.seq (W.seq (W.region ?_))
      refine WL.val (Value.int .i64 (((orders).length : Nat) : Int)) _ (op_move hf35) rfl ?_
      refine WL.val v_orders _ (op_move hf34) rfl ?_
      have hr38 := inR_len (Ty.lift _ hS37.ext r_orders)
      refine WL.val (Value.int .i64 ((orders).length : Int)) _ (op_lenL sl_22 (Ty.lift _ hS37.ext r_orders) rfl) rfl ?_
      refine WL.val (Value.bool (decide ((((orders).length : Nat) : Int) < ((orders).length : Int)))) _ (op_lss rfl rfl) rfl ?_
      have hl39 : ¬ (((orders).length : Nat) : Int) < ((orders).length : Int) := by omega
      refine WL.nil ?_
      show W _ _ _ _ _ _
      refine W.condF (decide ((((orders).length : Nat) : Int) < ((orders).length : Int))) rfl (decide_eq_false hl39) ?_
      refine W.exit ?_
      show _ = _ ∧ _
      exact ⟨rfl, _, hs31, hf34, hS37⟩
  · rintro f40 wd41 ⟨s43, rfl, hq42⟩
    replace h := onRes_fin h
    obtain ⟨⟩ := s43
    replace hq42 : f40 0 = v_orders ∧ St w wd41 [] := hq42
    obtain ⟨hf44, hS45⟩ := hq42
    show W _ _ _ _ _ _
    refine W.seq (W.region ?_)
    refine WL.val v_orders _ (op_move hf44) rfl ?_
    have hr46 := inR_len (Ty.lift _ hS45.ext r_orders)
    refine WL.val (Value.int .i64 ((orders).length : Int)) _ (op_lenL sl_22 (Ty.lift _ hS45.ext r_orders) rfl) rfl ?_
    refine WL.val (Value.bool (decide (((orders).length : Int) > (0 : Int)))) _ (op_gtr rfl rfl) rfl ?_
    refine WL.val (Value.bool (decide (((orders).length : Int) > (0 : Int)))) _ (op_assign rfl) rfl ?_
    refine WL.nil ?_
    show W _ _ _ _ _ _
    refine W.ret ?_
    obtain rfl := Option.some.inj h
    show FinP _ _ _ _ _ _ _
    exact FinP.ret _ (res1 rfl rfl) ⟨rfl, hS45.ext⟩

theorem c_spec_l01In {w : World} {n : Int} {low : Int} {high : Int} (r_n : InR .i64 n) (r_low : InR .i64 low) (r_high : InR .i64 high) {res : Bool} (h : p_spec_l01In n low high  = some res) :
    Ret Try.prog 56 #[(Value.int .i64 n), (Value.int .i64 low), (Value.int .i64 high)] w (fun v w' => v = Value.bool res ∧ Ext w w') := by
  unfold p_spec_l01In at h
  have hS0 : St w w [] := St.start w
  refine Ret.start (fn := Try.f56) Try.func56 rfl 15 rfl rfl ?_
  refine W.seq (W.region ?_)
  refine WL.val (Value.bool false) _ (op_assign rfl) rfl ?_
  refine WL.nil ?_
  show W _ _ _ _ _ _
  refine W.seq (W.region ?_)
  refine WL.val (Value.int .i64 n) _ (op_move rfl) rfl ?_
  refine WL.val (Value.int .i64 low) _ (op_move rfl) rfl ?_
  refine WL.val (Value.bool (decide (n ≥ low))) _ (op_geq rfl rfl) rfl ?_
  refine WL.val (Value.bool (decide (n ≥ low))) _ (op_move rfl) rfl ?_
  refine WL.cut 4 (fun fq wq => fq 14 = (Value.bool ((decide (n ≥ low)) && (decide (n ≤ high)))) ∧ St w wq []) ?_ ?_
  · rcases Bool.eq_false_or_eq_true (decide (n ≥ low)) with hc1 | hc1
    · refine WL.grun rfl (bool_of rfl hc1) ?_
      refine WL.val (Value.int .i64 n) _ (op_move rfl) rfl ?_
      refine WL.grun rfl (bool_of rfl hc1) ?_
      refine WL.val (Value.int .i64 high) _ (op_move rfl) rfl ?_
      refine WL.grun rfl (bool_of rfl hc1) ?_
      refine WL.val (Value.bool (decide (n ≤ high))) _ (op_leq rfl rfl) rfl ?_
      refine WL.val (Value.bool (decide (n ≤ high))) _ (op_pick_t (evb_of rfl hc1) rfl) rfl ?_
      refine WL.nil ?_
      exact ⟨rfl, (andT hc1), hS0⟩
    · refine WL.gskip rfl (bool_of rfl hc1) rfl ?_
      refine WL.gskip rfl (bool_of rfl hc1) rfl ?_
      refine WL.gskip rfl (bool_of rfl hc1) rfl ?_
      refine WL.val (Value.bool false) _ (op_pick_f (evb_of rfl hc1) rfl) rfl ?_
      refine WL.nil ?_
      exact ⟨rfl, (andF hc1), hS0⟩
  · intro f2 wd3 hq4
    obtain ⟨hf5, hS6⟩ := hq4
    refine WL.val (Value.bool ((decide (n ≥ low)) && (decide (n ≤ high)))) _ (op_assign hf5) rfl ?_
    refine WL.nil ?_
    show W _ _ _ _ _ _
    refine W.ret ?_
    obtain rfl := Option.some.inj h
    show FinP _ _ _ _ _ _ _
    exact FinP.ret _ (res1 rfl rfl) ⟨rfl, hS6.ext⟩

theorem c_spec_l06Size {w : World} {orders : (List Int)} {v_orders : Value} {limit : Int} (r_orders : (Ty.sl (Ty.i .i64)).rep w v_orders orders) (r_limit : InR .i64 limit) {res : Int} (h : p_spec_l06Size orders limit  = some res) :
    Ret Try.prog 97 #[v_orders, (Value.int .i64 limit)] w (fun v w' => v = Value.int .i64 res ∧ InR .i64 res ∧ Ext w w') := by
  unfold p_spec_l06Size at h
  have hS0 : St w w [] := St.start w
  refine Ret.start (fn := Try.f97) Try.func97 rfl 33 rfl rfl ?_
  refine W.seq (W.region ?_)
  refine WL.val (Value.int .i64 (0 : Int)) _ (op_assign rfl) rfl ?_
  refine WL.nil ?_
  show W _ _ _ _ _ _
  refine W.seq (W.region ?_)
  refine WL.val (Value.int .i64 (1 : Int)) _ (op_assign rfl) rfl ?_
  refine WL.nil ?_
  show W _ _ _ _ _ _
  refine W.seq (W.seq (W.region ?_))
  refine WL.val (Value.int .i64 (0 : Int)) _ (op_assign rfl) rfl ?_
  refine WL.nil ?_
  show W _ _ _ _ _ _
  obtain ⟨res1, hres2, h⟩ := bs h
  refine W.blockLoop (fun fq wq => ∃ s, res1 = Res.fin s ∧ fq 5 = Value.int .i64 s ∧ InR .i64 s ∧ St w wq []) ?_ ?_
  · refine W.forN (fun k (s : Int) fq wq => fq 0 = v_orders ∧ fq 1 = (Value.int .i64 limit) ∧ fq 5 = Value.int .i64 s ∧ InR .i64 s ∧ fq 6 = Value.int .i64 (k : Int) ∧ InR .i64 (k : Int) ∧ St w wq []) hres2 ⟨rfl, rfl, rfl, (inR_i64.2 (show (-9223372036854775808 : Int) ≤ 1 ∧ (1 : Int) ≤ 9223372036854775807 from by decide)), rfl, (inR_i64.2 (show (-9223372036854775808 : Int) ≤ 0 ∧ (0 : Int) ≤ 9223372036854775807 from by decide)), hS0⟩ ?_ ?_
    · intro k3 x4 ct5 f6 wd7 hk8 hb9 hI10 hbrk11 hret12
      replace hI10 : f6 0 = v_orders ∧ f6 1 = (Value.int .i64 limit) ∧ f6 5 = Value.int .i64 x4 ∧ InR .i64 x4 ∧ f6 6 = Value.int .i64 (k3 : Int) ∧ InR .i64 (k3 : Int) ∧ St w wd7 [] := hI10
      replace hb9 : p_spec_l06Size_L1 orders limit k3 x4 = some ct5 := hb9
      unfold p_spec_l06Size_L1 at hb9
      obtain ⟨hf13, hf14, hf15, hr16, hf17, hr18, hS19⟩ := hI10
      refine W.seq (W.seq (W.region ?_))
      refine WL.val (Value.int .i64 (k3 : Int)) _ (op_move hf17) rfl ?_
      refine WL.val v_orders _ (op_move hf13) rfl ?_
      have hr20 := inR_len (Ty.lift _ hS19.ext r_orders)
      refine WL.val (Value.int .i64 ((orders).length : Int)) _ (op_lenL sl_22 (Ty.lift _ hS19.ext r_orders) rfl) rfl ?_
      refine WL.val (Value.bool (decide ((k3 : Int) < ((orders).length : Int)))) _ (op_lss rfl rfl) rfl ?_
      have hl21 : (k3 : Int) < ((orders).length : Int) := by omega
      refine WL.nil ?_
      show W _ _ _ _ _ _
      refine W.condT (decide ((k3 : Int) < ((orders).length : Int))) rfl (decide_eq_true hl21) ?_
      refine W.skip ?_
      show W _ _ _ _ _ _
      refine W.seq ?_
      refine W.block ?_
      refine W.seq (W.seq (W.region ?_))
      refine WL.val v_orders _ (op_move hf13) rfl ?_
      refine WL.val (Value.int .i64 (k3 : Int)) _ (op_move hf17) rfl ?_
      obtain ⟨x23, hx26, hb9⟩ := bs hb9
      obtain ⟨ha24, hb25, hx26⟩ := idx_some hx26
      refine WL.val (Value.pointer (some (elA v_orders ((k3 : Int)).toNat))) _ (op_idx sl_22 (Ty.lift _ hS19.ext r_orders) rfl rfl ha24 hb25) rfl ?_
      obtain ⟨u27, hc28, hr29⟩ := repSl.el r_orders hx26
      obtain ⟨rfl, hr29⟩ := hr29
      refine WL.val (Value.int .i64 x23) _ (op_load one_2 rfl (Ext.cell hS19.ext hc28)) rfl ?_
      refine WL.val (Value.int .i64 limit) _ (op_move hf14) rfl ?_
      refine WL.val (Value.bool (decide (x23 > limit))) _ (op_gtr rfl rfl) rfl ?_
      refine WL.nil ?_
      show W _ _ _ _ _ _
      refine W.cond (decide (x23 > limit)) rfl (fun hc30 => ?_) (fun hc30 => ?_)
      · replace hb9 := ip hb9 hc30
        refine W.seq (W.region ?_)
        refine WL.val (Value.int .i64 limit) _ (op_move hf14) rfl ?_
        refine WL.val (Value.int .i64 (w64 (limit + (1 : Int)))) _ (op_add rfl rfl) rfl ?_
        refine WL.val (Value.int .i64 (w64 (limit + (1 : Int)))) _ (op_assign rfl) rfl ?_
        refine WL.nil ?_
        show W _ _ _ _ _ _
        refine W.ret ?_
        obtain rfl := Option.some.inj hb9
        obtain rfl := hret12 _ rfl
        replace h := onRes_ret h
        obtain rfl := Option.some.inj h
        show FinP _ _ _ _ _ _ _
        exact FinP.ret _ (res1 rfl rfl) ⟨rfl, (inR_wrap _ _), hS19.ext⟩
      · replace hb9 := inegb hb9 hc30
        refine W.skip ?_
        show W _ _ _ _ _ _
        refine W.seq (W.region ?_)
        refine WL.val (Value.int .i64 x4) _ (op_move hf15) rfl ?_
        refine WL.val v_orders _ (op_move hf13) rfl ?_
        refine WL.val (Value.int .i64 (k3 : Int)) _ (op_move hf17) rfl ?_
        refine WL.val (Value.pointer (some (elA v_orders ((k3 : Int)).toNat))) _ (op_idx sl_22 (Ty.lift _ hS19.ext r_orders) rfl rfl ha24 hb25) rfl ?_
        obtain ⟨u32, hc33, hr34⟩ := repSl.el r_orders hx26
        obtain ⟨rfl, hr34⟩ := hr34
        refine WL.val (Value.int .i64 x23) _ (op_load one_2 rfl (Ext.cell hS19.ext hc33)) rfl ?_
        refine WL.val (Value.int .i64 (w64 (x4 * x23))) _ (op_mul rfl rfl) rfl ?_
        refine WL.val (Value.int .i64 (w64 (x4 * x23))) _ (op_assign rfl) rfl ?_
        refine WL.nil ?_
        show W _ _ _ _ _ _
        refine W.seq (W.region ?_)
        refine WL.val (Value.int .i64 (w64 (x4 * x23))) _ (op_move rfl) rfl ?_
        refine WL.val (Value.int .i64 limit) _ (op_move hf14) rfl ?_
        refine WL.val (Value.bool (decide ((w64 (x4 * x23)) > limit))) _ (op_gtr rfl rfl) rfl ?_
        refine WL.nil ?_
        show W _ _ _ _ _ _
        refine W.cond (decide ((w64 (x4 * x23)) > limit)) rfl (fun hc35 => ?_) (fun hc35 => ?_)
        · replace hb9 := ip hb9 hc35
          refine W.seq (W.region ?_)
          refine WL.val (Value.int .i64 limit) _ (op_move hf14) rfl ?_
          refine WL.val (Value.int .i64 (w64 (limit + (1 : Int)))) _ (op_add rfl rfl) rfl ?_
          refine WL.val (Value.int .i64 (w64 (limit + (1 : Int)))) _ (op_assign rfl) rfl ?_
          refine WL.nil ?_
          show W _ _ _ _ _ _
          refine W.ret ?_
          obtain rfl := Option.some.inj hb9
          obtain rfl := hret12 _ rfl
          replace h := onRes_ret h
          obtain rfl := Option.some.inj h
          show FinP _ _ _ _ _ _ _
          exact FinP.ret _ (res1 rfl rfl) ⟨rfl, (inR_wrap _ _), hS19.ext⟩
        · replace hb9 := inegb hb9 hc35
          refine W.skip ?_
          show W _ _ _ _ _ _
          refine W.region ?_
          refine WL.val (Value.int .i64 (k3 : Int)) _ (op_move hf17) rfl ?_
          refine WL.val (Value.int .i64 (w64 ((k3 : Int) + (1 : Int)))) _ (op_add rfl rfl) rfl ?_
          refine WL.val (Value.int .i64 (w64 ((k3 : Int) + (1 : Int)))) _ (op_assign rfl) rfl ?_
          refine WL.nil ?_
          obtain rfl := Option.some.inj hb9
          show ∃ s, _ = Ctl.next s ∧ _
          exact ⟨_, rfl, hf13, hf14, rfl, (inR_wrap _ _), (ctr_next hl21 hr20), (ctr_rng hl21 hr20), hS19⟩
    · intro x43 f38 wd39 hs40 hI41
      replace hI41 : f38 0 = v_orders ∧ f38 1 = (Value.int .i64 limit) ∧ f38 5 = Value.int .i64 x43 ∧ InR .i64 x43 ∧ f38 6 = Value.int .i64 (((orders).length : Nat) : Int) ∧ InR .i64 (((orders).length : Nat) : Int) ∧ St w wd39 [] := hI41
      obtain ⟨hf44, hf45, hf46, hr47, hf48, hr49, hS50⟩ := hI41
      refine W.seq (W.seq (W.region ?_))
      refine WL.val (Value.int .i64 (((orders).length : Nat) : Int)) _ (op_move hf48) rfl ?_
      refine WL.val v_orders _ (op_move hf44) rfl ?_
      have hr51 := inR_len (Ty.lift _ hS50.ext r_orders)
      refine WL.val (Value.int .i64 ((orders).length : Int)) _ (op_lenL sl_22 (Ty.lift _ hS50.ext r_orders) rfl) rfl ?_
      refine WL.val (Value.bool (decide ((((orders).length : Nat) : Int) < ((orders).length : Int)))) _ (op_lss rfl rfl) rfl ?_
      have hl52 : ¬ (((orders).length : Nat) : Int) < ((orders).length : Int) := by omega
      refine WL.nil ?_
      show W _ _ _ _ _ _
      refine W.condF (decide ((((orders).length : Nat) : Int) < ((orders).length : Int))) rfl (decide_eq_false hl52) ?_
      refine W.exit ?_
      show _ = _ ∧ _
      exact ⟨rfl, _, hs40, hf46, hr47, hS50⟩
  · rintro f53 wd54 ⟨x57, rfl, hq55⟩
    replace h := onRes_fin h
    replace hq55 : f53 5 = Value.int .i64 x57 ∧ InR .i64 x57 ∧ St w wd54 [] := hq55
    obtain ⟨hf58, hr59, hS60⟩ := hq55
    show W _ _ _ _ _ _
    refine W.seq (W.region ?_)
    refine WL.val (Value.int .i64 x57) _ (op_move hf58) rfl ?_
    refine WL.val (Value.int .i64 x57) _ (op_assign rfl) rfl ?_
    refine WL.nil ?_
    show W _ _ _ _ _ _
    refine W.ret ?_
    obtain rfl := Option.some.inj h
    show FinP _ _ _ _ _ _ _
    exact FinP.ret _ (res1 rfl rfl) ⟨rfl, hr59, hS60.ext⟩

theorem c_spec_l17Size {w : World} {orders : (List Int)} {v_orders : Value} (r_orders : (Ty.sl (Ty.i .i64)).rep w v_orders orders) {res : Int} (h : p_spec_l17Size orders  = some res) :
    Ret Try.prog 74 #[v_orders] w (fun v w' => v = Value.int .i64 res ∧ InR .i64 res ∧ Ext w w') := by
  unfold p_spec_l17Size at h
  have hS0 : St w w [] := St.start w
  refine Ret.start (fn := Try.f74) Try.func74 rfl 5 rfl rfl ?_
  refine W.seq (W.region ?_)
  refine WL.val (Value.int .i64 (0 : Int)) _ (op_assign rfl) rfl ?_
  refine WL.nil ?_
  show W _ _ _ _ _ _
  refine W.seq (W.region ?_)
  refine WL.val v_orders _ (op_move rfl) rfl ?_
  obtain ⟨x1, hx2, h⟩ := bs h
  refine WL.call _ (op_call fn_97 (args2 rfl rfl)) (c_spec_l06Size (Ty.lift _ hS0.ext r_orders) (inR_i64.2 (show (-9223372036854775808 : Int) ≤ 8 ∧ (8 : Int) ≤ 9223372036854775807 from by decide)) hx2) rfl ?_
  rintro _ wd4 ⟨rfl, hr3, he5⟩
  have hS7 := St.extend hS0 he5
  replace hS7 : St w wd4 [] := hS7
  refine WL.val (Value.int .i64 x1) _ (op_assign rfl) rfl ?_
  refine WL.nil ?_
  show W _ _ _ _ _ _
  refine W.ret ?_
  obtain rfl := Option.some.inj h
  show FinP _ _ _ _ _ _ _
  exact FinP.ret _ (res1 rfl rfl) ⟨rfl, hr3, hS7.ext⟩

theorem c_spec_l06Add {w : World} {orders : (List Int)} {v_orders : Value} {x : Int} {y : Int} (r_orders : (Ty.sl (Ty.i .i64)).rep w v_orders orders) (r_x : InR .i64 x) (r_y : InR .i64 y) {res : Int} (h : p_spec_l06Add orders x y  = some res) :
    Ret Try.prog 99 #[v_orders, (Value.int .i64 x), (Value.int .i64 y)] w (fun v w' => v = Value.int .i64 res ∧ InR .i64 res ∧ Ext w w') := by
  unfold p_spec_l06Add at h
  have hS0 : St w w [] := St.start w
  refine Ret.start (fn := Try.f99) Try.func99 rfl 58 rfl rfl ?_
  refine W.seq (W.region ?_)
  refine WL.val (Value.int .i64 (0 : Int)) _ (op_assign rfl) rfl ?_
  refine WL.nil ?_
  show W _ _ _ _ _ _
  refine W.seq (W.region ?_)
  refine WL.val (Value.int .i64 (0 : Int)) _ (op_assign rfl) rfl ?_
  refine WL.val (Value.int .i64 (1 : Int)) _ (op_assign rfl) rfl ?_
  refine WL.nil ?_
  show W _ _ _ _ _ _
  refine W.seq (W.seq (W.region ?_))
  refine WL.val v_orders _ (op_move rfl) rfl ?_
  have hr1 := inR_len (Ty.lift _ hS0.ext r_orders)
  refine WL.val (Value.int .i64 ((orders).length : Int)) _ (op_lenL sl_22 (Ty.lift _ hS0.ext r_orders) rfl) rfl ?_
  refine WL.val (Value.int .i64 (w64 (((orders).length : Int) - (1 : Int)))) _ (op_sub rfl rfl) rfl ?_
  refine WL.val (Value.int .i64 (w64 (((orders).length : Int) - (1 : Int)))) _ (op_assign rfl) rfl ?_
  refine WL.nil ?_
  show W _ _ _ _ _ _
  obtain ⟨res2, hres3, h⟩ := bs h
  refine W.blockLoop (fun fq wq => ∃ s, res2 = Res.fin s ∧ fq 7 = Value.int .i64 s.2.2.1 ∧ InR .i64 s.2.2.1 ∧ St w wq []) ?_ ?_
  · refine W.whileC (fun (s : Int × Int × Int × Int × Int) fq wq => fq 0 = v_orders ∧ fq 1 = Value.int .i64 s.1 ∧ InR .i64 s.1 ∧ fq 2 = Value.int .i64 s.2.1 ∧ InR .i64 s.2.1 ∧ fq 7 = Value.int .i64 s.2.2.1 ∧ InR .i64 s.2.2.1 ∧ fq 8 = Value.int .i64 s.2.2.2.1 ∧ InR .i64 s.2.2.2.1 ∧ fq 9 = Value.int .i64 s.2.2.2.2 ∧ InR .i64 s.2.2.2.2 ∧ St w wq []) hres3 ⟨rfl, rfl, r_x, rfl, r_y, rfl, (inR_i64.2 (show (-9223372036854775808 : Int) ≤ 0 ∧ (0 : Int) ≤ 9223372036854775807 from by decide)), rfl, (inR_i64.2 (show (-9223372036854775808 : Int) ≤ 1 ∧ (1 : Int) ≤ 9223372036854775807 from by decide)), rfl, (inR_wrap _ _), hS0⟩ ?_
    intro s317 ct10 f11 wd12 hb14 hI15 hbrk16 hret17
    obtain ⟨x5, x6, x7, x8, x9⟩ := s317
    replace hI15 : f11 0 = v_orders ∧ f11 1 = Value.int .i64 x5 ∧ InR .i64 x5 ∧ f11 2 = Value.int .i64 x6 ∧ InR .i64 x6 ∧ f11 7 = Value.int .i64 x7 ∧ InR .i64 x7 ∧ f11 8 = Value.int .i64 x8 ∧ InR .i64 x8 ∧ f11 9 = Value.int .i64 x9 ∧ InR .i64 x9 ∧ St w wd12 [] := hI15
    replace hb14 : p_spec_l06Add_L1 orders  x5 x6 x7 x8 x9 = some ct10 := hb14
    unfold p_spec_l06Add_L1 at hb14
    obtain ⟨hf18, hf19, hr20, hf21, hr22, hf23, hr24, hf25, hr26, hf27, hr28, hS29⟩ := hI15
    refine W.seq (W.seq (W.region ?_))
    refine WL.val (Value.int .i64 x9) _ (op_move hf27) rfl ?_
    refine WL.val (Value.bool (decide (x9 ≥ (0 : Int)))) _ (op_geq rfl rfl) rfl ?_
    refine WL.nil ?_
    show W _ _ _ _ _ _
    refine W.cond (decide (x9 ≥ (0 : Int))) rfl (fun hc30 => ?_) (fun hc30 => ?_)
    · replace hb14 := ip hb14 hc30
      refine W.skip ?_
      show W _ _ _ _ _ _
      refine W.seq ?_
      refine W.block ?_
      refine W.seq ?_
      obtain ⟨x75, hx78, hb14⟩ := bs hb14
      obtain ⟨ha76, hb77, hx78⟩ := idx_some hx78
      obtain ⟨u89, hc90, hr91⟩ := repSl.el r_orders hx78
      obtain ⟨rfl, hr91⟩ := hr91
      obtain ⟨x108, hz109, hb14⟩ := bs hb14
      obtain ⟨h0110, hz109⟩ := remI_some hz109
      obtain ⟨u158, hc159, hr160⟩ := repSl.el r_orders hx78
      obtain ⟨rfl, hr160⟩ := hr160
      obtain ⟨x177, hz178, hb14⟩ := bs hb14
      obtain ⟨h0179, hz178⟩ := remI_some hz178
      obtain ⟨u236, hc237, hr238⟩ := repSl.el r_orders hx78
      obtain ⟨rfl, hr238⟩ := hr238
      obtain ⟨x255, hz256, hb14⟩ := bs hb14
      obtain ⟨h0257, hz256⟩ := remI_some hz256
      refine W.drawR mixo 21 [] [fun _ v _ _ => v = (Value.int .i64 x7) ∧ InR .i64 x7, fun _ v _ _ => v = (Value.int .i64 x5) ∧ InR .i64 x5, fun _ v _ _ => v = v_orders, fun _ v _ _ => v = (Value.int .i64 x9) ∧ InR .i64 x9, fun _ v _ _ => v = (Value.pointer (some (elA v_orders (x9).toNat))), fun _ v _ _ => v = (Value.int .i64 x75) ∧ InR .i64 x75, fun _ v _ _ => v = (Value.int .i64 x108) ∧ InR .i64 x108, fun _ v _ _ => v = (Value.int .i64 x6) ∧ InR .i64 x6, fun _ v _ _ => v = v_orders, fun _ v _ _ => v = (Value.int .i64 x9) ∧ InR .i64 x9, fun _ v _ _ => v = (Value.pointer (some (elA v_orders (x9).toNat))), fun _ v _ _ => v = (Value.int .i64 x75) ∧ InR .i64 x75, fun _ v _ _ => v = (Value.int .i64 x177) ∧ InR .i64 x177, fun _ v _ _ => v = (Value.int .i64 (w64 (x108 + x177))) ∧ InR .i64 (w64 (x108 + x177)), fun _ v _ _ => v = v_orders, fun _ v _ _ => v = (Value.int .i64 x9) ∧ InR .i64 x9, fun _ v _ _ => v = (Value.pointer (some (elA v_orders (x9).toNat))), fun _ v _ _ => v = (Value.int .i64 x75) ∧ InR .i64 x75, fun _ v _ _ => v = (Value.int .i64 x255) ∧ InR .i64 x255, fun _ v _ _ => v = (Value.int .i64 x8) ∧ InR .i64 x8, fun _ v _ _ => v = (Value.int .i64 (w64 (x255 * x8))) ∧ InR .i64 (w64 (x255 * x8))] (by kernel_rfl) (by kernel_rfl) ⟨⟨fun _ _ _ _ _ _ h => h, fun _ _ _ _ _ _ h => h⟩, ⟨fun _ _ _ _ _ _ h => h, fun _ _ _ _ _ _ h => h⟩, ⟨fun _ _ _ _ _ _ h => h, fun _ _ _ _ _ _ h => h⟩, ⟨fun _ _ _ _ _ _ h => h, fun _ _ _ _ _ _ h => h⟩, ⟨fun _ _ _ _ _ _ h => h, fun _ _ _ _ _ _ h => h⟩, ⟨fun _ _ _ _ _ _ h => h, fun _ _ _ _ _ _ h => h⟩, ⟨fun _ _ _ _ _ _ h => h, fun _ _ _ _ _ _ h => h⟩, ⟨fun _ _ _ _ _ _ h => h, fun _ _ _ _ _ _ h => h⟩, ⟨fun _ _ _ _ _ _ h => h, fun _ _ _ _ _ _ h => h⟩, ⟨fun _ _ _ _ _ _ h => h, fun _ _ _ _ _ _ h => h⟩, ⟨fun _ _ _ _ _ _ h => h, fun _ _ _ _ _ _ h => h⟩, ⟨fun _ _ _ _ _ _ h => h, fun _ _ _ _ _ _ h => h⟩, ⟨fun _ _ _ _ _ _ h => h, fun _ _ _ _ _ _ h => h⟩, ⟨fun _ _ _ _ _ _ h => h, fun _ _ _ _ _ _ h => h⟩, ⟨fun _ _ _ _ _ _ h => h, fun _ _ _ _ _ _ h => h⟩, ⟨fun _ _ _ _ _ _ h => h, fun _ _ _ _ _ _ h => h⟩, ⟨fun _ _ _ _ _ _ h => h, fun _ _ _ _ _ _ h => h⟩, ⟨fun _ _ _ _ _ _ h => h, fun _ _ _ _ _ _ h => h⟩, ⟨fun _ _ _ _ _ _ h => h, fun _ _ _ _ _ _ h => h⟩, ⟨fun _ _ _ _ _ _ h => h, fun _ _ _ _ _ _ h => h⟩, ⟨fun _ _ _ _ _ _ h => h, fun _ _ _ _ _ _ h => h⟩, trivial⟩ ⟨?_, ?_, ?_, ?_, ?_, ?_, ?_, ?_, ?_, ?_, ?_, ?_, ?_, ?_, ?_, ?_, ?_, ?_, ?_, ?_, ?_, trivial⟩ ?_
      · refine ObX.op rfl ?_
        intro f32 wd33 he34 hout35 hphi36
        have hS37 : St w wd33 [] := St.extend hS29 he34
        have e38 : f32 7 = (Value.int .i64 x7) := (hout35 7 rfl).trans hf23
        exact OpX.val (Value.int .i64 x7) wd33 rfl (op_move e38) (Ext.refl _) ⟨rfl, hr24⟩
      · refine ObX.op rfl ?_
        intro f39 wd40 he41 hout42 hphi43
        have hS44 : St w wd40 [] := St.extend hS29 he41
        have e45 : f39 1 = (Value.int .i64 x5) := (hout42 1 rfl).trans hf19
        exact OpX.val (Value.int .i64 x5) wd40 rfl (op_move e45) (Ext.refl _) ⟨rfl, hr20⟩
      · refine ObX.op rfl ?_
        intro f46 wd47 he48 hout49 hphi50
        have hS51 : St w wd47 [] := St.extend hS29 he48
        have e52 : f46 0 = v_orders := (hout49 0 rfl).trans hf18
        exact OpX.val v_orders wd47 rfl (op_move e52) (Ext.refl _) rfl
      · refine ObX.op rfl ?_
        intro f53 wd54 he55 hout56 hphi57
        have hS58 : St w wd54 [] := St.extend hS29 he55
        have e59 : f53 9 = (Value.int .i64 x9) := (hout56 9 rfl).trans hf27
        exact OpX.val (Value.int .i64 x9) wd54 rfl (op_move e59) (Ext.refl _) ⟨rfl, hr28⟩
      · refine ObX.op rfl ?_
        intro f60 wd61 he62 hout63 hphi64
        have hS65 : St w wd61 [] := St.extend hS29 he62
        obtain ⟨S66, hS67, hf68⟩ := hphi64 2 19 _ rfl rfl rfl
        have e69 : f60 19 = v_orders := hf68
        obtain ⟨S70, hS71, hf72⟩ := hphi64 3 20 _ rfl rfl rfl
        obtain ⟨e73, hr74⟩ : f60 20 = (Value.int .i64 x9) ∧ InR .i64 x9 := hf72
        exact OpX.val (Value.pointer (some (elA v_orders (x9).toNat))) wd61 rfl (op_idx sl_22 (Ty.lift _ hS65.ext r_orders) e69 e73 ha76 hb77) (Ext.refl _) rfl
      · refine ObX.op rfl ?_
        intro f79 wd80 he81 hout82 hphi83
        have hS84 : St w wd80 [] := St.extend hS29 he81
        obtain ⟨S85, hS86, hf87⟩ := hphi83 4 21 _ rfl rfl rfl
        have e88 : f79 21 = (Value.pointer (some (elA v_orders (x9).toNat))) := hf87
        exact OpX.val (Value.int .i64 x75) wd80 rfl (op_load one_2 e88 (Ext.cell hS84.ext hc90)) (Ext.refl _) ⟨rfl, hr91⟩
      · refine ObX.op rfl ?_
        intro f92 wd93 he94 hout95 hphi96
        have hS97 : St w wd93 [] := St.extend hS29 he94
        obtain ⟨S98, hS99, hf100⟩ := hphi96 1 18 _ rfl rfl rfl
        obtain ⟨e101, hr102⟩ : f92 18 = (Value.int .i64 x5) ∧ InR .i64 x5 := hf100
        obtain ⟨S103, hS104, hf105⟩ := hphi96 5 22 _ rfl rfl rfl
        obtain ⟨e106, hr107⟩ : f92 22 = (Value.int .i64 x75) ∧ InR .i64 x75 := hf105
        have hr111 : InR .i64 x108 := by rw [hz109]; exact inR_tmod hr102
        exact OpX.val (Value.int .i64 x108) wd93 rfl (by rw [hz109]; exact op_rem e101 e106 h0110) (Ext.refl _) ⟨rfl, hr111⟩
      · refine ObX.op rfl ?_
        intro f112 wd113 he114 hout115 hphi116
        have hS117 : St w wd113 [] := St.extend hS29 he114
        have e118 : f112 2 = (Value.int .i64 x6) := (hout115 2 rfl).trans hf21
        exact OpX.val (Value.int .i64 x6) wd113 rfl (op_move e118) (Ext.refl _) ⟨rfl, hr22⟩
      · refine ObX.op rfl ?_
        intro f119 wd120 he121 hout122 hphi123
        have hS124 : St w wd120 [] := St.extend hS29 he121
        have e125 : f119 0 = v_orders := (hout122 0 rfl).trans hf18
        exact OpX.val v_orders wd120 rfl (op_move e125) (Ext.refl _) rfl
      · refine ObX.op rfl ?_
        intro f126 wd127 he128 hout129 hphi130
        have hS131 : St w wd127 [] := St.extend hS29 he128
        have e132 : f126 9 = (Value.int .i64 x9) := (hout129 9 rfl).trans hf27
        exact OpX.val (Value.int .i64 x9) wd127 rfl (op_move e132) (Ext.refl _) ⟨rfl, hr28⟩
      · refine ObX.op rfl ?_
        intro f133 wd134 he135 hout136 hphi137
        have hS138 : St w wd134 [] := St.extend hS29 he135
        obtain ⟨S139, hS140, hf141⟩ := hphi137 8 25 _ rfl rfl rfl
        have e142 : f133 25 = v_orders := hf141
        obtain ⟨S143, hS144, hf145⟩ := hphi137 9 26 _ rfl rfl rfl
        obtain ⟨e146, hr147⟩ : f133 26 = (Value.int .i64 x9) ∧ InR .i64 x9 := hf145
        exact OpX.val (Value.pointer (some (elA v_orders (x9).toNat))) wd134 rfl (op_idx sl_22 (Ty.lift _ hS138.ext r_orders) e142 e146 ha76 hb77) (Ext.refl _) rfl
      · refine ObX.op rfl ?_
        intro f148 wd149 he150 hout151 hphi152
        have hS153 : St w wd149 [] := St.extend hS29 he150
        obtain ⟨S154, hS155, hf156⟩ := hphi152 10 27 _ rfl rfl rfl
        have e157 : f148 27 = (Value.pointer (some (elA v_orders (x9).toNat))) := hf156
        exact OpX.val (Value.int .i64 x75) wd149 rfl (op_load one_2 e157 (Ext.cell hS153.ext hc159)) (Ext.refl _) ⟨rfl, hr160⟩
      · refine ObX.op rfl ?_
        intro f161 wd162 he163 hout164 hphi165
        have hS166 : St w wd162 [] := St.extend hS29 he163
        obtain ⟨S167, hS168, hf169⟩ := hphi165 7 24 _ rfl rfl rfl
        obtain ⟨e170, hr171⟩ : f161 24 = (Value.int .i64 x6) ∧ InR .i64 x6 := hf169
        obtain ⟨S172, hS173, hf174⟩ := hphi165 11 28 _ rfl rfl rfl
        obtain ⟨e175, hr176⟩ : f161 28 = (Value.int .i64 x75) ∧ InR .i64 x75 := hf174
        have hr180 : InR .i64 x177 := by rw [hz178]; exact inR_tmod hr171
        exact OpX.val (Value.int .i64 x177) wd162 rfl (by rw [hz178]; exact op_rem e170 e175 h0179) (Ext.refl _) ⟨rfl, hr180⟩
      · refine ObX.op rfl ?_
        intro f181 wd182 he183 hout184 hphi185
        have hS186 : St w wd182 [] := St.extend hS29 he183
        obtain ⟨S187, hS188, hf189⟩ := hphi185 6 23 _ rfl rfl rfl
        obtain ⟨e190, hr191⟩ : f181 23 = (Value.int .i64 x108) ∧ InR .i64 x108 := hf189
        obtain ⟨S192, hS193, hf194⟩ := hphi185 12 29 _ rfl rfl rfl
        obtain ⟨e195, hr196⟩ : f181 29 = (Value.int .i64 x177) ∧ InR .i64 x177 := hf194
        exact OpX.val (Value.int .i64 (w64 (x108 + x177))) wd182 rfl (op_add e190 e195) (Ext.refl _) ⟨rfl, (inR_wrap _ _)⟩
      · refine ObX.op rfl ?_
        intro f197 wd198 he199 hout200 hphi201
        have hS202 : St w wd198 [] := St.extend hS29 he199
        have e203 : f197 0 = v_orders := (hout200 0 rfl).trans hf18
        exact OpX.val v_orders wd198 rfl (op_move e203) (Ext.refl _) rfl
      · refine ObX.op rfl ?_
        intro f204 wd205 he206 hout207 hphi208
        have hS209 : St w wd205 [] := St.extend hS29 he206
        have e210 : f204 9 = (Value.int .i64 x9) := (hout207 9 rfl).trans hf27
        exact OpX.val (Value.int .i64 x9) wd205 rfl (op_move e210) (Ext.refl _) ⟨rfl, hr28⟩
      · refine ObX.op rfl ?_
        intro f211 wd212 he213 hout214 hphi215
        have hS216 : St w wd212 [] := St.extend hS29 he213
        obtain ⟨S217, hS218, hf219⟩ := hphi215 14 31 _ rfl rfl rfl
        have e220 : f211 31 = v_orders := hf219
        obtain ⟨S221, hS222, hf223⟩ := hphi215 15 32 _ rfl rfl rfl
        obtain ⟨e224, hr225⟩ : f211 32 = (Value.int .i64 x9) ∧ InR .i64 x9 := hf223
        exact OpX.val (Value.pointer (some (elA v_orders (x9).toNat))) wd212 rfl (op_idx sl_22 (Ty.lift _ hS216.ext r_orders) e220 e224 ha76 hb77) (Ext.refl _) rfl
      · refine ObX.op rfl ?_
        intro f226 wd227 he228 hout229 hphi230
        have hS231 : St w wd227 [] := St.extend hS29 he228
        obtain ⟨S232, hS233, hf234⟩ := hphi230 16 33 _ rfl rfl rfl
        have e235 : f226 33 = (Value.pointer (some (elA v_orders (x9).toNat))) := hf234
        exact OpX.val (Value.int .i64 x75) wd227 rfl (op_load one_2 e235 (Ext.cell hS231.ext hc237)) (Ext.refl _) ⟨rfl, hr238⟩
      · refine ObX.op rfl ?_
        intro f239 wd240 he241 hout242 hphi243
        have hS244 : St w wd240 [] := St.extend hS29 he241
        obtain ⟨S245, hS246, hf247⟩ := hphi243 13 30 _ rfl rfl rfl
        obtain ⟨e248, hr249⟩ : f239 30 = (Value.int .i64 (w64 (x108 + x177))) ∧ InR .i64 (w64 (x108 + x177)) := hf247
        obtain ⟨S250, hS251, hf252⟩ := hphi243 17 34 _ rfl rfl rfl
        obtain ⟨e253, hr254⟩ : f239 34 = (Value.int .i64 x75) ∧ InR .i64 x75 := hf252
        have hr258 : InR .i64 x255 := by rw [hz256]; exact inR_tmod hr249
        exact OpX.val (Value.int .i64 x255) wd240 rfl (by rw [hz256]; exact op_rem e248 e253 h0257) (Ext.refl _) ⟨rfl, hr258⟩
      · refine ObX.op rfl ?_
        intro f259 wd260 he261 hout262 hphi263
        have hS264 : St w wd260 [] := St.extend hS29 he261
        have e265 : f259 8 = (Value.int .i64 x8) := (hout262 8 rfl).trans hf25
        exact OpX.val (Value.int .i64 x8) wd260 rfl (op_move e265) (Ext.refl _) ⟨rfl, hr26⟩
      · refine ObX.op rfl ?_
        intro f266 wd267 he268 hout269 hphi270
        have hS271 : St w wd267 [] := St.extend hS29 he268
        obtain ⟨S272, hS273, hf274⟩ := hphi270 18 35 _ rfl rfl rfl
        obtain ⟨e275, hr276⟩ : f266 35 = (Value.int .i64 x255) ∧ InR .i64 x255 := hf274
        obtain ⟨S277, hS278, hf279⟩ := hphi270 19 36 _ rfl rfl rfl
        obtain ⟨e280, hr281⟩ : f266 36 = (Value.int .i64 x8) ∧ InR .i64 x8 := hf279
        exact OpX.val (Value.int .i64 (w64 (x255 * x8))) wd267 rfl (op_mul e275 e280) (Ext.refl _) ⟨rfl, (inR_wrap _ _)⟩
      · intro f282 wd283 Ss284 he285 hout286 hSn287 hSd288 hphi289
        show WL _ _ _ _ _ _ _
        have hS290 : St w wd283 [] := St.extend hS29 he285
        obtain ⟨e291, hr292⟩ : f282 17 = (Value.int .i64 x7) ∧ InR .i64 x7 := hphi289 0 17 _ (by decide) rfl rfl
        obtain ⟨e293, hr294⟩ : f282 37 = (Value.int .i64 (w64 (x255 * x8))) ∧ InR .i64 (w64 (x255 * x8)) := hphi289 20 37 _ (by decide) rfl rfl
        have e295 : f282 0 = v_orders := (hout286 0 rfl).trans hf18
        have e296 : f282 1 = (Value.int .i64 x5) := (hout286 1 rfl).trans hf19
        have e297 : f282 2 = (Value.int .i64 x6) := (hout286 2 rfl).trans hf21
        have e298 : f282 8 = (Value.int .i64 x8) := (hout286 8 rfl).trans hf25
        have e299 : f282 9 = (Value.int .i64 x9) := (hout286 9 rfl).trans hf27
        refine WL.val (Value.int .i64 (w64 (x7 + (w64 (x255 * x8))))) _ (op_add e291 e293) rfl ?_
        refine WL.val (Value.int .i64 (w64 (x7 + (w64 (x255 * x8))))) _ (op_assign rfl) rfl ?_
        refine WL.nil ?_
        show W _ _ _ _ _ _
        refine W.seq (W.region ?_)
        refine WL.val (Value.int .i64 x8) _ (op_move e298) rfl ?_
        refine WL.val v_orders _ (op_move e295) rfl ?_
        refine WL.val (Value.int .i64 x9) _ (op_move e299) rfl ?_
        refine WL.val (Value.pointer (some (elA v_orders (x9).toNat))) _ (op_idx sl_22 (Ty.lift _ hS290.ext r_orders) rfl rfl ha76 hb77) rfl ?_
        obtain ⟨u300, hc301, hr302⟩ := repSl.el r_orders hx78
        obtain ⟨rfl, hr302⟩ := hr302
        refine WL.val (Value.int .i64 x75) _ (op_load one_2 rfl (Ext.cell hS290.ext hc301)) rfl ?_
        refine WL.val (Value.int .i64 (w64 (x8 * x75))) _ (op_mul rfl rfl) rfl ?_
        refine WL.val (Value.int .i64 (w64 (x8 * x75))) _ (op_assign rfl) rfl ?_
        refine WL.nil ?_
        show W _ _ _ _ _ _
        refine W.seq (W.region ?_)
        refine WL.val (Value.int .i64 x5) _ (op_move e296) rfl ?_
        refine WL.val v_orders _ (op_move e295) rfl ?_
        refine WL.val (Value.int .i64 x9) _ (op_move e299) rfl ?_
        refine WL.val (Value.pointer (some (elA v_orders (x9).toNat))) _ (op_idx sl_22 (Ty.lift _ hS290.ext r_orders) rfl rfl ha76 hb77) rfl ?_
        obtain ⟨u303, hc304, hr305⟩ := repSl.el r_orders hx78
        obtain ⟨rfl, hr305⟩ := hr305
        refine WL.val (Value.int .i64 x75) _ (op_load one_2 rfl (Ext.cell hS290.ext hc304)) rfl ?_
        obtain ⟨x306, hz307, hb14⟩ := bs hb14
        obtain ⟨h0308, hz307⟩ := quoI_some hz307
        have hr309 : InR .i64 x306 := by rw [hz307]; exact inR_wrap _ _
        refine WL.val (Value.int .i64 x306) _ (by rw [hz307]; exact op_quo rfl rfl h0308) rfl ?_
        refine WL.val (Value.int .i64 x306) _ (op_assign rfl) rfl ?_
        refine WL.nil ?_
        show W _ _ _ _ _ _
        refine W.region ?_
        refine WL.val (Value.int .i64 x6) _ (op_move e297) rfl ?_
        refine WL.val v_orders _ (op_move e295) rfl ?_
        refine WL.val (Value.int .i64 x9) _ (op_move e299) rfl ?_
        refine WL.val (Value.pointer (some (elA v_orders (x9).toNat))) _ (op_idx sl_22 (Ty.lift _ hS290.ext r_orders) rfl rfl ha76 hb77) rfl ?_
        obtain ⟨u310, hc311, hr312⟩ := repSl.el r_orders hx78
        obtain ⟨rfl, hr312⟩ := hr312
        refine WL.val (Value.int .i64 x75) _ (op_load one_2 rfl (Ext.cell hS290.ext hc311)) rfl ?_
        obtain ⟨x313, hz314, hb14⟩ := bs hb14
        obtain ⟨h0315, hz314⟩ := quoI_some hz314
        have hr316 : InR .i64 x313 := by rw [hz314]; exact inR_wrap _ _
        refine WL.val (Value.int .i64 x313) _ (by rw [hz314]; exact op_quo rfl rfl h0315) rfl ?_
        refine WL.val (Value.int .i64 x313) _ (op_assign rfl) rfl ?_
        refine WL.nil ?_
        show W _ _ _ _ _ _
        refine W.region ?_
        refine WL.val (Value.int .i64 x9) _ (op_move e299) rfl ?_
        refine WL.val (Value.int .i64 (w64 (x9 - (1 : Int)))) _ (op_sub rfl rfl) rfl ?_
        refine WL.val (Value.int .i64 (w64 (x9 - (1 : Int)))) _ (op_assign rfl) rfl ?_
        refine WL.nil ?_
        obtain rfl := Option.some.inj hb14
        show ∃ s, _ = Ctl.next s ∧ _
        exact ⟨_, rfl, e295, rfl, hr309, rfl, hr316, rfl, (inR_wrap _ _), rfl, (inR_wrap _ _), rfl, (inR_wrap _ _), hS290⟩
    · replace hb14 := inegb hb14 hc30
      refine W.exit ?_
      obtain rfl := Option.some.inj hb14
      show _ = _ ∧ _
      exact ⟨rfl, _, hbrk16 _ rfl, hf23, hr24, hS29⟩
  · rintro f318 wd319 ⟨s321, rfl, hq320⟩
    replace h := onRes_fin h
    obtain ⟨x322, x323, x324, x325, x326⟩ := s321
    replace hq320 : f318 7 = Value.int .i64 x324 ∧ InR .i64 x324 ∧ St w wd319 [] := hq320
    replace h : (_ : Option _) = _ := h
    dsimp only at h
    obtain ⟨hf327, hr328, hS329⟩ := hq320
    show W _ _ _ _ _ _
    refine W.seq (W.region ?_)
    refine WL.val (Value.int .i64 x324) _ (op_move hf327) rfl ?_
    refine WL.val (Value.int .i64 x324) _ (op_assign rfl) rfl ?_
    refine WL.nil ?_
    show W _ _ _ _ _ _
    refine W.ret ?_
    obtain rfl := Option.some.inj h
    show FinP _ _ _ _ _ _ _
    exact FinP.ret _ (res1 rfl rfl) ⟨rfl, hr328, hS329.ext⟩

theorem c_impl_groupSize {w : World} {orders : (List Int)} {v_orders : Value} (r_orders : (Ty.sl (Ty.i .i64)).rep w v_orders orders) {res : Int} (h : p_impl_groupSize orders  = some res) :
    Ret Try.prog 80 #[v_orders] w (fun v w' => v = Value.int .i64 res ∧ InR .i64 res ∧ Ext w w') := by
  unfold p_impl_groupSize at h
  have hS0 : St w w [] := St.start w
  refine Ret.start (fn := Try.f80) Try.func80 rfl 24 rfl rfl ?_
  refine W.seq (W.region ?_)
  refine WL.val (Value.int .i64 (0 : Int)) _ (op_assign rfl) rfl ?_
  refine WL.nil ?_
  show W _ _ _ _ _ _
  refine W.seq (W.region ?_)
  refine WL.val (Value.int .i64 (1 : Int)) _ (op_assign rfl) rfl ?_
  refine WL.nil ?_
  show W _ _ _ _ _ _
  refine W.seq (W.seq (W.region ?_))
  refine WL.val v_orders _ (op_move rfl) rfl ?_
  have hr1 := inR_len (Ty.lift _ hS0.ext r_orders)
  refine WL.val (Value.int .i64 ((orders).length : Int)) _ (op_lenL sl_22 (Ty.lift _ hS0.ext r_orders) rfl) rfl ?_
  refine WL.val (Value.int .i64 (0 : Int)) _ (op_move rfl) rfl ?_
  refine WL.nil ?_
  show W _ _ _ _ _ _
  obtain ⟨res2, hres3, h⟩ := bs h
  refine W.blockLoop (fun fq wq => ∃ s, res2 = Res.fin s ∧ fq 0 = v_orders ∧ fq 3 = Value.int .i64 s ∧ InR .i64 s ∧ St w wq []) ?_ ?_
  · refine W.forN (fun k (s : Int) fq wq => fq 0 = v_orders ∧ fq 3 = Value.int .i64 s ∧ InR .i64 s ∧ fq 6 = v_orders ∧ fq 7 = (Value.int .i64 ((orders).length : Int)) ∧ fq 8 = Value.int .i64 (k : Int) ∧ InR .i64 (k : Int) ∧ St w wq []) hres3 ⟨rfl, rfl, (inR_i64.2 (show (-9223372036854775808 : Int) ≤ 1 ∧ (1 : Int) ≤ 9223372036854775807 from by decide)), rfl, rfl, rfl, (inR_i64.2 (show (-9223372036854775808 : Int) ≤ 0 ∧ (0 : Int) ≤ 9223372036854775807 from by decide)), hS0⟩ ?_ ?_
    · intro k4 x5 ct6 f7 wd8 hk9 hb10 hI11 hbrk12 hret13
      replace hI11 : f7 0 = v_orders ∧ f7 3 = Value.int .i64 x5 ∧ InR .i64 x5 ∧ f7 6 = v_orders ∧ f7 7 = (Value.int .i64 ((orders).length : Int)) ∧ f7 8 = Value.int .i64 (k4 : Int) ∧ InR .i64 (k4 : Int) ∧ St w wd8 [] := hI11
      replace hb10 : p_impl_groupSize_L1 orders k4 x5 = some ct6 := hb10
      unfold p_impl_groupSize_L1 at hb10
      obtain ⟨hf14, hf15, hr16, hf17, hf18, hf19, hr20, hS21⟩ := hI11
      refine W.seq (W.region ?_)
      refine WL.val (Value.bool (decide ((k4 : Int) < ((orders).length : Int)))) _ (op_lss hf19 hf18) rfl ?_
      have hl22 : (k4 : Int) < ((orders).length : Int) := by omega
      refine WL.nil ?_
      show W _ _ _ _ _ _
      refine W.seq ?_
      refine W.condT (decide ((k4 : Int) < ((orders).length : Int))) rfl (decide_eq_true hl22) ?_
      refine W.skip ?_
      show W _ _ _ _ _ _
      refine W.seq ?_
      refine W.block ?_
      refine W.seq (W.region ?_)
      obtain ⟨x24, hx27, hb10⟩ := bs hb10
      obtain ⟨ha25, hb26, hx27⟩ := idx_some hx27
      refine WL.val (Value.pointer (some (elA v_orders ((k4 : Int)).toNat))) _ (op_idx sl_22 (Ty.lift _ hS21.ext r_orders) hf17 hf19 ha25 hb26) rfl ?_
      obtain ⟨u28, hc29, hr30⟩ := repSl.el r_orders hx27
      obtain ⟨rfl, hr30⟩ := hr30
      refine WL.val (Value.int .i64 x24) _ (op_load one_2 rfl (Ext.cell hS21.ext hc29)) rfl ?_
      refine WL.val (Value.int .i64 x24) _ (op_assign rfl) rfl ?_
      refine WL.nil ?_
      show W _ _ _ _ _ _
      refine W.seq (W.seq (W.region ?_))
      refine WL.val (Value.int .i64 x24) _ (op_move rfl) rfl ?_
      refine WL.val (Value.bool (decide (x24 < (1 : Int)))) _ (op_lss rfl rfl) rfl ?_
      refine WL.nil ?_
      show W _ _ _ _ _ _
      refine W.cond (decide (x24 < (1 : Int))) rfl (fun hc31 => ?_) (fun hc31 => ?_)
      · replace hb10 := ip hb10 hc31
        refine W.seq (W.region ?_)
        refine WL.val (Value.int .i64 (0 : Int)) _ (op_assign rfl) rfl ?_
        refine WL.nil ?_
        show W _ _ _ _ _ _
        refine W.ret ?_
        obtain rfl := Option.some.inj hb10
        obtain rfl := hret13 _ rfl
        replace h := onRes_ret h
        obtain rfl := Option.some.inj h
        show FinP _ _ _ _ _ _ _
        exact FinP.ret _ (res1 rfl rfl) ⟨rfl, (inR_i64.2 (show (-9223372036854775808 : Int) ≤ 0 ∧ (0 : Int) ≤ 9223372036854775807 from by decide)), hS21.ext⟩
      · replace hb10 := inegb hb10 hc31
        refine W.skip ?_
        show W _ _ _ _ _ _
        refine W.region ?_
        refine WL.val (Value.int .i64 x5) _ (op_move hf15) rfl ?_
        refine WL.val (Value.int .i64 x24) _ (op_move rfl) rfl ?_
        refine WL.val (Value.int .i64 (if (17 : Int) < x24 then (17 : Int) else x24)) _ (op_min2 rfl rfl) rfl ?_
        refine WL.val (Value.int .i64 (w64 (x5 * (if (17 : Int) < x24 then (17 : Int) else x24)))) _ (op_mul rfl rfl) rfl ?_
        refine WL.val (Value.int .i64 (if (w64 (x5 * (if (17 : Int) < x24 then (17 : Int) else x24))) < (17 : Int) then (w64 (x5 * (if (17 : Int) < x24 then (17 : Int) else x24))) else (17 : Int))) _ (op_min2 rfl rfl) rfl ?_
        refine WL.val (Value.int .i64 (if (w64 (x5 * (if (17 : Int) < x24 then (17 : Int) else x24))) < (17 : Int) then (w64 (x5 * (if (17 : Int) < x24 then (17 : Int) else x24))) else (17 : Int))) _ (op_assign rfl) rfl ?_
        refine WL.nil ?_
        show W _ _ _ _ _ _
        refine W.region ?_
        refine WL.val (Value.int .i64 (w64 ((k4 : Int) + (1 : Int)))) _ (op_add hf19 rfl) rfl ?_
        refine WL.val (Value.int .i64 (w64 ((k4 : Int) + (1 : Int)))) _ (op_move rfl) rfl ?_
        refine WL.nil ?_
        obtain rfl := Option.some.inj hb10
        show ∃ s, _ = Ctl.next s ∧ _
        exact ⟨_, rfl, hf14, rfl, (inR_ite (inR_wrap _ _) (inR_i64.2 (show (-9223372036854775808 : Int) ≤ 17 ∧ (17 : Int) ≤ 9223372036854775807 from by decide))), hf17, hf18, (ctr_next hl22 hr1), (ctr_rng hl22 hr1), hS21⟩
    · intro x39 f34 wd35 hs36 hI37
      replace hI37 : f34 0 = v_orders ∧ f34 3 = Value.int .i64 x39 ∧ InR .i64 x39 ∧ f34 6 = v_orders ∧ f34 7 = (Value.int .i64 ((orders).length : Int)) ∧ f34 8 = Value.int .i64 (((orders).length : Nat) : Int) ∧ InR .i64 (((orders).length : Nat) : Int) ∧ St w wd35 [] := hI37
      obtain ⟨hf40, hf41, hr42, hf43, hf44, hf45, hr46, hS47⟩ := hI37
      refine W.seq (W.region ?_)
      refine WL.val (Value.bool (decide ((((orders).length : Nat) : Int) < ((orders).length : Int)))) _ (op_lss hf45 hf44) rfl ?_
      have hl48 : ¬ (((orders).length : Nat) : Int) < ((orders).length : Int) := by omega
      refine WL.nil ?_
      show W _ _ _ _ _ _
      refine W.seq ?_
      refine W.condF (decide ((((orders).length : Nat) : Int) < ((orders).length : Int))) rfl (decide_eq_false hl48) ?_
      refine W.exit ?_
      show _ = _ ∧ _
      exact ⟨rfl, _, hs36, hf40, hf41, hr42, hS47⟩
  · rintro f49 wd50 ⟨x53, rfl, hq51⟩
    replace h := onRes_fin h
    replace hq51 : f49 0 = v_orders ∧ f49 3 = Value.int .i64 x53 ∧ InR .i64 x53 ∧ St w wd50 [] := hq51
    obtain ⟨hf54, hf55, hr56, hS57⟩ := hq51
    show W _ _ _ _ _ _
    refine W.seq (W.seq (W.region ?_))
    refine WL.val v_orders _ (op_move hf54) rfl ?_
    have hr58 := inR_len (Ty.lift _ hS57.ext r_orders)
    refine WL.val (Value.int .i64 ((orders).length : Int)) _ (op_lenL sl_22 (Ty.lift _ hS57.ext r_orders) rfl) rfl ?_
    refine WL.val (Value.bool (((orders).length : Int) == (0 : Int))) _ (op_eql rfl rfl) rfl ?_
    refine WL.nil ?_
    show W _ _ _ _ _ _
    refine W.cond (((orders).length : Int) == (0 : Int)) rfl (fun hc59 => ?_) (fun hc59 => ?_)
    · replace h := ip h hc59
      refine W.seq (W.region ?_)
      refine WL.val (Value.int .i64 (0 : Int)) _ (op_assign rfl) rfl ?_
      refine WL.nil ?_
      show W _ _ _ _ _ _
      refine W.ret ?_
      obtain rfl := Option.some.inj h
      show FinP _ _ _ _ _ _ _
      exact FinP.ret _ (res1 rfl rfl) ⟨rfl, (inR_i64.2 (show (-9223372036854775808 : Int) ≤ 0 ∧ (0 : Int) ≤ 9223372036854775807 from by decide)), hS57.ext⟩
    · replace h := inegb h hc59
      refine W.skip ?_
      show W _ _ _ _ _ _
      refine W.seq (W.region ?_)
      refine WL.val (Value.int .i64 x53) _ (op_move hf55) rfl ?_
      refine WL.val (Value.int .i64 x53) _ (op_assign rfl) rfl ?_
      refine WL.nil ?_
      show W _ _ _ _ _ _
      refine W.ret ?_
      obtain rfl := Option.some.inj h
      show FinP _ _ _ _ _ _ _
      exact FinP.ret _ (res1 rfl rfl) ⟨rfl, hr56, hS57.ext⟩

theorem c_impl_within {w : World} {n : Int} {low : Int} {high : Int} (r_n : InR .i64 n) (r_low : InR .i64 low) (r_high : InR .i64 high) {res : Bool} (h : p_impl_within n low high  = some res) :
    Ret Try.prog 68 #[(Value.int .i64 n), (Value.int .i64 low), (Value.int .i64 high)] w (fun v w' => v = Value.bool res ∧ Ext w w') := by
  unfold p_impl_within at h
  have hS0 : St w w [] := St.start w
  refine Ret.start (fn := Try.f68) Try.func68 rfl 15 rfl rfl ?_
  refine W.seq (W.region ?_)
  refine WL.val (Value.bool false) _ (op_assign rfl) rfl ?_
  refine WL.nil ?_
  show W _ _ _ _ _ _
  refine W.seq (W.region ?_)
  refine WL.val (Value.int .i64 n) _ (op_move rfl) rfl ?_
  refine WL.val (Value.int .i64 low) _ (op_move rfl) rfl ?_
  refine WL.val (Value.bool (decide (n ≥ low))) _ (op_geq rfl rfl) rfl ?_
  refine WL.val (Value.bool (decide (n ≥ low))) _ (op_move rfl) rfl ?_
  refine WL.cut 4 (fun fq wq => fq 14 = (Value.bool ((decide (n ≥ low)) && (decide (n ≤ high)))) ∧ St w wq []) ?_ ?_
  · rcases Bool.eq_false_or_eq_true (decide (n ≥ low)) with hc1 | hc1
    · refine WL.grun rfl (bool_of rfl hc1) ?_
      refine WL.val (Value.int .i64 n) _ (op_move rfl) rfl ?_
      refine WL.grun rfl (bool_of rfl hc1) ?_
      refine WL.val (Value.int .i64 high) _ (op_move rfl) rfl ?_
      refine WL.grun rfl (bool_of rfl hc1) ?_
      refine WL.val (Value.bool (decide (n ≤ high))) _ (op_leq rfl rfl) rfl ?_
      refine WL.val (Value.bool (decide (n ≤ high))) _ (op_pick_t (evb_of rfl hc1) rfl) rfl ?_
      refine WL.nil ?_
      exact ⟨rfl, (andT hc1), hS0⟩
    · refine WL.gskip rfl (bool_of rfl hc1) rfl ?_
      refine WL.gskip rfl (bool_of rfl hc1) rfl ?_
      refine WL.gskip rfl (bool_of rfl hc1) rfl ?_
      refine WL.val (Value.bool false) _ (op_pick_f (evb_of rfl hc1) rfl) rfl ?_
      refine WL.nil ?_
      exact ⟨rfl, (andF hc1), hS0⟩
  · intro f2 wd3 hq4
    obtain ⟨hf5, hS6⟩ := hq4
    refine WL.val (Value.bool ((decide (n ≥ low)) && (decide (n ≤ high)))) _ (op_assign hf5) rfl ?_
    refine WL.nil ?_
    show W _ _ _ _ _ _
    refine W.ret ?_
    obtain rfl := Option.some.inj h
    show FinP _ _ _ _ _ _ _
    exact FinP.ret _ (res1 rfl rfl) ⟨rfl, hS6.ext⟩

theorem c_impl_isModulus {w : World} {m : Int} (r_m : InR .i64 m) {res : Bool} (h : p_impl_isModulus m  = some res) :
    Ret Try.prog 79 #[(Value.int .i64 m)] w (fun v w' => v = Value.bool res ∧ Ext w w') := by
  unfold p_impl_isModulus at h
  have hS0 : St w w [] := St.start w
  refine Ret.start (fn := Try.f79) Try.func79 rfl 5 rfl rfl ?_
  refine W.seq (W.region ?_)
  refine WL.val (Value.bool false) _ (op_assign rfl) rfl ?_
  refine WL.nil ?_
  show W _ _ _ _ _ _
  refine W.seq (W.region ?_)
  refine WL.val (Value.int .i64 m) _ (op_move rfl) rfl ?_
  obtain ⟨x1, hx2, h⟩ := bs h
  refine WL.call _ (op_call fn_68 (args3 rfl rfl rfl)) (c_impl_within r_m (inR_i64.2 (show (-9223372036854775808 : Int) ≤ 1 ∧ (1 : Int) ≤ 9223372036854775807 from by decide)) (inR_i64.2 (show (-9223372036854775808 : Int) ≤ 1000 ∧ (1000 : Int) ≤ 9223372036854775807 from by decide)) hx2) rfl ?_
  rintro _ wd3 ⟨rfl, he4⟩
  have hS6 := St.extend hS0 he4
  replace hS6 : St w wd3 [] := hS6
  refine WL.val (Value.bool x1) _ (op_assign rfl) rfl ?_
  refine WL.nil ?_
  show W _ _ _ _ _ _
  refine W.ret ?_
  obtain rfl := Option.some.inj h
  show FinP _ _ _ _ _ _ _
  exact FinP.ret _ (res1 rfl rfl) ⟨rfl, hS6.ext⟩

theorem c_impl_allWithin_c1 {w : World} {n : Int} {b_c0 : Nat} {c0 : Int} {b_c1 : Nat} {c1 : Int} (r_n : InR .i64 n) (k_c0 : BoxAt w b_c0 [(Value.int .i64 c0)]) (r_c0 : InR .i64 c0) (k_c1 : BoxAt w b_c1 [(Value.int .i64 c1)]) (r_c1 : InR .i64 c1) {res : Bool} (h : p_impl_allWithin_c1 n c0 c1 = some res) :
    Ret Try.prog 110 #[(Value.int .i64 n), (Value.pointer (some ⟨b_c0, 0, none⟩)), (Value.pointer (some ⟨b_c1, 0, none⟩))] w (fun v w' => v = Value.bool res ∧ Ext w w') := by
  unfold p_impl_allWithin_c1 at h
  have hS0 : St w w [] := St.start w
  refine Ret.start (fn := Try.f110) Try.func110 rfl 10 rfl rfl ?_
  refine W.seq (W.region ?_)
  refine WL.val (Value.bool false) _ (op_assign rfl) rfl ?_
  refine WL.nil ?_
  show W _ _ _ _ _ _
  refine W.seq (W.region ?_)
  refine WL.val (Value.int .i64 n) _ (op_move rfl) rfl ?_
  refine WL.val (Value.int .i64 c0) _ (op_load one_2 rfl (BoxAt.cell (BoxAt.lift hS0.ext k_c0) rfl)) rfl ?_
  refine WL.val (Value.int .i64 c1) _ (op_load one_2 rfl (BoxAt.cell (BoxAt.lift hS0.ext k_c1) rfl)) rfl ?_
  obtain ⟨x1, hx2, h⟩ := bs h
  refine WL.call _ (op_call fn_68 (args3 rfl rfl rfl)) (c_impl_within r_n r_c0 r_c1 hx2) rfl ?_
  rintro _ wd3 ⟨rfl, he4⟩
  have hS6 := St.extend hS0 he4
  replace hS6 : St w wd3 [] := hS6
  refine WL.val (Value.bool (!x1)) _ (op_not rfl) rfl ?_
  refine WL.val (Value.bool (!x1)) _ (op_assign rfl) rfl ?_
  refine WL.nil ?_
  show W _ _ _ _ _ _
  refine W.ret ?_
  obtain rfl := Option.some.inj h
  show FinP _ _ _ _ _ _ _
  exact FinP.ret _ (res1 rfl rfl) ⟨rfl, hS6.ext⟩

theorem c_slices_IndexFunc_Lint64_int64 {w : World} {s1 : (List Int)} {v_s1 : Value} {f1 : Int → Option Bool} {v_f1 : Value} (r_s1 : (Ty.sl (Ty.i .i64)).rep w v_s1 s1) (r_f1 : FnT_i_to_b Try.prog v_f1 w f1) {res : Int} (h : p_slices_IndexFunc_Lint64_int64 s1 f1  = some res) :
    Ret Try.prog 112 #[v_s1, v_f1] w (fun v w' => v = Value.int .i64 res ∧ InR .i64 res ∧ Ext w w') := by
  unfold p_slices_IndexFunc_Lint64_int64 at h
  have hS0 : St w w [] := St.start w
  have q_f1 := r_f1
  obtain ⟨g_f1, fst_f1, cap_f1, eq_f1, ok_f1, call_f1⟩ := q_f1
  subst eq_f1
  refine Ret.start (fn := Try.f112) Try.func112 rfl 19 rfl rfl ?_
  refine W.seq (W.region ?_)
  refine WL.val (Value.int .i64 (0 : Int)) _ (op_assign rfl) rfl ?_
  refine WL.nil ?_
  show W _ _ _ _ _ _
  refine W.seq (W.seq (W.region ?_))
  refine WL.val v_s1 _ (op_move rfl) rfl ?_
  have hr1 := inR_len (Ty.lift _ hS0.ext r_s1)
  refine WL.val (Value.int .i64 ((s1).length : Int)) _ (op_lenL sl_22 (Ty.lift _ hS0.ext r_s1) rfl) rfl ?_
  refine WL.val (Value.int .i64 (0 : Int)) _ (op_move rfl) rfl ?_
  refine WL.nil ?_
  show W _ _ _ _ _ _
  obtain ⟨res2, hres3, h⟩ := bs h
  refine W.blockLoop (fun fq wq => ∃ s, res2 = Res.fin s ∧ St w wq []) ?_ ?_
  · refine W.forN (fun k (s : Unit) fq wq => fq 0 = v_s1 ∧ fq 1 = (Value.func (.func g_f1) fst_f1 cap_f1) ∧ fq 7 = (Value.int .i64 ((s1).length : Int)) ∧ fq 8 = Value.int .i64 (k : Int) ∧ InR .i64 (k : Int) ∧ St w wq []) hres3 ⟨rfl, rfl, rfl, rfl, (inR_i64.2 (show (-9223372036854775808 : Int) ≤ 0 ∧ (0 : Int) ≤ 9223372036854775807 from by decide)), hS0⟩ ?_ ?_
    · intro k4 s36 ct5 f6 wd7 hk8 hb9 hI10 hbrk11 hret12
      obtain ⟨⟩ := s36
      replace hI10 : f6 0 = v_s1 ∧ f6 1 = (Value.func (.func g_f1) fst_f1 cap_f1) ∧ f6 7 = (Value.int .i64 ((s1).length : Int)) ∧ f6 8 = Value.int .i64 (k4 : Int) ∧ InR .i64 (k4 : Int) ∧ St w wd7 [] := hI10
      replace hb9 : p_slices_IndexFunc_Lint64_int64_L1 s1 f1 k4  = some ct5 := hb9
      unfold p_slices_IndexFunc_Lint64_int64_L1 at hb9
      obtain ⟨hf13, hf14, hf15, hf16, hr17, hS18⟩ := hI10
      refine W.seq (W.region ?_)
      refine WL.val (Value.bool (decide ((k4 : Int) < ((s1).length : Int)))) _ (op_lss hf16 hf15) rfl ?_
      have hl19 : (k4 : Int) < ((s1).length : Int) := by omega
      refine WL.nil ?_
      show W _ _ _ _ _ _
      refine W.seq ?_
      refine W.condT (decide ((k4 : Int) < ((s1).length : Int))) rfl (decide_eq_true hl19) ?_
      refine W.skip ?_
      show W _ _ _ _ _ _
      refine W.seq ?_
      refine W.block ?_
      refine W.seq (W.region ?_)
      refine WL.val (Value.int .i64 (k4 : Int)) _ (op_move hf16) rfl ?_
      refine WL.val (Value.int .i64 (k4 : Int)) _ (op_assign rfl) rfl ?_
      refine WL.nil ?_
      show W _ _ _ _ _ _
      refine W.seq (W.region ?_)
      refine WL.val (Value.func (.func g_f1) fst_f1 cap_f1) _ (op_move hf14) rfl ?_
      refine WL.val v_s1 _ (op_move hf13) rfl ?_
      refine WL.val (Value.int .i64 (k4 : Int)) _ (op_move rfl) rfl ?_
      obtain ⟨x21, hx24, hb9⟩ := bs hb9
      obtain ⟨ha22, hb23, hx24⟩ := idx_some hx24
      refine WL.val (Value.pointer (some (elA v_s1 ((k4 : Int)).toNat))) _ (op_idx sl_22 (Ty.lift _ hS18.ext r_s1) rfl rfl ha22 hb23) rfl ?_
      obtain ⟨u25, hc26, hr27⟩ := repSl.el r_s1 hx24
      obtain ⟨rfl, hr27⟩ := hr27
      refine WL.val (Value.int .i64 x21) _ (op_load one_2 rfl (Ext.cell hS18.ext hc26)) rfl ?_
      obtain ⟨x28, hx29, hb9⟩ := bs hb9
      refine WL.call _ (op_callV rfl ok_f1 (args1 rfl)) (call_f1 wd7 x21 x28 hS18.ext hr27 hx29) rfl ?_
      rintro _ wd30 ⟨rfl, he31⟩
      have hS33 := St.extend hS18 he31
      refine WL.nil ?_
      show W _ _ _ _ _ _
      refine W.cond x28 rfl (fun hc34 => ?_) (fun hc34 => ?_)
      · replace hb9 := ip hb9 hc34
        refine W.seq (W.region ?_)
        refine WL.val (Value.int .i64 (k4 : Int)) _ (op_move rfl) rfl ?_
        refine WL.val (Value.int .i64 (k4 : Int)) _ (op_assign rfl) rfl ?_
        refine WL.nil ?_
        show W _ _ _ _ _ _
        refine W.ret ?_
        obtain rfl := Option.some.inj hb9
        obtain rfl := hret12 _ rfl
        replace h := onRes_ret h
        obtain rfl := Option.some.inj h
        show FinP _ _ _ _ _ _ _
        exact FinP.ret _ (res1 rfl rfl) ⟨rfl, hr17, hS33.ext⟩
      · replace hb9 := inegb hb9 hc34
        refine W.skip ?_
        show W _ _ _ _ _ _
        refine W.region ?_
        refine WL.val (Value.int .i64 (w64 ((k4 : Int) + (1 : Int)))) _ (op_add hf16 rfl) rfl ?_
        refine WL.val (Value.int .i64 (w64 ((k4 : Int) + (1 : Int)))) _ (op_move rfl) rfl ?_
        refine WL.nil ?_
        obtain rfl := Option.some.inj hb9
        show ∃ s, _ = Ctl.next s ∧ _
        exact ⟨_, rfl, hf13, hf14, hf15, (ctr_next hl19 hr1), (ctr_rng hl19 hr1), hS33⟩
    · intro s41 f37 wd38 hs39 hI40
      obtain ⟨⟩ := s41
      replace hI40 : f37 0 = v_s1 ∧ f37 1 = (Value.func (.func g_f1) fst_f1 cap_f1) ∧ f37 7 = (Value.int .i64 ((s1).length : Int)) ∧ f37 8 = Value.int .i64 (((s1).length : Nat) : Int) ∧ InR .i64 (((s1).length : Nat) : Int) ∧ St w wd38 [] := hI40
      obtain ⟨hf42, hf43, hf44, hf45, hr46, hS47⟩ := hI40
      refine W.seq (W.region ?_)
      refine WL.val (Value.bool (decide ((((s1).length : Nat) : Int) < ((s1).length : Int)))) _ (op_lss hf45 hf44) rfl ?_
      have hl48 : ¬ (((s1).length : Nat) : Int) < ((s1).length : Int) := by omega
      refine WL.nil ?_
      show W _ _ _ _ _ _
      refine W.seq ?_
      refine W.condF (decide ((((s1).length : Nat) : Int) < ((s1).length : Int))) rfl (decide_eq_false hl48) ?_
      refine W.exit ?_
      show _ = _ ∧ _
      exact ⟨rfl, _, hs39, hS47⟩
  · rintro f49 wd50 ⟨s52, rfl, hq51⟩
    replace h := onRes_fin h
    obtain ⟨⟩ := s52
    replace hq51 : St w wd50 [] := hq51
    have hS53 := hq51
    show W _ _ _ _ _ _
    refine W.seq (W.region ?_)
    refine WL.val (Value.int .i64 (-1 : Int)) _ (op_assign rfl) rfl ?_
    refine WL.nil ?_
    show W _ _ _ _ _ _
    refine W.ret ?_
    obtain rfl := Option.some.inj h
    show FinP _ _ _ _ _ _ _
    exact FinP.ret _ (res1 rfl rfl) ⟨rfl, (inR_i64.2 (show (-9223372036854775808 : Int) ≤ -1 ∧ (-1 : Int) ≤ 9223372036854775807 from by decide)), hS53.ext⟩

theorem c_slices_ContainsFunc_Lint64_int64 {w : World} {s1 : (List Int)} {v_s1 : Value} {f1 : Int → Option Bool} {v_f1 : Value} (r_s1 : (Ty.sl (Ty.i .i64)).rep w v_s1 s1) (r_f1 : FnT_i_to_b Try.prog v_f1 w f1) {res : Bool} (h : p_slices_ContainsFunc_Lint64_int64 s1 f1  = some res) :
    Ret Try.prog 109 #[v_s1, v_f1] w (fun v w' => v = Value.bool res ∧ Ext w w') := by
  unfold p_slices_ContainsFunc_Lint64_int64 at h
  have hS0 : St w w [] := St.start w
  have q_f1 := r_f1
  obtain ⟨g_f1, fst_f1, cap_f1, eq_f1, ok_f1, call_f1⟩ := q_f1
  subst eq_f1
  refine Ret.start (fn := Try.f109) Try.func109 rfl 9 rfl rfl ?_
  refine W.seq (W.region ?_)
  refine WL.val (Value.bool false) _ (op_assign rfl) rfl ?_
  refine WL.nil ?_
  show W _ _ _ _ _ _
  refine W.seq (W.region ?_)
  refine WL.val v_s1 _ (op_move rfl) rfl ?_
  refine WL.val (Value.func (.func g_f1) fst_f1 cap_f1) _ (op_move rfl) rfl ?_
  obtain ⟨x1, hx2, h⟩ := bs h
  refine WL.call _ (op_call fn_112 (args2 rfl rfl)) (c_slices_IndexFunc_Lint64_int64 (Ty.lift _ hS0.ext r_s1) (FnT_i_to_b.lift hS0.ext r_f1) hx2) rfl ?_
  rintro _ wd4 ⟨rfl, hr3, he5⟩
  have hS7 := St.extend hS0 he5
  replace hS7 : St w wd4 [] := hS7
  refine WL.val (Value.bool (decide (x1 ≥ (0 : Int)))) _ (op_geq rfl rfl) rfl ?_
  refine WL.val (Value.bool (decide (x1 ≥ (0 : Int)))) _ (op_assign rfl) rfl ?_
  refine WL.nil ?_
  show W _ _ _ _ _ _
  refine W.ret ?_
  obtain rfl := Option.some.inj h
  show FinP _ _ _ _ _ _ _
  exact FinP.ret _ (res1 rfl rfl) ⟨rfl, hS7.ext⟩

theorem c_impl_allWithin {w : World} {list : (List Int)} {v_list : Value} {low : Int} {high : Int} (r_list : (Ty.sl (Ty.i .i64)).rep w v_list list) (r_low : InR .i64 low) (r_high : InR .i64 high) {res : Bool} (h : p_impl_allWithin list low high  = some res) :
    Ret Try.prog 106 #[v_list, (Value.int .i64 low), (Value.int .i64 high)] w (fun v w' => v = Value.bool res ∧ Ext w w') := by
  unfold p_impl_allWithin at h
  have hS0 : St w w [] := St.start w
  refine Ret.start (fn := Try.f106) Try.func106 rfl 11 rfl rfl ?_
  refine W.seq (W.region ?_)
  refine WL.box hS0 rfl (cs := [(Value.int .i64 low)]) rfl rfl ?_
  intro b1 wd2 hS3 he4 hx5
  replace hS3 : St w wd2 [bx b1 [(Value.int .i64 low)]] := hS3
  have hx6 := St.boxAt hS3 0 rfl
  have hE7 : Ext w wd2 := hS3.ext
  have hS8 : St wd2 wd2 [] := St.start wd2
  refine WL.box hS8 rfl (cs := [(Value.int .i64 high)]) rfl rfl ?_
  intro b9 wd10 hS11 he12 hx13
  replace hS11 : St wd2 wd10 [bx b9 [(Value.int .i64 high)]] := hS11
  have hx14 := St.boxAt hS11 0 rfl
  have hE15 : Ext w wd10 := (Ext.trans hE7 hS11.ext)
  have hE16 : Ext wd2 wd10 := hS11.ext
  have hS17 : St wd10 wd10 [] := St.start wd10
  refine WL.val (Value.bool false) _ (op_assign rfl) rfl ?_
  refine WL.nil ?_
  show W _ _ _ _ _ _
  refine W.seq (W.region ?_)
  refine WL.val v_list _ (op_move rfl) rfl ?_
  refine WL.val (Value.func (.func 110) #[] #[(Value.pointer (some ⟨b1, 0, none⟩)), (Value.pointer (some ⟨b9, 0, none⟩))]) _ (op_makeFunc (va := #[]) (vb := #[(Value.pointer (some ⟨b1, 0, none⟩)), (Value.pointer (some ⟨b9, 0, none⟩))]) args0 (args2 rfl rfl)) rfl ?_
  obtain ⟨x22, hx23, h⟩ := bs h
  refine WL.call _ (op_call fn_109 (args2 rfl rfl)) (c_slices_ContainsFunc_Lint64_int64 (Ty.lift _ (Ext.trans hE15 hS17.ext) r_list) (⟨110, #[], #[(Value.pointer (some ⟨b1, 0, none⟩)), (Value.pointer (some ⟨b9, 0, none⟩))], rfl, fn_110, fun wd18 a0_19 r20 he19 ra0_19 hq21 => c_impl_allWithin_c1 ra0_19 (BoxAt.lift (Ext.trans (Ext.trans hE16 hS17.ext) he19) hx6) r_low (BoxAt.lift (Ext.trans hS17.ext he19) hx14) r_high hq21⟩) hx23) rfl ?_
  rintro _ wd24 ⟨rfl, he25⟩
  have hS27 := St.extend hS17 he25
  replace hS27 : St wd10 wd24 [] := hS27
  refine WL.val (Value.bool (!x22)) _ (op_not rfl) rfl ?_
  refine WL.val (Value.bool (!x22)) _ (op_assign rfl) rfl ?_
  refine WL.nil ?_
  show W _ _ _ _ _ _
  refine W.ret ?_
  obtain rfl := Option.some.inj h
  show FinP _ _ _ _ _ _ _
  exact FinP.ret _ (res1 rfl rfl) ⟨rfl, (Ext.trans hE15 hS27.ext)⟩

theorem c_impl_isGrid_c1 {w : World} {row : (List Int)} {v_row : Value} {b_c0 : Nat} {c0 : Int} {b_c1 : Nat} {c1 : Int} (r_row : (Ty.sl (Ty.i .i64)).rep w v_row row) (k_c0 : BoxAt w b_c0 [(Value.int .i64 c0)]) (r_c0 : InR .i64 c0) (k_c1 : BoxAt w b_c1 [(Value.int .i64 c1)]) (r_c1 : InR .i64 c1) {res : Bool} (h : p_impl_isGrid_c1 row c0 c1 = some res) :
    Ret Try.prog 105 #[v_row, (Value.pointer (some ⟨b_c0, 0, none⟩)), (Value.pointer (some ⟨b_c1, 0, none⟩))] w (fun v w' => v = Value.bool res ∧ Ext w w') := by
  unfold p_impl_isGrid_c1 at h
  have hS0 : St w w [] := St.start w
  refine Ret.start (fn := Try.f105) Try.func105 rfl 16 rfl rfl ?_
  refine W.seq (W.region ?_)
  refine WL.val (Value.bool false) _ (op_assign rfl) rfl ?_
  refine WL.nil ?_
  show W _ _ _ _ _ _
  refine W.seq (W.region ?_)
  refine WL.val v_row _ (op_move rfl) rfl ?_
  have hr1 := inR_len (Ty.lift _ hS0.ext r_row)
  refine WL.val (Value.int .i64 ((row).length : Int)) _ (op_lenL sl_22 (Ty.lift _ hS0.ext r_row) rfl) rfl ?_
  refine WL.val (Value.int .i64 c0) _ (op_load one_3 rfl (BoxAt.cell (BoxAt.lift hS0.ext k_c0) rfl)) rfl ?_
  refine WL.val (Value.bool (((row).length : Int) != c0)) _ (op_neq rfl rfl) rfl ?_
  refine WL.val (Value.bool (((row).length : Int) != c0)) _ (op_move rfl) rfl ?_
  obtain ⟨x3, hj4, h⟩ := bs h
  refine WL.cut 6 (fun fq wq => fq 15 = Value.bool x3 ∧ St w wq []) ?_ ?_
  · rcases Bool.eq_false_or_eq_true (((row).length : Int) != c0) with hc2 | hc2
    · replace hj4 := ip hj4 hc2
      refine WL.gskip rfl (bool_of rfl hc2) rfl ?_
      refine WL.gskip rfl (bool_of rfl hc2) rfl ?_
      refine WL.gskip rfl (bool_of rfl hc2) rfl ?_
      refine WL.gskip rfl (bool_of rfl hc2) rfl ?_
      refine WL.gskip rfl (bool_of rfl hc2) rfl ?_
      refine WL.val (Value.bool true) _ (op_pick_t (evb_of rfl hc2) rfl) rfl ?_
      refine WL.nil ?_
      obtain rfl := Option.some.inj hj4
      exact ⟨rfl, rfl, hS0⟩
    · replace hj4 := inegb hj4 hc2
      refine WL.grun rfl (bool_of rfl hc2) ?_
      refine WL.val v_row _ (op_move rfl) rfl ?_
      refine WL.grun rfl (bool_of rfl hc2) ?_
      refine WL.val (Value.int .i64 c1) _ (op_load one_2 rfl (BoxAt.cell (BoxAt.lift hS0.ext k_c1) rfl)) rfl ?_
      refine WL.grun rfl (bool_of rfl hc2) ?_
      refine WL.val (Value.int .i64 (w64 (c1 - (1 : Int)))) _ (op_sub rfl rfl) rfl ?_
      refine WL.grun rfl (bool_of rfl hc2) ?_
      obtain ⟨x8, hx9, hj4⟩ := bs hj4
      refine WL.call _ (op_call fn_106 (args3 rfl rfl rfl)) (c_impl_allWithin (Ty.lift _ hS0.ext r_row) (inR_i64.2 (show (-9223372036854775808 : Int) ≤ 0 ∧ (0 : Int) ≤ 9223372036854775807 from by decide)) (inR_wrap _ _) hx9) rfl ?_
      rintro _ wd10 ⟨rfl, he11⟩
      have hS13 := St.extend hS0 he11
      replace hS13 : St w wd10 [] := hS13
      refine WL.grun rfl (bool_of rfl hc2) ?_
      refine WL.val (Value.bool (!x8)) _ (op_not rfl) rfl ?_
      refine WL.val (Value.bool (!x8)) _ (op_pick_f (evb_of rfl hc2) rfl) rfl ?_
      refine WL.nil ?_
      obtain rfl := Option.some.inj hj4
      exact ⟨rfl, rfl, hS13⟩
  · intro f5 wd6 hq7
    obtain ⟨hf14, hS15⟩ := hq7
    refine WL.val (Value.bool x3) _ (op_assign hf14) rfl ?_
    refine WL.nil ?_
    show W _ _ _ _ _ _
    refine W.ret ?_
    obtain rfl := Option.some.inj h
    show FinP _ _ _ _ _ _ _
    exact FinP.ret _ (res1 rfl rfl) ⟨rfl, hS15.ext⟩

theorem c_slices_IndexFunc_LLint64_Lint64 {w : World} {s1 : (List (List Int))} {v_s1 : Value} {f1 : (List Int) → Option Bool} {v_f1 : Value} (r_s1 : (Ty.sl (Ty.sl (Ty.i .i64))).rep w v_s1 s1) (r_f1 : FnT_li_to_b Try.prog v_f1 w f1) {res : Int} (h : p_slices_IndexFunc_LLint64_Lint64 s1 f1  = some res) :
    Ret Try.prog 108 #[v_s1, v_f1] w (fun v w' => v = Value.int .i64 res ∧ InR .i64 res ∧ Ext w w') := by
  unfold p_slices_IndexFunc_LLint64_Lint64 at h
  have hS0 : St w w [] := St.start w
  have q_f1 := r_f1
  obtain ⟨g_f1, fst_f1, cap_f1, eq_f1, ok_f1, call_f1⟩ := q_f1
  subst eq_f1
  refine Ret.start (fn := Try.f108) Try.func108 rfl 19 rfl rfl ?_
  refine W.seq (W.region ?_)
  refine WL.val (Value.int .i64 (0 : Int)) _ (op_assign rfl) rfl ?_
  refine WL.nil ?_
  show W _ _ _ _ _ _
  refine W.seq (W.seq (W.region ?_))
  refine WL.val v_s1 _ (op_move rfl) rfl ?_
  have hr1 := inR_len (Ty.lift _ hS0.ext r_s1)
  refine WL.val (Value.int .i64 ((s1).length : Int)) _ (op_lenL sl_27 (Ty.lift _ hS0.ext r_s1) rfl) rfl ?_
  refine WL.val (Value.int .i64 (0 : Int)) _ (op_move rfl) rfl ?_
  refine WL.nil ?_
  show W _ _ _ _ _ _
  obtain ⟨res2, hres3, h⟩ := bs h
  refine W.blockLoop (fun fq wq => ∃ s, res2 = Res.fin s ∧ St w wq []) ?_ ?_
  · refine W.forN (fun k (s : Unit) fq wq => fq 0 = v_s1 ∧ fq 1 = (Value.func (.func g_f1) fst_f1 cap_f1) ∧ fq 7 = (Value.int .i64 ((s1).length : Int)) ∧ fq 8 = Value.int .i64 (k : Int) ∧ InR .i64 (k : Int) ∧ St w wq []) hres3 ⟨rfl, rfl, rfl, rfl, (inR_i64.2 (show (-9223372036854775808 : Int) ≤ 0 ∧ (0 : Int) ≤ 9223372036854775807 from by decide)), hS0⟩ ?_ ?_
    · intro k4 s36 ct5 f6 wd7 hk8 hb9 hI10 hbrk11 hret12
      obtain ⟨⟩ := s36
      replace hI10 : f6 0 = v_s1 ∧ f6 1 = (Value.func (.func g_f1) fst_f1 cap_f1) ∧ f6 7 = (Value.int .i64 ((s1).length : Int)) ∧ f6 8 = Value.int .i64 (k4 : Int) ∧ InR .i64 (k4 : Int) ∧ St w wd7 [] := hI10
      replace hb9 : p_slices_IndexFunc_LLint64_Lint64_L1 s1 f1 k4  = some ct5 := hb9
      unfold p_slices_IndexFunc_LLint64_Lint64_L1 at hb9
      obtain ⟨hf13, hf14, hf15, hf16, hr17, hS18⟩ := hI10
      refine W.seq (W.region ?_)
      refine WL.val (Value.bool (decide ((k4 : Int) < ((s1).length : Int)))) _ (op_lss hf16 hf15) rfl ?_
      have hl19 : (k4 : Int) < ((s1).length : Int) := by omega
      refine WL.nil ?_
      show W _ _ _ _ _ _
      refine W.seq ?_
      refine W.condT (decide ((k4 : Int) < ((s1).length : Int))) rfl (decide_eq_true hl19) ?_
      refine W.skip ?_
      show W _ _ _ _ _ _
      refine W.seq ?_
      refine W.block ?_
      refine W.seq (W.region ?_)
      refine WL.val (Value.int .i64 (k4 : Int)) _ (op_move hf16) rfl ?_
      refine WL.val (Value.int .i64 (k4 : Int)) _ (op_assign rfl) rfl ?_
      refine WL.nil ?_
      show W _ _ _ _ _ _
      refine W.seq (W.region ?_)
      refine WL.val (Value.func (.func g_f1) fst_f1 cap_f1) _ (op_move hf14) rfl ?_
      refine WL.val v_s1 _ (op_move hf13) rfl ?_
      refine WL.val (Value.int .i64 (k4 : Int)) _ (op_move rfl) rfl ?_
      obtain ⟨x21, hx24, hb9⟩ := bs hb9
      obtain ⟨ha22, hb23, hx24⟩ := idx_some hx24
      refine WL.val (Value.pointer (some (elA v_s1 ((k4 : Int)).toNat))) _ (op_idx sl_27 (Ty.lift _ hS18.ext r_s1) rfl rfl ha22 hb23) rfl ?_
      obtain ⟨u25, hc26, hr27⟩ := repSl.el r_s1 hx24
      refine WL.val u25 _ (op_load one_22 rfl (Ext.cell hS18.ext hc26)) rfl ?_
      obtain ⟨x28, hx29, hb9⟩ := bs hb9
      refine WL.call _ (op_callV rfl ok_f1 (args1 rfl)) (call_f1 wd7 u25 x21 x28 hS18.ext (Ty.lift _ hS18.ext hr27) hx29) rfl ?_
      rintro _ wd30 ⟨rfl, he31⟩
      have hS33 := St.extend hS18 he31
      refine WL.nil ?_
      show W _ _ _ _ _ _
      refine W.cond x28 rfl (fun hc34 => ?_) (fun hc34 => ?_)
      · replace hb9 := ip hb9 hc34
        refine W.seq (W.region ?_)
        refine WL.val (Value.int .i64 (k4 : Int)) _ (op_move rfl) rfl ?_
        refine WL.val (Value.int .i64 (k4 : Int)) _ (op_assign rfl) rfl ?_
        refine WL.nil ?_
        show W _ _ _ _ _ _
        refine W.ret ?_
        obtain rfl := Option.some.inj hb9
        obtain rfl := hret12 _ rfl
        replace h := onRes_ret h
        obtain rfl := Option.some.inj h
        show FinP _ _ _ _ _ _ _
        exact FinP.ret _ (res1 rfl rfl) ⟨rfl, hr17, hS33.ext⟩
      · replace hb9 := inegb hb9 hc34
        refine W.skip ?_
        show W _ _ _ _ _ _
        refine W.region ?_
        refine WL.val (Value.int .i64 (w64 ((k4 : Int) + (1 : Int)))) _ (op_add hf16 rfl) rfl ?_
        refine WL.val (Value.int .i64 (w64 ((k4 : Int) + (1 : Int)))) _ (op_move rfl) rfl ?_
        refine WL.nil ?_
        obtain rfl := Option.some.inj hb9
        show ∃ s, _ = Ctl.next s ∧ _
        exact ⟨_, rfl, hf13, hf14, hf15, (ctr_next hl19 hr1), (ctr_rng hl19 hr1), hS33⟩
    · intro s41 f37 wd38 hs39 hI40
      obtain ⟨⟩ := s41
      replace hI40 : f37 0 = v_s1 ∧ f37 1 = (Value.func (.func g_f1) fst_f1 cap_f1) ∧ f37 7 = (Value.int .i64 ((s1).length : Int)) ∧ f37 8 = Value.int .i64 (((s1).length : Nat) : Int) ∧ InR .i64 (((s1).length : Nat) : Int) ∧ St w wd38 [] := hI40
      obtain ⟨hf42, hf43, hf44, hf45, hr46, hS47⟩ := hI40
      refine W.seq (W.region ?_)
      refine WL.val (Value.bool (decide ((((s1).length : Nat) : Int) < ((s1).length : Int)))) _ (op_lss hf45 hf44) rfl ?_
      have hl48 : ¬ (((s1).length : Nat) : Int) < ((s1).length : Int) := by omega
      refine WL.nil ?_
      show W _ _ _ _ _ _
      refine W.seq ?_
      refine W.condF (decide ((((s1).length : Nat) : Int) < ((s1).length : Int))) rfl (decide_eq_false hl48) ?_
      refine W.exit ?_
      show _ = _ ∧ _
      exact ⟨rfl, _, hs39, hS47⟩
  · rintro f49 wd50 ⟨s52, rfl, hq51⟩
    replace h := onRes_fin h
    obtain ⟨⟩ := s52
    replace hq51 : St w wd50 [] := hq51
    have hS53 := hq51
    show W _ _ _ _ _ _
    refine W.seq (W.region ?_)
    refine WL.val (Value.int .i64 (-1 : Int)) _ (op_assign rfl) rfl ?_
    refine WL.nil ?_
    show W _ _ _ _ _ _
    refine W.ret ?_
    obtain rfl := Option.some.inj h
    show FinP _ _ _ _ _ _ _
    exact FinP.ret _ (res1 rfl rfl) ⟨rfl, (inR_i64.2 (show (-9223372036854775808 : Int) ≤ -1 ∧ (-1 : Int) ≤ 9223372036854775807 from by decide)), hS53.ext⟩

theorem c_slices_ContainsFunc_LLint64_Lint64 {w : World} {s1 : (List (List Int))} {v_s1 : Value} {f1 : (List Int) → Option Bool} {v_f1 : Value} (r_s1 : (Ty.sl (Ty.sl (Ty.i .i64))).rep w v_s1 s1) (r_f1 : FnT_li_to_b Try.prog v_f1 w f1) {res : Bool} (h : p_slices_ContainsFunc_LLint64_Lint64 s1 f1  = some res) :
    Ret Try.prog 104 #[v_s1, v_f1] w (fun v w' => v = Value.bool res ∧ Ext w w') := by
  unfold p_slices_ContainsFunc_LLint64_Lint64 at h
  have hS0 : St w w [] := St.start w
  have q_f1 := r_f1
  obtain ⟨g_f1, fst_f1, cap_f1, eq_f1, ok_f1, call_f1⟩ := q_f1
  subst eq_f1
  refine Ret.start (fn := Try.f104) Try.func104 rfl 9 rfl rfl ?_
  refine W.seq (W.region ?_)
  refine WL.val (Value.bool false) _ (op_assign rfl) rfl ?_
  refine WL.nil ?_
  show W _ _ _ _ _ _
  refine W.seq (W.region ?_)
  refine WL.val v_s1 _ (op_move rfl) rfl ?_
  refine WL.val (Value.func (.func g_f1) fst_f1 cap_f1) _ (op_move rfl) rfl ?_
  obtain ⟨x1, hx2, h⟩ := bs h
  refine WL.call _ (op_call fn_108 (args2 rfl rfl)) (c_slices_IndexFunc_LLint64_Lint64 (Ty.lift _ hS0.ext r_s1) (FnT_li_to_b.lift hS0.ext r_f1) hx2) rfl ?_
  rintro _ wd4 ⟨rfl, hr3, he5⟩
  have hS7 := St.extend hS0 he5
  replace hS7 : St w wd4 [] := hS7
  refine WL.val (Value.bool (decide (x1 ≥ (0 : Int)))) _ (op_geq rfl rfl) rfl ?_
  refine WL.val (Value.bool (decide (x1 ≥ (0 : Int)))) _ (op_assign rfl) rfl ?_
  refine WL.nil ?_
  show W _ _ _ _ _ _
  refine W.ret ?_
  obtain rfl := Option.some.inj h
  show FinP _ _ _ _ _ _ _
  exact FinP.ret _ (res1 rfl rfl) ⟨rfl, hS7.ext⟩

theorem c_impl_isGrid {w : World} {rows : (List (List Int))} {v_rows : Value} {n : Int} {m : Int} (r_rows : (Ty.sl (Ty.sl (Ty.i .i64))).rep w v_rows rows) (r_n : InR .i64 n) (r_m : InR .i64 m) {res : Bool} (h : p_impl_isGrid rows n m  = some res) :
    Ret Try.prog 93 #[v_rows, (Value.int .i64 n), (Value.int .i64 m)] w (fun v w' => v = Value.bool res ∧ Ext w w') := by
  unfold p_impl_isGrid at h
  have hS0 : St w w [] := St.start w
  refine Ret.start (fn := Try.f93) Try.func93 rfl 17 rfl rfl ?_
  refine W.seq (W.region ?_)
  refine WL.box hS0 rfl (cs := [(Value.int .i64 n)]) rfl rfl ?_
  intro b1 wd2 hS3 he4 hx5
  replace hS3 : St w wd2 [bx b1 [(Value.int .i64 n)]] := hS3
  have hx6 := St.boxAt hS3 0 rfl
  have hE7 : Ext w wd2 := hS3.ext
  have hS8 : St wd2 wd2 [] := St.start wd2
  refine WL.box hS8 rfl (cs := [(Value.int .i64 m)]) rfl rfl ?_
  intro b9 wd10 hS11 he12 hx13
  replace hS11 : St wd2 wd10 [bx b9 [(Value.int .i64 m)]] := hS11
  have hx14 := St.boxAt hS11 0 rfl
  have hE15 : Ext w wd10 := (Ext.trans hE7 hS11.ext)
  have hE16 : Ext wd2 wd10 := hS11.ext
  have hS17 : St wd10 wd10 [] := St.start wd10
  refine WL.val (Value.bool false) _ (op_assign rfl) rfl ?_
  refine WL.nil ?_
  show W _ _ _ _ _ _
  refine W.seq (W.region ?_)
  refine WL.val v_rows _ (op_move rfl) rfl ?_
  have hr18 := inR_len (Ty.lift _ (Ext.trans hE15 hS17.ext) r_rows)
  refine WL.val (Value.int .i64 ((rows).length : Int)) _ (op_lenL sl_27 (Ty.lift _ (Ext.trans hE15 hS17.ext) r_rows) rfl) rfl ?_
  refine WL.val (Value.int .i64 n) _ (op_load one_3 rfl (BoxAt.cell (BoxAt.lift (Ext.trans hE16 hS17.ext) hx6) rfl)) rfl ?_
  refine WL.val (Value.bool (((rows).length : Int) == n)) _ (op_eql rfl rfl) rfl ?_
  refine WL.val (Value.bool (((rows).length : Int) == n)) _ (op_move rfl) rfl ?_
  obtain ⟨x20, hj21, h⟩ := bs h
  refine WL.cut 5 (fun fq wq => fq 16 = Value.bool x20 ∧ St wd10 wq []) ?_ ?_
  · rcases Bool.eq_false_or_eq_true (((rows).length : Int) == n) with hc19 | hc19
    · replace hj21 := ip hj21 hc19
      refine WL.grun rfl (bool_of rfl hc19) ?_
      refine WL.val v_rows _ (op_move rfl) rfl ?_
      refine WL.grun rfl (bool_of rfl hc19) ?_
      refine WL.val (Value.func (.func 105) #[] #[(Value.pointer (some ⟨b1, 0, none⟩)), (Value.pointer (some ⟨b9, 0, none⟩))]) _ (op_makeFunc (va := #[]) (vb := #[(Value.pointer (some ⟨b1, 0, none⟩)), (Value.pointer (some ⟨b9, 0, none⟩))]) args0 (args2 rfl rfl)) rfl ?_
      refine WL.grun rfl (bool_of rfl hc19) ?_
      obtain ⟨x29, hx30, hj21⟩ := bs hj21
      refine WL.call _ (op_call fn_104 (args2 rfl rfl)) (c_slices_ContainsFunc_LLint64_Lint64 (Ty.lift _ (Ext.trans hE15 hS17.ext) r_rows) (⟨105, #[], #[(Value.pointer (some ⟨b1, 0, none⟩)), (Value.pointer (some ⟨b9, 0, none⟩))], rfl, fn_105, fun wd25 u0_26 a0_26 r27 he26 ra0_26 hq28 => c_impl_isGrid_c1 ra0_26 (BoxAt.lift (Ext.trans (Ext.trans hE16 hS17.ext) he26) hx6) r_n (BoxAt.lift (Ext.trans hS17.ext he26) hx14) r_m hq28⟩) hx30) rfl ?_
      rintro _ wd31 ⟨rfl, he32⟩
      have hS34 := St.extend hS17 he32
      replace hS34 : St wd10 wd31 [] := hS34
      refine WL.grun rfl (bool_of rfl hc19) ?_
      refine WL.val (Value.bool (!x29)) _ (op_not rfl) rfl ?_
      refine WL.val (Value.bool (!x29)) _ (op_pick_t (evb_of rfl hc19) rfl) rfl ?_
      refine WL.nil ?_
      obtain rfl := Option.some.inj hj21
      exact ⟨rfl, rfl, hS34⟩
    · replace hj21 := inegb hj21 hc19
      refine WL.gskip rfl (bool_of rfl hc19) rfl ?_
      refine WL.gskip rfl (bool_of rfl hc19) rfl ?_
      refine WL.gskip rfl (bool_of rfl hc19) rfl ?_
      refine WL.gskip rfl (bool_of rfl hc19) rfl ?_
      refine WL.val (Value.bool false) _ (op_pick_f (evb_of rfl hc19) rfl) rfl ?_
      refine WL.nil ?_
      obtain rfl := Option.some.inj hj21
      exact ⟨rfl, rfl, hS17⟩
  · intro f22 wd23 hq24
    obtain ⟨hf35, hS36⟩ := hq24
    refine WL.val (Value.bool x20) _ (op_assign hf35) rfl ?_
    refine WL.nil ?_
    show W _ _ _ _ _ _
    refine W.ret ?_
    obtain rfl := Option.some.inj h
    show FinP _ _ _ _ _ _ _
    exact FinP.ret _ (res1 rfl rfl) ⟨rfl, (Ext.trans hE15 hS36.ext)⟩

theorem c_slices_Backward_Lint64_int64_c1 {w : World} {yield : Int → Int → Option Bool} {v_yield : Value} {b_c0 : Nat} {c0 : (List Int)} {v_c0 : Value} (r_yield : FnT_i_i_to_b Try.prog v_yield w yield) (k_c0 : BoxAt w b_c0 [v_c0]) (r_c0 : (Ty.sl (Ty.i .i64)).rep w v_c0 c0) {res : Unit} (h : p_slices_Backward_Lint64_int64_c1 yield c0 = some res) :
    Ret Try.prog 111 #[v_yield, (Value.pointer (some ⟨b_c0, 0, none⟩))] w (fun v w' => v = (Value.tuple #[]) ∧ Ext w w') := by
  unfold p_slices_Backward_Lint64_int64_c1 at h
  have hS0 : St w w [] := St.start w
  have q_yield := r_yield
  obtain ⟨g_yield, fst_yield, cap_yield, eq_yield, ok_yield, call_yield⟩ := q_yield
  subst eq_yield
  refine Ret.start (fn := Try.f111) Try.func111 rfl 19 rfl rfl ?_
  refine W.seq (W.region ?_)
  refine WL.val v_c0 _ (op_load one_22 rfl (BoxAt.cell (BoxAt.lift hS0.ext k_c0) rfl)) rfl ?_
  have hr1 := inR_len (Ty.lift _ hS0.ext r_c0)
  refine WL.val (Value.int .i64 ((c0).length : Int)) _ (op_lenL sl_22 (Ty.lift _ hS0.ext r_c0) rfl) rfl ?_
  refine WL.val (Value.int .i64 (w64 (((c0).length : Int) - (1 : Int)))) _ (op_sub rfl rfl) rfl ?_
  refine WL.val (Value.int .i64 (w64 (((c0).length : Int) - (1 : Int)))) _ (op_assign rfl) rfl ?_
  refine WL.nil ?_
  show W _ _ _ _ _ _
  obtain ⟨res2, hres3, h⟩ := bs h
  refine W.blockLoop (fun fq wq => ∃ s, res2 = Res.fin s ∧ St w wq []) ?_ ?_
  · refine W.whileC (fun (s : Int) fq wq => fq 0 = (Value.func (.func g_yield) fst_yield cap_yield) ∧ fq 1 = (Value.pointer (some ⟨b_c0, 0, none⟩)) ∧ fq 3 = Value.int .i64 s ∧ InR .i64 s ∧ St w wq []) hres3 ⟨rfl, rfl, rfl, (inR_wrap _ _), hS0⟩ ?_
    intro x5 ct6 f7 wd8 hb10 hI11 hbrk12 hret13
    replace hI11 : f7 0 = (Value.func (.func g_yield) fst_yield cap_yield) ∧ f7 1 = (Value.pointer (some ⟨b_c0, 0, none⟩)) ∧ f7 3 = Value.int .i64 x5 ∧ InR .i64 x5 ∧ St w wd8 [] := hI11
    replace hb10 : p_slices_Backward_Lint64_int64_c1_L1 c0 yield  x5 = some ct6 := hb10
    unfold p_slices_Backward_Lint64_int64_c1_L1 at hb10
    obtain ⟨hf14, hf15, hf16, hr17, hS18⟩ := hI11
    refine W.seq (W.seq (W.region ?_))
    refine WL.val (Value.int .i64 x5) _ (op_move hf16) rfl ?_
    refine WL.val (Value.bool (decide (x5 ≥ (0 : Int)))) _ (op_geq rfl rfl) rfl ?_
    refine WL.nil ?_
    show W _ _ _ _ _ _
    refine W.cond (decide (x5 ≥ (0 : Int))) rfl (fun hc19 => ?_) (fun hc19 => ?_)
    · replace hb10 := ip hb10 hc19
      refine W.skip ?_
      show W _ _ _ _ _ _
      refine W.seq ?_
      refine W.block ?_
      refine W.seq (W.region ?_)
      refine WL.val (Value.func (.func g_yield) fst_yield cap_yield) _ (op_move hf14) rfl ?_
      refine WL.val (Value.int .i64 x5) _ (op_move hf16) rfl ?_
      refine WL.val v_c0 _ (op_load one_22 hf15 (BoxAt.cell (BoxAt.lift hS18.ext k_c0) rfl)) rfl ?_
      refine WL.val (Value.int .i64 x5) _ (op_move hf16) rfl ?_
      obtain ⟨x21, hx24, hb10⟩ := bs hb10
      obtain ⟨ha22, hb23, hx24⟩ := idx_some hx24
      refine WL.val (Value.pointer (some (elA v_c0 (x5).toNat))) _ (op_idx sl_22 (Ty.lift _ hS18.ext r_c0) rfl rfl ha22 hb23) rfl ?_
      obtain ⟨u25, hc26, hr27⟩ := repSl.el r_c0 hx24
      obtain ⟨rfl, hr27⟩ := hr27
      refine WL.val (Value.int .i64 x21) _ (op_load one_2 rfl (Ext.cell hS18.ext hc26)) rfl ?_
      obtain ⟨x28, hx29, hb10⟩ := bs hb10
      refine WL.call _ (op_callV rfl ok_yield (args2 rfl rfl)) (call_yield wd8 x5 x21 x28 hS18.ext hr17 hr27 hx29) rfl ?_
      rintro _ wd30 ⟨rfl, he31⟩
      have hS33 := St.extend hS18 he31
      refine WL.val (Value.bool (!x28)) _ (op_not rfl) rfl ?_
      refine WL.nil ?_
      show W _ _ _ _ _ _
      refine W.cond (!x28) rfl (fun hc34 => ?_) (fun hc34 => ?_)
      · replace hb10 := ip hb10 hc34
        refine W.ret ?_
        obtain rfl := Option.some.inj hb10
        obtain rfl := hret13 _ rfl
        replace h := onRes_ret h
        obtain rfl := Option.some.inj h
        show FinP _ _ _ _ _ _ _
        exact FinP.ret _ (res0 rfl) ⟨rfl, hS33.ext⟩
      · replace hb10 := inegb hb10 hc34
        refine W.skip ?_
        show W _ _ _ _ _ _
        refine W.region ?_
        refine WL.val (Value.int .i64 x5) _ (op_move hf16) rfl ?_
        refine WL.val (Value.int .i64 (w64 (x5 - (1 : Int)))) _ (op_sub rfl rfl) rfl ?_
        refine WL.val (Value.int .i64 (w64 (x5 - (1 : Int)))) _ (op_assign rfl) rfl ?_
        refine WL.nil ?_
        obtain rfl := Option.some.inj hb10
        show ∃ s, _ = Ctl.next s ∧ _
        exact ⟨_, rfl, hf14, hf15, rfl, (inR_wrap _ _), hS33⟩
    · replace hb10 := inegb hb10 hc19
      refine W.exit ?_
      obtain rfl := Option.some.inj hb10
      show _ = _ ∧ _
      exact ⟨rfl, _, hbrk12 _ rfl, hS18⟩
  · rintro f37 wd38 ⟨x41, rfl, hq39⟩
    replace h := onRes_fin h
    replace hq39 : St w wd38 [] := hq39
    have hS42 := hq39
    obtain rfl := Option.some.inj h
    show FinP _ _ _ _ _ _ _
    exact FinP.end _ (res0 rfl) ⟨rfl, hS42.ext⟩

attribute [local irreducible] WR WI WLI
/-- The rounds' code. -/
noncomputable def bkBody : Code := match Try.f101.body with
  | some (.seq _ (.seq _ (.seq (.seq _ (.block _ (.rangeFunc _ _ _ c))) _))) => c
  | _ => .skip
theorem bk_body {w Wd : World} {f : Fr} {b1 b6 b11 b15 : Nat} {EE : Ent} {a b s0 p0 mm : Int} {m lr : Nat} (r_a : InR .i64 a) (r_b : InR .i64 b) (r_s0 : InR .i64 s0) (r_p0 : InR .i64 p0) (r_mm : InR .i64 mm) (h0m : mm ≠ 0)
    (hf4 : f 4 = Value.pointer (some ⟨b1, 0, none⟩)) (hf5 : f 5 = Value.pointer (some ⟨b6, 0, none⟩)) (hf7 : f 7 = Value.pointer (some ⟨b11, 0, none⟩)) (hf8 : f 8 = Value.pointer (some ⟨b15, 0, none⟩)) (hf10 : f 10 = Value.int .i64 mm)
    (hS22 : St w Wd [bx b1 [Value.int .i64 a], bx b6 [Value.int .i64 b], bx b11 [Value.int .i64 s0], bx b15 [Value.int .i64 p0], EE]) :
    WR Try.prog 38 m lr bkBody (fun _ w' => St w w' [bx b1 [Value.int .i64 (p_impl_addElements_S mm (a, b, s0, p0)).1], bx b6 [Value.int .i64 (p_impl_addElements_S mm (a, b, s0, p0)).2.1], bx b11 [Value.int .i64 (p_impl_addElements_S mm (a, b, s0, p0)).2.2.1], bx b15 [Value.int .i64 (p_impl_addElements_S mm (a, b, s0, p0)).2.2.2], EE]) f Wd := by
  have hfin0 := True.intro
  refine WR.block ?_
  refine WR.seq ?_
  obtain ⟨x60, hz61⟩ : ∃ x, x = (a).tmod mm := ⟨_, rfl⟩ -- HZ
  have h062 := h0m
  obtain ⟨x94, hz95⟩ : ∃ x, x = (b).tmod mm := ⟨_, rfl⟩ -- HZ
  have h096 := h0m
  obtain ⟨x137, hz138⟩ : ∃ x, x = (w64 (x60 + x94)).tmod mm := ⟨_, rfl⟩ -- HZ
  have h0139 := h0m
  have hfin : ∀ {w2 : World}, St w w2 [bx b1 [Value.int .i64 (w64 (a.tdiv mm))], bx b6 [Value.int .i64 (w64 (b.tdiv mm))], bx b11 [Value.int .i64 (w64 (s0 + (w64 (x137 * p0))))], bx b15 [Value.int .i64 (w64 (p0 * mm))], EE] → St w w2 [bx b1 [Value.int .i64 (p_impl_addElements_S mm (a, b, s0, p0)).1], bx b6 [Value.int .i64 (p_impl_addElements_S mm (a, b, s0, p0)).2.1], bx b11 [Value.int .i64 (p_impl_addElements_S mm (a, b, s0, p0)).2.2.1], bx b15 [Value.int .i64 (p_impl_addElements_S mm (a, b, s0, p0)).2.2.2], EE] := by
    intro w2 h; rw [hz138, hz61, hz95] at h; exact h
  refine WR.drawR mixo (by kernel_rfl) 12 [] [fun _ v _ _ => v = (Value.int .i64 s0) ∧ InR .i64 s0, fun _ v _ _ => v = (Value.int .i64 a) ∧ InR .i64 a, fun _ v _ _ => v = (Value.int .i64 mm) ∧ InR .i64 mm, fun _ v _ _ => v = (Value.int .i64 x60) ∧ InR .i64 x60, fun _ v _ _ => v = (Value.int .i64 b) ∧ InR .i64 b, fun _ v _ _ => v = (Value.int .i64 mm) ∧ InR .i64 mm, fun _ v _ _ => v = (Value.int .i64 x94) ∧ InR .i64 x94, fun _ v _ _ => v = (Value.int .i64 (w64 (x60 + x94))) ∧ InR .i64 (w64 (x60 + x94)), fun _ v _ _ => v = (Value.int .i64 mm) ∧ InR .i64 mm, fun _ v _ _ => v = (Value.int .i64 x137) ∧ InR .i64 x137, fun _ v _ _ => v = (Value.int .i64 p0) ∧ InR .i64 p0, fun _ v _ _ => v = (Value.int .i64 (w64 (x137 * p0))) ∧ InR .i64 (w64 (x137 * p0))] (by kernel_rfl) (by kernel_rfl) ⟨⟨fun _ _ _ _ _ _ h => h, fun _ _ _ _ _ _ h => h⟩, ⟨fun _ _ _ _ _ _ h => h, fun _ _ _ _ _ _ h => h⟩, ⟨fun _ _ _ _ _ _ h => h, fun _ _ _ _ _ _ h => h⟩, ⟨fun _ _ _ _ _ _ h => h, fun _ _ _ _ _ _ h => h⟩, ⟨fun _ _ _ _ _ _ h => h, fun _ _ _ _ _ _ h => h⟩, ⟨fun _ _ _ _ _ _ h => h, fun _ _ _ _ _ _ h => h⟩, ⟨fun _ _ _ _ _ _ h => h, fun _ _ _ _ _ _ h => h⟩, ⟨fun _ _ _ _ _ _ h => h, fun _ _ _ _ _ _ h => h⟩, ⟨fun _ _ _ _ _ _ h => h, fun _ _ _ _ _ _ h => h⟩, ⟨fun _ _ _ _ _ _ h => h, fun _ _ _ _ _ _ h => h⟩, ⟨fun _ _ _ _ _ _ h => h, fun _ _ _ _ _ _ h => h⟩, ⟨fun _ _ _ _ _ _ h => h, fun _ _ _ _ _ _ h => h⟩, trivial⟩ ⟨?_, ?_, ?_, ?_, ?_, ?_, ?_, ?_, ?_, ?_, ?_, ?_, trivial⟩ ?_
  · refine ObX.op rfl ?_
    intro f23 wd24 he25 hout26 hphi27
    have hS28 : St w wd24 [bx b1 [(Value.int .i64 a)], bx b6 [(Value.int .i64 b)], bx b11 [(Value.int .i64 s0)], bx b15 [(Value.int .i64 p0)], EE] := St.extend hS22 he25
    have e29 : f23 7 = (Value.pointer (some ⟨b11, 0, none⟩)) := (hout26 7 rfl).trans hf7
    exact OpX.val (Value.int .i64 s0) wd24 rfl (op_load one_2 e29 (BoxAt.cell (St.boxAt hS28 2 rfl) rfl)) (Ext.refl _) ⟨rfl, r_s0⟩
  · refine ObX.op rfl ?_
    intro f30 wd31 he32 hout33 hphi34
    have hS35 : St w wd31 [bx b1 [(Value.int .i64 a)], bx b6 [(Value.int .i64 b)], bx b11 [(Value.int .i64 s0)], bx b15 [(Value.int .i64 p0)], EE] := St.extend hS22 he32
    have e36 : f30 4 = (Value.pointer (some ⟨b1, 0, none⟩)) := (hout33 4 rfl).trans hf4
    exact OpX.val (Value.int .i64 a) wd31 rfl (op_load one_2 e36 (BoxAt.cell (St.boxAt hS35 0 rfl) rfl)) (Ext.refl _) ⟨rfl, r_a⟩
  · refine ObX.op rfl ?_
    intro f37 wd38 he39 hout40 hphi41
    have hS42 : St w wd38 [bx b1 [(Value.int .i64 a)], bx b6 [(Value.int .i64 b)], bx b11 [(Value.int .i64 s0)], bx b15 [(Value.int .i64 p0)], EE] := St.extend hS22 he39
    have e43 : f37 10 = (Value.int .i64 mm) := (hout40 10 rfl).trans hf10
    exact OpX.val (Value.int .i64 mm) wd38 rfl (op_move e43) (Ext.refl _) ⟨rfl, r_mm⟩
  · refine ObX.op rfl ?_
    intro f44 wd45 he46 hout47 hphi48
    have hS49 : St w wd45 [bx b1 [(Value.int .i64 a)], bx b6 [(Value.int .i64 b)], bx b11 [(Value.int .i64 s0)], bx b15 [(Value.int .i64 p0)], EE] := St.extend hS22 he46
    obtain ⟨S50, hS51, hf52⟩ := hphi48 1 16 _ rfl rfl rfl
    obtain ⟨e53, hr54⟩ : f44 16 = (Value.int .i64 a) ∧ InR .i64 a := hf52
    obtain ⟨S55, hS56, hf57⟩ := hphi48 2 17 _ rfl rfl rfl
    obtain ⟨e58, hr59⟩ : f44 17 = (Value.int .i64 mm) ∧ InR .i64 mm := hf57
    have hr63 : InR .i64 x60 := by rw [hz61]; exact inR_tmod hr54
    exact OpX.val (Value.int .i64 x60) wd45 rfl (by rw [hz61]; exact op_rem e53 e58 h062) (Ext.refl _) ⟨rfl, hr63⟩
  · refine ObX.op rfl ?_
    intro f64 wd65 he66 hout67 hphi68
    have hS69 : St w wd65 [bx b1 [(Value.int .i64 a)], bx b6 [(Value.int .i64 b)], bx b11 [(Value.int .i64 s0)], bx b15 [(Value.int .i64 p0)], EE] := St.extend hS22 he66
    have e70 : f64 5 = (Value.pointer (some ⟨b6, 0, none⟩)) := (hout67 5 rfl).trans hf5
    exact OpX.val (Value.int .i64 b) wd65 rfl (op_load one_2 e70 (BoxAt.cell (St.boxAt hS69 1 rfl) rfl)) (Ext.refl _) ⟨rfl, r_b⟩
  · refine ObX.op rfl ?_
    intro f71 wd72 he73 hout74 hphi75
    have hS76 : St w wd72 [bx b1 [(Value.int .i64 a)], bx b6 [(Value.int .i64 b)], bx b11 [(Value.int .i64 s0)], bx b15 [(Value.int .i64 p0)], EE] := St.extend hS22 he73
    have e77 : f71 10 = (Value.int .i64 mm) := (hout74 10 rfl).trans hf10
    exact OpX.val (Value.int .i64 mm) wd72 rfl (op_move e77) (Ext.refl _) ⟨rfl, r_mm⟩
  · refine ObX.op rfl ?_
    intro f78 wd79 he80 hout81 hphi82
    have hS83 : St w wd79 [bx b1 [(Value.int .i64 a)], bx b6 [(Value.int .i64 b)], bx b11 [(Value.int .i64 s0)], bx b15 [(Value.int .i64 p0)], EE] := St.extend hS22 he80
    obtain ⟨S84, hS85, hf86⟩ := hphi82 4 19 _ rfl rfl rfl
    obtain ⟨e87, hr88⟩ : f78 19 = (Value.int .i64 b) ∧ InR .i64 b := hf86
    obtain ⟨S89, hS90, hf91⟩ := hphi82 5 20 _ rfl rfl rfl
    obtain ⟨e92, hr93⟩ : f78 20 = (Value.int .i64 mm) ∧ InR .i64 mm := hf91
    have hr97 : InR .i64 x94 := by rw [hz95]; exact inR_tmod hr88
    exact OpX.val (Value.int .i64 x94) wd79 rfl (by rw [hz95]; exact op_rem e87 e92 h096) (Ext.refl _) ⟨rfl, hr97⟩
  · refine ObX.op rfl ?_
    intro f98 wd99 he100 hout101 hphi102
    have hS103 : St w wd99 [bx b1 [(Value.int .i64 a)], bx b6 [(Value.int .i64 b)], bx b11 [(Value.int .i64 s0)], bx b15 [(Value.int .i64 p0)], EE] := St.extend hS22 he100
    obtain ⟨S104, hS105, hf106⟩ := hphi102 3 18 _ rfl rfl rfl
    obtain ⟨e107, hr108⟩ : f98 18 = (Value.int .i64 x60) ∧ InR .i64 x60 := hf106
    obtain ⟨S109, hS110, hf111⟩ := hphi102 6 21 _ rfl rfl rfl
    obtain ⟨e112, hr113⟩ : f98 21 = (Value.int .i64 x94) ∧ InR .i64 x94 := hf111
    exact OpX.val (Value.int .i64 (w64 (x60 + x94))) wd99 rfl (op_add e107 e112) (Ext.refl _) ⟨rfl, (inR_wrap _ _)⟩
  · refine ObX.op rfl ?_
    intro f114 wd115 he116 hout117 hphi118
    have hS119 : St w wd115 [bx b1 [(Value.int .i64 a)], bx b6 [(Value.int .i64 b)], bx b11 [(Value.int .i64 s0)], bx b15 [(Value.int .i64 p0)], EE] := St.extend hS22 he116
    have e120 : f114 10 = (Value.int .i64 mm) := (hout117 10 rfl).trans hf10
    exact OpX.val (Value.int .i64 mm) wd115 rfl (op_move e120) (Ext.refl _) ⟨rfl, r_mm⟩
  · refine ObX.op rfl ?_
    intro f121 wd122 he123 hout124 hphi125
    have hS126 : St w wd122 [bx b1 [(Value.int .i64 a)], bx b6 [(Value.int .i64 b)], bx b11 [(Value.int .i64 s0)], bx b15 [(Value.int .i64 p0)], EE] := St.extend hS22 he123
    obtain ⟨S127, hS128, hf129⟩ := hphi125 7 22 _ rfl rfl rfl
    obtain ⟨e130, hr131⟩ : f121 22 = (Value.int .i64 (w64 (x60 + x94))) ∧ InR .i64 (w64 (x60 + x94)) := hf129
    obtain ⟨S132, hS133, hf134⟩ := hphi125 8 23 _ rfl rfl rfl
    obtain ⟨e135, hr136⟩ : f121 23 = (Value.int .i64 mm) ∧ InR .i64 mm := hf134
    have hr140 : InR .i64 x137 := by rw [hz138]; exact inR_tmod hr131
    exact OpX.val (Value.int .i64 x137) wd122 rfl (by rw [hz138]; exact op_rem e130 e135 h0139) (Ext.refl _) ⟨rfl, hr140⟩
  · refine ObX.op rfl ?_
    intro f141 wd142 he143 hout144 hphi145
    have hS146 : St w wd142 [bx b1 [(Value.int .i64 a)], bx b6 [(Value.int .i64 b)], bx b11 [(Value.int .i64 s0)], bx b15 [(Value.int .i64 p0)], EE] := St.extend hS22 he143
    have e147 : f141 8 = (Value.pointer (some ⟨b15, 0, none⟩)) := (hout144 8 rfl).trans hf8
    exact OpX.val (Value.int .i64 p0) wd142 rfl (op_load one_2 e147 (BoxAt.cell (St.boxAt hS146 3 rfl) rfl)) (Ext.refl _) ⟨rfl, r_p0⟩
  · refine ObX.op rfl ?_
    intro f148 wd149 he150 hout151 hphi152
    have hS153 : St w wd149 [bx b1 [(Value.int .i64 a)], bx b6 [(Value.int .i64 b)], bx b11 [(Value.int .i64 s0)], bx b15 [(Value.int .i64 p0)], EE] := St.extend hS22 he150
    obtain ⟨S154, hS155, hf156⟩ := hphi152 9 24 _ rfl rfl rfl
    obtain ⟨e157, hr158⟩ : f148 24 = (Value.int .i64 x137) ∧ InR .i64 x137 := hf156
    obtain ⟨S159, hS160, hf161⟩ := hphi152 10 25 _ rfl rfl rfl
    obtain ⟨e162, hr163⟩ : f148 25 = (Value.int .i64 p0) ∧ InR .i64 p0 := hf161
    exact OpX.val (Value.int .i64 (w64 (x137 * p0))) wd149 rfl (op_mul e157 e162) (Ext.refl _) ⟨rfl, (inR_wrap _ _)⟩
  · intro f164 wd165 Ss166 he167 hout168 hSn169 hSd170 hphi171
    show WL _ _ _ _ _ _ _
    have hS172 : St w wd165 [bx b1 [(Value.int .i64 a)], bx b6 [(Value.int .i64 b)], bx b11 [(Value.int .i64 s0)], bx b15 [(Value.int .i64 p0)], EE] := St.extend hS22 he167
    obtain ⟨e173, hr174⟩ : f164 15 = (Value.int .i64 s0) ∧ InR .i64 s0 := hphi171 0 15 _ (by decide) rfl rfl
    obtain ⟨e175, hr176⟩ : f164 26 = (Value.int .i64 (w64 (x137 * p0))) ∧ InR .i64 (w64 (x137 * p0)) := hphi171 11 26 _ (by decide) rfl rfl
    have e177 : f164 4 = (Value.pointer (some ⟨b1, 0, none⟩)) := (hout168 4 rfl).trans hf4
    have e178 : f164 5 = (Value.pointer (some ⟨b6, 0, none⟩)) := (hout168 5 rfl).trans hf5
    have e179 : f164 7 = (Value.pointer (some ⟨b11, 0, none⟩)) := (hout168 7 rfl).trans hf7
    have e180 : f164 8 = (Value.pointer (some ⟨b15, 0, none⟩)) := (hout168 8 rfl).trans hf8
    have e181 : f164 10 = (Value.int .i64 mm) := (hout168 10 rfl).trans hf10
    refine WL.val (Value.int .i64 (w64 (s0 + (w64 (x137 * p0))))) _ (op_add e173 e175) rfl ?_
    refine WL.storeBox [(Value.int .i64 (w64 (s0 + (w64 (x137 * p0)))))] hS172 (k := 2) rfl e179 rfl (us := [(Value.int .i64 (w64 (s0 + (w64 (x137 * p0)))))]) rfl sz_2 rfl rfl (all_cons rfl all_nil) rfl ?_
    intro wd182 hS183
    replace hS183 : St w wd182 [bx b1 [(Value.int .i64 a)], bx b6 [(Value.int .i64 b)], bx b11 [(Value.int .i64 (w64 (s0 + (w64 (x137 * p0)))))], bx b15 [(Value.int .i64 p0)], EE] := hS183
    refine WL.nil ?_
    show WR _ _ _ _ _ _ _ _
    refine WR.seq ?_
    refine WR.region (by kernel_rfl) ?_
    refine WL.val (Value.int .i64 p0) _ (op_load one_2 e180 (BoxAt.cell (St.boxAt hS183 3 rfl) rfl)) rfl ?_
    refine WL.val (Value.int .i64 mm) _ (op_move e181) rfl ?_
    refine WL.val (Value.int .i64 (w64 (p0 * mm))) _ (op_mul rfl rfl) rfl ?_
    refine WL.storeBox [(Value.int .i64 (w64 (p0 * mm)))] hS183 (k := 3) rfl e180 rfl (us := [(Value.int .i64 (w64 (p0 * mm)))]) rfl sz_2 rfl rfl (all_cons rfl all_nil) rfl ?_
    intro wd184 hS185
    replace hS185 : St w wd184 [bx b1 [(Value.int .i64 a)], bx b6 [(Value.int .i64 b)], bx b11 [(Value.int .i64 (w64 (s0 + (w64 (x137 * p0)))))], bx b15 [(Value.int .i64 (w64 (p0 * mm)))], EE] := hS185
    refine WL.nil ?_
    show WR _ _ _ _ _ _ _ _
    refine WR.orders mixo (by kernel_rfl) ?_
    intro wd186 he187
    have hS188 : St w wd186 [bx b1 [(Value.int .i64 a)], bx b6 [(Value.int .i64 b)], bx b11 [(Value.int .i64 (w64 (s0 + (w64 (x137 * p0)))))], bx b15 [(Value.int .i64 (w64 (p0 * mm)))], EE] := St.extend hS185 he187
    refine WA.take (Value.int .i64 mm) (i := 1) rfl rfl rfl rfl (by kernel_rfl) (fun _ => (op_move e181)) ?_
    refine WA.take (Value.int .i64 mm) (i := 4) rfl rfl rfl rfl (by kernel_rfl) (fun _ => (op_move e181)) ?_
    refine WA.all [0, 3] (by kernel_rfl) rfl ⟨⟨_, rfl, ?_⟩, ⟨_, rfl, ?_⟩, trivial⟩
    · refine WL.val (Value.int .i64 a) _ (op_load one_2 e177 (BoxAt.cell (St.boxAt hS188 0 rfl) rfl)) rfl ?_
      refine WL.nil ?_
      show WA _ _ _ _ _ _ _ _
      refine WA.all [2, 3] (by kernel_rfl) rfl ⟨⟨_, rfl, ?_⟩, ⟨_, rfl, ?_⟩, trivial⟩
      · refine WL.val (Value.int .i64 (w64 ((a).tdiv mm))) _ (op_quo (b := mm) rfl rfl h0m) rfl ?_
        refine WL.nil ?_
        show WA _ _ _ _ _ _ _ _
        refine WA.all [3, 6] (by kernel_rfl) rfl ⟨⟨_, rfl, ?_⟩, ⟨_, rfl, ?_⟩, trivial⟩
        · refine WL.val (Value.int .i64 b) _ (op_load one_2 e178 (BoxAt.cell (St.boxAt hS188 1 rfl) rfl)) rfl ?_
          refine WL.nil ?_
          show WA _ _ _ _ _ _ _ _
          refine WA.all [5, 6] (by kernel_rfl) rfl ⟨⟨_, rfl, ?_⟩, ⟨_, rfl, ?_⟩, trivial⟩
          · refine WL.val (Value.int .i64 (w64 ((b).tdiv mm))) _ (op_quo (b := mm) rfl rfl h0m) rfl ?_
            refine WL.nil ?_
            show WA _ _ _ _ _ _ _ _
            refine WA.all [6] (by kernel_rfl) rfl ⟨⟨_, rfl, ?_⟩, trivial⟩
            · refine WL.storeBox [(Value.int .i64 (w64 ((a).tdiv mm)))] hS188 (k := 0) rfl e177 rfl (us := [(Value.int .i64 (w64 ((a).tdiv mm)))]) rfl sz_2 rfl rfl (all_cons rfl all_nil) rfl ?_
              intro wd189 hS190
              replace hS190 : St w wd189 [bx b1 [(Value.int .i64 (w64 ((a).tdiv mm)))], bx b6 [(Value.int .i64 b)], bx b11 [(Value.int .i64 (w64 (s0 + (w64 (x137 * p0)))))], bx b15 [(Value.int .i64 (w64 (p0 * mm)))], EE] := hS190
              refine WL.nil ?_
              show WA _ _ _ _ _ _ _ _
              refine WA.all [7] (by kernel_rfl) rfl ⟨⟨_, rfl, ?_⟩, trivial⟩
              · refine WL.storeBox [(Value.int .i64 (w64 ((b).tdiv mm)))] hS190 (k := 1) rfl e178 rfl (us := [(Value.int .i64 (w64 ((b).tdiv mm)))]) rfl sz_2 rfl rfl (all_cons rfl all_nil) rfl ?_
                intro wd191 hS192
                replace hS192 : St w wd191 [bx b1 [(Value.int .i64 (w64 ((a).tdiv mm)))], bx b6 [(Value.int .i64 (w64 ((b).tdiv mm)))], bx b11 [(Value.int .i64 (w64 (s0 + (w64 (x137 * p0)))))], bx b15 [(Value.int .i64 (w64 (p0 * mm)))], EE] := hS192
                refine WL.nil ?_
                show WA _ _ _ _ _ _ _ _
                refine WA.done (by kernel_rfl) ?_
                exact hfin hS192
          · refine WL.storeBox [(Value.int .i64 (w64 ((a).tdiv mm)))] hS188 (k := 0) rfl e177 rfl (us := [(Value.int .i64 (w64 ((a).tdiv mm)))]) rfl sz_2 rfl rfl (all_cons rfl all_nil) rfl ?_
            intro wd193 hS194
            replace hS194 : St w wd193 [bx b1 [(Value.int .i64 (w64 ((a).tdiv mm)))], bx b6 [(Value.int .i64 b)], bx b11 [(Value.int .i64 (w64 (s0 + (w64 (x137 * p0)))))], bx b15 [(Value.int .i64 (w64 (p0 * mm)))], EE] := hS194
            refine WL.nil ?_
            show WA _ _ _ _ _ _ _ _
            refine WA.all [5] (by kernel_rfl) rfl ⟨⟨_, rfl, ?_⟩, trivial⟩
            · refine WL.val (Value.int .i64 (w64 ((b).tdiv mm))) _ (op_quo (b := mm) rfl rfl h0m) rfl ?_
              refine WL.nil ?_
              show WA _ _ _ _ _ _ _ _
              refine WA.all [7] (by kernel_rfl) rfl ⟨⟨_, rfl, ?_⟩, trivial⟩
              · refine WL.storeBox [(Value.int .i64 (w64 ((b).tdiv mm)))] hS194 (k := 1) rfl e178 rfl (us := [(Value.int .i64 (w64 ((b).tdiv mm)))]) rfl sz_2 rfl rfl (all_cons rfl all_nil) rfl ?_
                intro wd195 hS196
                replace hS196 : St w wd195 [bx b1 [(Value.int .i64 (w64 ((a).tdiv mm)))], bx b6 [(Value.int .i64 (w64 ((b).tdiv mm)))], bx b11 [(Value.int .i64 (w64 (s0 + (w64 (x137 * p0)))))], bx b15 [(Value.int .i64 (w64 (p0 * mm)))], EE] := hS196
                refine WL.nil ?_
                show WA _ _ _ _ _ _ _ _
                refine WA.done (by kernel_rfl) ?_
                exact hfin hS196
        · refine WL.storeBox [(Value.int .i64 (w64 ((a).tdiv mm)))] hS188 (k := 0) rfl e177 rfl (us := [(Value.int .i64 (w64 ((a).tdiv mm)))]) rfl sz_2 rfl rfl (all_cons rfl all_nil) rfl ?_
          intro wd197 hS198
          replace hS198 : St w wd197 [bx b1 [(Value.int .i64 (w64 ((a).tdiv mm)))], bx b6 [(Value.int .i64 b)], bx b11 [(Value.int .i64 (w64 (s0 + (w64 (x137 * p0)))))], bx b15 [(Value.int .i64 (w64 (p0 * mm)))], EE] := hS198
          refine WL.nil ?_
          show WA _ _ _ _ _ _ _ _
          refine WA.all [3] (by kernel_rfl) rfl ⟨⟨_, rfl, ?_⟩, trivial⟩
          · refine WL.val (Value.int .i64 b) _ (op_load one_2 e178 (BoxAt.cell (St.boxAt hS198 1 rfl) rfl)) rfl ?_
            refine WL.nil ?_
            show WA _ _ _ _ _ _ _ _
            refine WA.all [5] (by kernel_rfl) rfl ⟨⟨_, rfl, ?_⟩, trivial⟩
            · refine WL.val (Value.int .i64 (w64 ((b).tdiv mm))) _ (op_quo (b := mm) rfl rfl h0m) rfl ?_
              refine WL.nil ?_
              show WA _ _ _ _ _ _ _ _
              refine WA.all [7] (by kernel_rfl) rfl ⟨⟨_, rfl, ?_⟩, trivial⟩
              · refine WL.storeBox [(Value.int .i64 (w64 ((b).tdiv mm)))] hS198 (k := 1) rfl e178 rfl (us := [(Value.int .i64 (w64 ((b).tdiv mm)))]) rfl sz_2 rfl rfl (all_cons rfl all_nil) rfl ?_
                intro wd199 hS200
                replace hS200 : St w wd199 [bx b1 [(Value.int .i64 (w64 ((a).tdiv mm)))], bx b6 [(Value.int .i64 (w64 ((b).tdiv mm)))], bx b11 [(Value.int .i64 (w64 (s0 + (w64 (x137 * p0)))))], bx b15 [(Value.int .i64 (w64 (p0 * mm)))], EE] := hS200
                refine WL.nil ?_
                show WA _ _ _ _ _ _ _ _
                refine WA.done (by kernel_rfl) ?_
                exact hfin hS200
      · refine WL.val (Value.int .i64 b) _ (op_load one_2 e178 (BoxAt.cell (St.boxAt hS188 1 rfl) rfl)) rfl ?_
        refine WL.nil ?_
        show WA _ _ _ _ _ _ _ _
        refine WA.all [2, 5] (by kernel_rfl) rfl ⟨⟨_, rfl, ?_⟩, ⟨_, rfl, ?_⟩, trivial⟩
        · refine WL.val (Value.int .i64 (w64 ((a).tdiv mm))) _ (op_quo (b := mm) rfl rfl h0m) rfl ?_
          refine WL.nil ?_
          show WA _ _ _ _ _ _ _ _
          refine WA.all [5, 6] (by kernel_rfl) rfl ⟨⟨_, rfl, ?_⟩, ⟨_, rfl, ?_⟩, trivial⟩
          · refine WL.val (Value.int .i64 (w64 ((b).tdiv mm))) _ (op_quo (b := mm) rfl rfl h0m) rfl ?_
            refine WL.nil ?_
            show WA _ _ _ _ _ _ _ _
            refine WA.all [6] (by kernel_rfl) rfl ⟨⟨_, rfl, ?_⟩, trivial⟩
            · refine WL.storeBox [(Value.int .i64 (w64 ((a).tdiv mm)))] hS188 (k := 0) rfl e177 rfl (us := [(Value.int .i64 (w64 ((a).tdiv mm)))]) rfl sz_2 rfl rfl (all_cons rfl all_nil) rfl ?_
              intro wd201 hS202
              replace hS202 : St w wd201 [bx b1 [(Value.int .i64 (w64 ((a).tdiv mm)))], bx b6 [(Value.int .i64 b)], bx b11 [(Value.int .i64 (w64 (s0 + (w64 (x137 * p0)))))], bx b15 [(Value.int .i64 (w64 (p0 * mm)))], EE] := hS202
              refine WL.nil ?_
              show WA _ _ _ _ _ _ _ _
              refine WA.all [7] (by kernel_rfl) rfl ⟨⟨_, rfl, ?_⟩, trivial⟩
              · refine WL.storeBox [(Value.int .i64 (w64 ((b).tdiv mm)))] hS202 (k := 1) rfl e178 rfl (us := [(Value.int .i64 (w64 ((b).tdiv mm)))]) rfl sz_2 rfl rfl (all_cons rfl all_nil) rfl ?_
                intro wd203 hS204
                replace hS204 : St w wd203 [bx b1 [(Value.int .i64 (w64 ((a).tdiv mm)))], bx b6 [(Value.int .i64 (w64 ((b).tdiv mm)))], bx b11 [(Value.int .i64 (w64 (s0 + (w64 (x137 * p0)))))], bx b15 [(Value.int .i64 (w64 (p0 * mm)))], EE] := hS204
                refine WL.nil ?_
                show WA _ _ _ _ _ _ _ _
                refine WA.done (by kernel_rfl) ?_
                exact hfin hS204
          · refine WL.storeBox [(Value.int .i64 (w64 ((a).tdiv mm)))] hS188 (k := 0) rfl e177 rfl (us := [(Value.int .i64 (w64 ((a).tdiv mm)))]) rfl sz_2 rfl rfl (all_cons rfl all_nil) rfl ?_
            intro wd205 hS206
            replace hS206 : St w wd205 [bx b1 [(Value.int .i64 (w64 ((a).tdiv mm)))], bx b6 [(Value.int .i64 b)], bx b11 [(Value.int .i64 (w64 (s0 + (w64 (x137 * p0)))))], bx b15 [(Value.int .i64 (w64 (p0 * mm)))], EE] := hS206
            refine WL.nil ?_
            show WA _ _ _ _ _ _ _ _
            refine WA.all [5] (by kernel_rfl) rfl ⟨⟨_, rfl, ?_⟩, trivial⟩
            · refine WL.val (Value.int .i64 (w64 ((b).tdiv mm))) _ (op_quo (b := mm) rfl rfl h0m) rfl ?_
              refine WL.nil ?_
              show WA _ _ _ _ _ _ _ _
              refine WA.all [7] (by kernel_rfl) rfl ⟨⟨_, rfl, ?_⟩, trivial⟩
              · refine WL.storeBox [(Value.int .i64 (w64 ((b).tdiv mm)))] hS206 (k := 1) rfl e178 rfl (us := [(Value.int .i64 (w64 ((b).tdiv mm)))]) rfl sz_2 rfl rfl (all_cons rfl all_nil) rfl ?_
                intro wd207 hS208
                replace hS208 : St w wd207 [bx b1 [(Value.int .i64 (w64 ((a).tdiv mm)))], bx b6 [(Value.int .i64 (w64 ((b).tdiv mm)))], bx b11 [(Value.int .i64 (w64 (s0 + (w64 (x137 * p0)))))], bx b15 [(Value.int .i64 (w64 (p0 * mm)))], EE] := hS208
                refine WL.nil ?_
                show WA _ _ _ _ _ _ _ _
                refine WA.done (by kernel_rfl) ?_
                exact hfin hS208
        · refine WL.val (Value.int .i64 (w64 ((b).tdiv mm))) _ (op_quo (b := mm) rfl rfl h0m) rfl ?_
          refine WL.nil ?_
          show WA _ _ _ _ _ _ _ _
          refine WA.all [2] (by kernel_rfl) rfl ⟨⟨_, rfl, ?_⟩, trivial⟩
          · refine WL.val (Value.int .i64 (w64 ((a).tdiv mm))) _ (op_quo (b := mm) rfl rfl h0m) rfl ?_
            refine WL.nil ?_
            show WA _ _ _ _ _ _ _ _
            refine WA.all [6] (by kernel_rfl) rfl ⟨⟨_, rfl, ?_⟩, trivial⟩
            · refine WL.storeBox [(Value.int .i64 (w64 ((a).tdiv mm)))] hS188 (k := 0) rfl e177 rfl (us := [(Value.int .i64 (w64 ((a).tdiv mm)))]) rfl sz_2 rfl rfl (all_cons rfl all_nil) rfl ?_
              intro wd209 hS210
              replace hS210 : St w wd209 [bx b1 [(Value.int .i64 (w64 ((a).tdiv mm)))], bx b6 [(Value.int .i64 b)], bx b11 [(Value.int .i64 (w64 (s0 + (w64 (x137 * p0)))))], bx b15 [(Value.int .i64 (w64 (p0 * mm)))], EE] := hS210
              refine WL.nil ?_
              show WA _ _ _ _ _ _ _ _
              refine WA.all [7] (by kernel_rfl) rfl ⟨⟨_, rfl, ?_⟩, trivial⟩
              · refine WL.storeBox [(Value.int .i64 (w64 ((b).tdiv mm)))] hS210 (k := 1) rfl e178 rfl (us := [(Value.int .i64 (w64 ((b).tdiv mm)))]) rfl sz_2 rfl rfl (all_cons rfl all_nil) rfl ?_
                intro wd211 hS212
                replace hS212 : St w wd211 [bx b1 [(Value.int .i64 (w64 ((a).tdiv mm)))], bx b6 [(Value.int .i64 (w64 ((b).tdiv mm)))], bx b11 [(Value.int .i64 (w64 (s0 + (w64 (x137 * p0)))))], bx b15 [(Value.int .i64 (w64 (p0 * mm)))], EE] := hS212
                refine WL.nil ?_
                show WA _ _ _ _ _ _ _ _
                refine WA.done (by kernel_rfl) ?_
                exact hfin hS212
    · refine WL.val (Value.int .i64 b) _ (op_load one_2 e178 (BoxAt.cell (St.boxAt hS188 1 rfl) rfl)) rfl ?_
      refine WL.nil ?_
      show WA _ _ _ _ _ _ _ _
      refine WA.all [0, 5] (by kernel_rfl) rfl ⟨⟨_, rfl, ?_⟩, ⟨_, rfl, ?_⟩, trivial⟩
      · refine WL.val (Value.int .i64 a) _ (op_load one_2 e177 (BoxAt.cell (St.boxAt hS188 0 rfl) rfl)) rfl ?_
        refine WL.nil ?_
        show WA _ _ _ _ _ _ _ _
        refine WA.all [2, 5] (by kernel_rfl) rfl ⟨⟨_, rfl, ?_⟩, ⟨_, rfl, ?_⟩, trivial⟩
        · refine WL.val (Value.int .i64 (w64 ((a).tdiv mm))) _ (op_quo (b := mm) rfl rfl h0m) rfl ?_
          refine WL.nil ?_
          show WA _ _ _ _ _ _ _ _
          refine WA.all [5, 6] (by kernel_rfl) rfl ⟨⟨_, rfl, ?_⟩, ⟨_, rfl, ?_⟩, trivial⟩
          · refine WL.val (Value.int .i64 (w64 ((b).tdiv mm))) _ (op_quo (b := mm) rfl rfl h0m) rfl ?_
            refine WL.nil ?_
            show WA _ _ _ _ _ _ _ _
            refine WA.all [6] (by kernel_rfl) rfl ⟨⟨_, rfl, ?_⟩, trivial⟩
            · refine WL.storeBox [(Value.int .i64 (w64 ((a).tdiv mm)))] hS188 (k := 0) rfl e177 rfl (us := [(Value.int .i64 (w64 ((a).tdiv mm)))]) rfl sz_2 rfl rfl (all_cons rfl all_nil) rfl ?_
              intro wd213 hS214
              replace hS214 : St w wd213 [bx b1 [(Value.int .i64 (w64 ((a).tdiv mm)))], bx b6 [(Value.int .i64 b)], bx b11 [(Value.int .i64 (w64 (s0 + (w64 (x137 * p0)))))], bx b15 [(Value.int .i64 (w64 (p0 * mm)))], EE] := hS214
              refine WL.nil ?_
              show WA _ _ _ _ _ _ _ _
              refine WA.all [7] (by kernel_rfl) rfl ⟨⟨_, rfl, ?_⟩, trivial⟩
              · refine WL.storeBox [(Value.int .i64 (w64 ((b).tdiv mm)))] hS214 (k := 1) rfl e178 rfl (us := [(Value.int .i64 (w64 ((b).tdiv mm)))]) rfl sz_2 rfl rfl (all_cons rfl all_nil) rfl ?_
                intro wd215 hS216
                replace hS216 : St w wd215 [bx b1 [(Value.int .i64 (w64 ((a).tdiv mm)))], bx b6 [(Value.int .i64 (w64 ((b).tdiv mm)))], bx b11 [(Value.int .i64 (w64 (s0 + (w64 (x137 * p0)))))], bx b15 [(Value.int .i64 (w64 (p0 * mm)))], EE] := hS216
                refine WL.nil ?_
                show WA _ _ _ _ _ _ _ _
                refine WA.done (by kernel_rfl) ?_
                exact hfin hS216
          · refine WL.storeBox [(Value.int .i64 (w64 ((a).tdiv mm)))] hS188 (k := 0) rfl e177 rfl (us := [(Value.int .i64 (w64 ((a).tdiv mm)))]) rfl sz_2 rfl rfl (all_cons rfl all_nil) rfl ?_
            intro wd217 hS218
            replace hS218 : St w wd217 [bx b1 [(Value.int .i64 (w64 ((a).tdiv mm)))], bx b6 [(Value.int .i64 b)], bx b11 [(Value.int .i64 (w64 (s0 + (w64 (x137 * p0)))))], bx b15 [(Value.int .i64 (w64 (p0 * mm)))], EE] := hS218
            refine WL.nil ?_
            show WA _ _ _ _ _ _ _ _
            refine WA.all [5] (by kernel_rfl) rfl ⟨⟨_, rfl, ?_⟩, trivial⟩
            · refine WL.val (Value.int .i64 (w64 ((b).tdiv mm))) _ (op_quo (b := mm) rfl rfl h0m) rfl ?_
              refine WL.nil ?_
              show WA _ _ _ _ _ _ _ _
              refine WA.all [7] (by kernel_rfl) rfl ⟨⟨_, rfl, ?_⟩, trivial⟩
              · refine WL.storeBox [(Value.int .i64 (w64 ((b).tdiv mm)))] hS218 (k := 1) rfl e178 rfl (us := [(Value.int .i64 (w64 ((b).tdiv mm)))]) rfl sz_2 rfl rfl (all_cons rfl all_nil) rfl ?_
                intro wd219 hS220
                replace hS220 : St w wd219 [bx b1 [(Value.int .i64 (w64 ((a).tdiv mm)))], bx b6 [(Value.int .i64 (w64 ((b).tdiv mm)))], bx b11 [(Value.int .i64 (w64 (s0 + (w64 (x137 * p0)))))], bx b15 [(Value.int .i64 (w64 (p0 * mm)))], EE] := hS220
                refine WL.nil ?_
                show WA _ _ _ _ _ _ _ _
                refine WA.done (by kernel_rfl) ?_
                exact hfin hS220
        · refine WL.val (Value.int .i64 (w64 ((b).tdiv mm))) _ (op_quo (b := mm) rfl rfl h0m) rfl ?_
          refine WL.nil ?_
          show WA _ _ _ _ _ _ _ _
          refine WA.all [2] (by kernel_rfl) rfl ⟨⟨_, rfl, ?_⟩, trivial⟩
          · refine WL.val (Value.int .i64 (w64 ((a).tdiv mm))) _ (op_quo (b := mm) rfl rfl h0m) rfl ?_
            refine WL.nil ?_
            show WA _ _ _ _ _ _ _ _
            refine WA.all [6] (by kernel_rfl) rfl ⟨⟨_, rfl, ?_⟩, trivial⟩
            · refine WL.storeBox [(Value.int .i64 (w64 ((a).tdiv mm)))] hS188 (k := 0) rfl e177 rfl (us := [(Value.int .i64 (w64 ((a).tdiv mm)))]) rfl sz_2 rfl rfl (all_cons rfl all_nil) rfl ?_
              intro wd221 hS222
              replace hS222 : St w wd221 [bx b1 [(Value.int .i64 (w64 ((a).tdiv mm)))], bx b6 [(Value.int .i64 b)], bx b11 [(Value.int .i64 (w64 (s0 + (w64 (x137 * p0)))))], bx b15 [(Value.int .i64 (w64 (p0 * mm)))], EE] := hS222
              refine WL.nil ?_
              show WA _ _ _ _ _ _ _ _
              refine WA.all [7] (by kernel_rfl) rfl ⟨⟨_, rfl, ?_⟩, trivial⟩
              · refine WL.storeBox [(Value.int .i64 (w64 ((b).tdiv mm)))] hS222 (k := 1) rfl e178 rfl (us := [(Value.int .i64 (w64 ((b).tdiv mm)))]) rfl sz_2 rfl rfl (all_cons rfl all_nil) rfl ?_
                intro wd223 hS224
                replace hS224 : St w wd223 [bx b1 [(Value.int .i64 (w64 ((a).tdiv mm)))], bx b6 [(Value.int .i64 (w64 ((b).tdiv mm)))], bx b11 [(Value.int .i64 (w64 (s0 + (w64 (x137 * p0)))))], bx b15 [(Value.int .i64 (w64 (p0 * mm)))], EE] := hS224
                refine WL.nil ?_
                show WA _ _ _ _ _ _ _ _
                refine WA.done (by kernel_rfl) ?_
                exact hfin hS224
      · refine WL.val (Value.int .i64 (w64 ((b).tdiv mm))) _ (op_quo (b := mm) rfl rfl h0m) rfl ?_
        refine WL.nil ?_
        show WA _ _ _ _ _ _ _ _
        refine WA.all [0] (by kernel_rfl) rfl ⟨⟨_, rfl, ?_⟩, trivial⟩
        · refine WL.val (Value.int .i64 a) _ (op_load one_2 e177 (BoxAt.cell (St.boxAt hS188 0 rfl) rfl)) rfl ?_
          refine WL.nil ?_
          show WA _ _ _ _ _ _ _ _
          refine WA.all [2] (by kernel_rfl) rfl ⟨⟨_, rfl, ?_⟩, trivial⟩
          · refine WL.val (Value.int .i64 (w64 ((a).tdiv mm))) _ (op_quo (b := mm) rfl rfl h0m) rfl ?_
            refine WL.nil ?_
            show WA _ _ _ _ _ _ _ _
            refine WA.all [6] (by kernel_rfl) rfl ⟨⟨_, rfl, ?_⟩, trivial⟩
            · refine WL.storeBox [(Value.int .i64 (w64 ((a).tdiv mm)))] hS188 (k := 0) rfl e177 rfl (us := [(Value.int .i64 (w64 ((a).tdiv mm)))]) rfl sz_2 rfl rfl (all_cons rfl all_nil) rfl ?_
              intro wd225 hS226
              replace hS226 : St w wd225 [bx b1 [(Value.int .i64 (w64 ((a).tdiv mm)))], bx b6 [(Value.int .i64 b)], bx b11 [(Value.int .i64 (w64 (s0 + (w64 (x137 * p0)))))], bx b15 [(Value.int .i64 (w64 (p0 * mm)))], EE] := hS226
              refine WL.nil ?_
              show WA _ _ _ _ _ _ _ _
              refine WA.all [7] (by kernel_rfl) rfl ⟨⟨_, rfl, ?_⟩, trivial⟩
              · refine WL.storeBox [(Value.int .i64 (w64 ((b).tdiv mm)))] hS226 (k := 1) rfl e178 rfl (us := [(Value.int .i64 (w64 ((b).tdiv mm)))]) rfl sz_2 rfl rfl (all_cons rfl all_nil) rfl ?_
                intro wd227 hS228
                replace hS228 : St w wd227 [bx b1 [(Value.int .i64 (w64 ((a).tdiv mm)))], bx b6 [(Value.int .i64 (w64 ((b).tdiv mm)))], bx b11 [(Value.int .i64 (w64 (s0 + (w64 (x137 * p0)))))], bx b15 [(Value.int .i64 (w64 (p0 * mm)))], EE] := hS228
                refine WL.nil ?_
                show WA _ _ _ _ _ _ _ _
                refine WA.done (by kernel_rfl) ?_
                exact hfin hS228

theorem bk_maker {w : World} {v : Value} (hv : v.cells = [v].toArray) : Ret Try.prog 107 #[v] w (fun u w' => ∃ Bs, u = .func (.func 111) #[] #[.pointer (some ⟨Bs, 0, none⟩)] ∧ St w w' [bx Bs [v]]) := by
  have hS0 : St w w [] := St.start w
  refine Ret.start (fn := Try.f107) Try.func107 rfl 4 rfl rfl ?_
  refine W.seq (W.region ?_)
  refine WL.box hS0 rfl (cs := [v]) hv rfl ?_
  intro b1 wd2 hS3 he4 hx5
  refine WL.val Value.nilFunc _ (op_assign rfl) rfl ?_
  refine WL.nil ?_
  show W _ _ _ _ _ _
  refine W.seq (W.region ?_)
  refine WL.val (.func (.func 111) #[] #[.pointer (some ⟨b1, 0, none⟩)]) _ (op_makeFunc (va := #[]) (vb := #[.pointer (some ⟨b1, 0, none⟩)]) args0 (args1 rfl)) rfl ?_
  refine WL.val (.func (.func 111) #[] #[.pointer (some ⟨b1, 0, none⟩)]) _ (op_assign rfl) rfl ?_
  refine WL.nil ?_
  show W _ _ _ _ _ _
  refine W.ret ?_
  show FinP _ _ _ _ _ _ _
  exact FinP.ret _ (res1 rfl rfl) ⟨b1, rfl, hS3⟩

theorem bk_closure {α : Type} {enc : α → Array Value} {g : Nat → α} {w0 Wd : World} {v : Value} {zs : List Int} (hrep : (Ty.sl (Ty.i .i64)).rep w0 v zs)
    (hg : ∀ j, j < zs.length → enc (g j) = #[.int .i64 ((zs.length : Int) - 1 - j), .int .i64 (zs.getD (zs.length - 1 - j) 0)]) {m l Bs : Nat} {J Jx : List α → World → Prop}
    (hY : ∀ pre x W, J pre W → pre.length < zs.length → YieldAt Fence.wide (m - 1) Try.prog l (enc x) W fun e W' => (e = .returned (.bool true) ∧ J (pre ++ [x]) W' ∧ KpB w0 Bs W W') ∨ (e = .returned (.bool false) ∧ Jx (pre ++ [x]) W'))
    (hW : Ext w0 Wd) (hBs : Wd.cell? ⟨Bs, 0, none⟩ = some v) (h0 : J [] Wd) :
    CallsIn Fence.wide m Try.prog 111 #[.func (.yield l) #[] #[], .pointer (some ⟨Bs, 0, none⟩)] Wd fun e W' => (∃ v, e = .returned v) ∧ ((∃ xs, xs = (List.range zs.length).map g ∧ J xs W') ∨ (∃ pre, True ∧ Jx pre W')) := by
  refine WI.calls Try.func111 rfl rfl rfl rfl ?_
  · skip
    have hm : zs.length ≤ 9223372036854775807 := by have := repSl.max hrep; simpa [maxLen] using this
    have ew : ∀ x : Int, -9223372036854775808 ≤ x → x ≤ 9223372036854775807 → IntKind.i64.wrap x = x := fun x h1 h2 => w64_id (inR_i64.2 ⟨h1, h2⟩)
    refine WI.seq (WI.ofW (W.region ?_))
    refine WL.val v _ (op_load one_22 rfl hBs) rfl ?_
    refine WL.val (Value.int .i64 (zs.length : Int)) _ (op_lenL sl_22 (Ty.lift _ hW hrep) rfl) rfl ?_
    refine WL.val (Value.int .i64 ((zs.length : Int) - 1)) _ (by rw [← ew ((zs.length : Int) - 1) (by omega) (by omega)]; exact op_sub rfl rfl) rfl ?_
    refine WL.val (Value.int .i64 ((zs.length : Int) - 1)) _ (op_assign rfl) rfl ?_
    refine WL.nil ?_
    show WI _ _ _ _ _ _ _
    refine WI.block (WI.loop (fun f wr => ∃ j : Nat, j ≤ zs.length ∧ f 0 = .func (.yield l) #[] #[] ∧ f 1 = .pointer (some ⟨Bs, 0, none⟩) ∧ f 3 = .int .i64 ((zs.length : Int) - 1 - j) ∧ J ((List.range j).map g) wr ∧ Ext w0 wr ∧ wr.cell? ⟨Bs, 0, none⟩ = some v) 3 (fun v => match v with | .int _ x => (x + 1).toNat | _ => 0)
      ⟨0, Nat.zero_le _, rfl, rfl, by show Value.int .i64 ((zs.length : Int) - 1) = _; congr 1; omega, h0, hW, hBs⟩ ?_)
    rintro f wr ⟨j, hj, hf0, hf1, hf3, hJ, hE, hB⟩
    refine WI.seq (WI.seq (WI.ofW (W.region ?_)))
    refine WL.val (Value.int .i64 ((zs.length : Int) - 1 - j)) _ (op_move hf3) rfl ?_
    refine WL.val (Value.bool (decide (((zs.length : Int) - 1 - j) ≥ 0))) _ (op_geq rfl rfl) rfl ?_
    refine WL.nil ?_
    show WI _ _ _ _ _ _ _
    refine WI.cond (decide (((zs.length : Int) - 1 - j) ≥ 0)) rfl (fun hc => ?_) (fun hc => ?_)
    · have hlt : j < zs.length := by simp at hc; omega
      refine WI.skip ?_
      show WI _ _ _ _ _ _ _
      refine WI.seq (WI.block (WI.seq (WI.region ?_)))
      refine WLI.val (.func (.yield l) #[] #[]) _ (op_move hf0) rfl (by intro c h; cases h) ?_
      refine WLI.val (Value.int .i64 ((zs.length : Int) - 1 - j)) _ (op_move hf3) rfl (by intro c h; cases h) ?_
      refine WLI.val v _ (op_load one_22 hf1 hB) rfl (by intro c h; cases h) ?_
      refine WLI.val (Value.int .i64 ((zs.length : Int) - 1 - j)) _ (op_move hf3) rfl (by intro c h; cases h) ?_
      refine WLI.val (Value.pointer (some (elA v ((zs.length : Int) - 1 - j).toNat))) _ (op_idx sl_22 (Ty.lift _ hE hrep) rfl rfl (by omega) (by omega)) rfl (by intro c h; cases h) ?_
      have en : ((zs.length : Int) - 1 - j).toNat = zs.length - 1 - j := by omega
      obtain ⟨u, hc2, hu, _⟩ := repSl.el hrep (i := zs.length - 1 - j) (x := zs.getD (zs.length - 1 - j) 0) (by rw [List.getD_eq_getElem?_getD, List.getElem?_eq_getElem (by omega)]; rfl)
      subst hu
      refine WLI.val (Value.int .i64 (zs.getD (zs.length - 1 - j) 0)) _ (op_load one_2 rfl (by rw [en]; exact Ext.cell hE hc2)) rfl (by intro c h; cases h) ?_
      refine WLI.yield rfl rfl (vs := enc (g j)) (by rw [hg j hlt]; exact args2 rfl rfl) (hY _ (g j) wr hJ (by simp; exact hlt)) rfl ?_
      rintro e W3 (⟨rfl, hJ3, hk⟩ | ⟨rfl, hJx⟩)
      · refine ⟨_, rfl, ?_⟩
        refine WLI.val (.bool false) _ (op_not (b := true) rfl) rfl (by intro c h; cases h) (WLI.nil ?_)
        show WI _ _ _ _ _ _ _
        refine WI.cond false rfl (fun h => by cases h) (fun _ => WI.skip ?_)
        show WI _ _ _ _ _ _ _
        refine WI.ofW (W.region ?_)
        refine WL.val (Value.int .i64 ((zs.length : Int) - 1 - j)) _ (op_move hf3) rfl ?_
        refine WL.val (Value.int .i64 ((zs.length : Int) - 1 - (j + 1 : Nat))) _ (by rw [show ((zs.length : Int) - 1 - (j + 1 : Nat)) = IntKind.i64.wrap ((zs.length : Int) - 1 - j - 1) from by rw [ew _ (by omega) (by omega)]; omega]; exact op_sub rfl rfl) rfl ?_
        refine WL.val (Value.int .i64 ((zs.length : Int) - 1 - (j + 1 : Nat))) _ (op_assign rfl) rfl ?_
        refine WL.nil ?_
        refine ⟨⟨j + 1, hlt, hf0, hf1, rfl, by rw [List.range_succ, List.map_append]; exact hJ3, Go.RowKit.Below.trans hE hk.1, cell_same hk.2 hB⟩, ?_⟩
        show ((zs.length : Int) - 1 - (j + 1 : Nat) + 1).toNat < (match f 3 with | .int _ x => (x + 1).toNat | _ => 0)
        rw [hf3]
        show ((zs.length : Int) - 1 - (j + 1 : Nat) + 1).toNat < ((zs.length : Int) - 1 - j + 1).toNat
        omega
      · refine ⟨_, rfl, ?_⟩
        refine WLI.val (.bool true) _ (op_not (b := false) rfl) rfl (by intro c h; cases h) (WLI.nil ?_)
        show WI _ _ _ _ _ _ _
        refine WI.cond true rfl (fun _ => WI.ret ?_) (fun h => by cases h)
        exact ⟨.inr rfl, .inr ⟨_, trivial, hJx⟩⟩
    · have hje : j = zs.length := by simp at hc; omega
      subst hje
      refine WI.exit ?_
      show (Exit.normal = Exit.normal ∨ Exit.normal = Exit.ret) ∧ _
      exact ⟨.inl rfl, .inl ⟨_, rfl, hJ⟩⟩

/-! ### The loop's caller -/

abbrev BkI := { x : Int × Int // InR .i64 x.1 ∧ InR .i64 x.2 ∧ x.2 ≠ 0 }
def bkEnc (x : BkI) : Array Value := #[.int .i64 x.1.1, .int .i64 x.1.2]
def bkF (a b : Int) (pre : List BkI) : Int × Int × Int × Int := pre.foldl (fun s x => p_impl_addElements_S x.1.2 s) (a, b, 0, 1)
theorem bkF_snoc (a b : Int) (pre : List BkI) (x : BkI) : bkF a b (pre ++ [x]) = p_impl_addElements_S x.1.2 (bkF a b pre) := by simp [bkF]
theorem bkF_rng {a b : Int} (ha : InR .i64 a) (hb : InR .i64 b) (pre : List BkI) : InR .i64 (bkF a b pre).1 ∧ InR .i64 (bkF a b pre).2.1 ∧ InR .i64 (bkF a b pre).2.2.1 ∧ InR .i64 (bkF a b pre).2.2.2 := by
  rcases List.eq_nil_or_concat pre with rfl | ⟨pre, x, rfl⟩
  · exact ⟨ha, hb, inR_i64.2 (by simp [bkF]), inR_i64.2 (by simp [bkF])⟩
  · rw [List.concat_eq_append, bkF_snoc]; exact ⟨inR_wrap _ _, inR_wrap _ _, inR_wrap _ _, inR_wrap _ _⟩
theorem bk_list (orders : List Int) (hr : ∀ x ∈ orders, InR .i64 x) (hz : ∀ x ∈ orders, x ≠ 0) (hm : orders.length ≤ 9223372036854775807) : ∃ g : Nat → BkI, ∀ j, j < orders.length → (g j).1 = ((orders.length : Int) - 1 - j, orders.getD (orders.length - 1 - j) 0) := by
  refine ⟨fun j => if h : j < orders.length then ⟨((orders.length : Int) - 1 - j, orders.getD (orders.length - 1 - j) 0), inR_i64.2 ⟨by omega, by omega⟩, ?_, ?_⟩ else ⟨(0, 1), inR_i64.2 (by simp), inR_i64.2 (by simp), by simp⟩, fun j hj => by simp [hj]⟩
  · refine hr _ ?_
    rw [List.getD_eq_getElem?_getD, List.getElem?_eq_getElem (by omega)]; exact List.getElem_mem _
  · refine hz _ ?_
    rw [List.getD_eq_getElem?_getD, List.getElem?_eq_getElem (by omega)]; exact List.getElem_mem _
theorem bk_fold (orders : List Int) (a b : Int) (g : Nat → BkI) (hg : ∀ j, j < orders.length → (g j).1 = ((orders.length : Int) - 1 - j, orders.getD (orders.length - 1 - j) 0)) :
    bkF a b ((List.range orders.length).map g) = orders.reverse.foldl (fun s m => p_impl_addElements_S m s) (a, b, 0, 1) := by
  have e : ((List.range orders.length).map g).map (fun x => x.1.2) = orders.reverse := by
    apply List.ext_getElem
    · simp
    · intro i h1 h2
      simp at h1
      simp [hg i h1, List.getElem_reverse, List.getD_eq_getElem?_getD, List.getElem?_eq_getElem (show orders.length - 1 - i < orders.length by omega)]
  rw [← e, List.foldl_map]
  rfl
theorem c_impl_addElements {w : World} {orders : (List Int)} {v_orders : Value} {a : Int} {b : Int} (r_orders : (Ty.sl (Ty.i .i64)).rep w v_orders orders) (r_a : InR .i64 a) (r_b : InR .i64 b) {res : Int} (h : p_impl_addElements orders a b = some res) :
    Ret Try.prog 101 #[v_orders, (Value.int .i64 a), (Value.int .i64 b)] w (fun v w' => v = Value.int .i64 res ∧ InR .i64 res ∧ Ext w w') := by
  unfold p_impl_addElements at h
  split at h
  case isFalse => cases h
  rename_i hz
  have hz' : ∀ x ∈ orders, x ≠ 0 := by simpa using hz
  obtain rfl := Option.some.inj h
  have hm : orders.length ≤ 9223372036854775807 := by have := repSl.max r_orders; simpa [maxLen] using this
  have hrng : ∀ x ∈ orders, InR .i64 x := by
    intro x hx
    obtain ⟨i, hi, rfl⟩ := List.mem_iff_getElem.1 hx
    obtain ⟨u, _, _, hr⟩ := repSl.el r_orders (List.getElem?_eq_getElem hi)
    exact hr
  obtain ⟨g, hg⟩ := bk_list orders hrng hz' hm
  have hvc : v_orders.cells = [v_orders].toArray := by obtain ⟨p, c, hv, _⟩ := r_orders; rw [hv]; rfl
  refine (callsIn_wide (n := 3)).1 (callsIn_of_wp_marks Try.func101 rfl trivial ?_ rfl)
  have hS0 : St w w [] := St.start w
  refine WI.step (n := 38) (f := fr0 #[v_orders, (Value.int .i64 a), (Value.int .i64 b)]) (K := fun f1 w1 => ∃ b1 b6, f1 0 = v_orders ∧ f1 4 = .pointer (some ⟨b1, 0, none⟩) ∧ f1 5 = .pointer (some ⟨b6, 0, none⟩) ∧ St w w1 [bx b1 [Value.int .i64 a], bx b6 [Value.int .i64 b]]) (W.region ?_) (agree_start rfl (Nat.le_of_ble_eq_true rfl)) ?_
  · refine WL.box hS0 rfl (cs := [(Value.int .i64 a)]) rfl rfl ?_
    intro b1 wd2 hS3 he4 hx5
    refine WL.box hS3 rfl (cs := [(Value.int .i64 b)]) rfl rfl ?_
    intro b6 wd7 hS8 he9 hx10
    refine WL.val (Value.int .i64 (0 : Int)) _ (op_assign rfl) rfl ?_
    refine WL.nil ?_
    exact ⟨b1, b6, rfl, rfl, rfl, hS8⟩
  rintro f1 w1 a1 ha1 ⟨b1, b6, h0, h4, h5, hS8⟩
  refine WI.step (K := fun f1 w1 => ∃ b11 b15, f1 0 = v_orders ∧ f1 4 = .pointer (some ⟨b1, 0, none⟩) ∧ f1 5 = .pointer (some ⟨b6, 0, none⟩) ∧ f1 7 = .pointer (some ⟨b11, 0, none⟩) ∧ f1 8 = .pointer (some ⟨b15, 0, none⟩) ∧ St w w1 [bx b1 [Value.int .i64 a], bx b6 [Value.int .i64 b], bx b11 [Value.int .i64 0], bx b15 [Value.int .i64 1]]) (W.region ?_) ha1 ?_
  · refine WL.alloc hS8 ze_2 (cs := [(Value.int .i64 (0 : Int))]) rfl rfl ?_
    intro b11 wd12 hS13 he14
    refine WL.alloc hS13 ze_2 (cs := [(Value.int .i64 (0 : Int))]) rfl rfl ?_
    intro b15 wd16 hS17 he18
    replace hS17 : St w wd16 [bx b1 [(Value.int .i64 a)], bx b6 [(Value.int .i64 b)], bx b11 [(Value.int .i64 (0 : Int))], bx b15 [(Value.int .i64 (0 : Int))]] := hS17
    refine WL.storeBox [(Value.int .i64 (0 : Int))] hS17 (k := 2) rfl rfl rfl (us := [(Value.int .i64 (0 : Int))]) rfl sz_2 rfl rfl (all_cons rfl all_nil) rfl ?_
    intro wd19 hS20
    replace hS20 : St w wd19 [bx b1 [(Value.int .i64 a)], bx b6 [(Value.int .i64 b)], bx b11 [(Value.int .i64 (0 : Int))], bx b15 [(Value.int .i64 (0 : Int))]] := hS20
    refine WL.storeBox [(Value.int .i64 (1 : Int))] hS20 (k := 3) rfl rfl rfl (us := [(Value.int .i64 (1 : Int))]) rfl sz_2 rfl rfl (all_cons rfl all_nil) rfl ?_
    intro wd21 hS22
    refine WL.nil ?_
    exact ⟨b11, b15, h0, h4, h5, rfl, rfl, hS22⟩
  rintro f2 w2 a2 ha2 ⟨b11, b15, h0, h4, h5, h7, h8, hS22⟩
  refine wpIn_seq ?_
  refine WI.step (K := fun f1 w1 => ∃ Bs, f1 4 = .pointer (some ⟨b1, 0, none⟩) ∧ f1 5 = .pointer (some ⟨b6, 0, none⟩) ∧ f1 7 = .pointer (some ⟨b11, 0, none⟩) ∧ f1 8 = .pointer (some ⟨b15, 0, none⟩) ∧ f1 12 = .func (.func 111) #[] #[.pointer (some ⟨Bs, 0, none⟩)] ∧ St w w1 [bx b1 [Value.int .i64 a], bx b6 [Value.int .i64 b], bx b11 [Value.int .i64 0], bx b15 [Value.int .i64 1], bx Bs [v_orders]]) (W.region ?_) ha2 ?_
  · refine WL.val v_orders _ (op_move h0) rfl ?_
    refine WL.call _ (op_call fn_107 (args1 rfl)) (bk_maker hvc) rfl ?_
    rintro u w4 ⟨Bs, rfl, hS4⟩
    refine WL.nil ?_
    exact ⟨Bs, h4, h5, h7, h8, rfl, hS22.join hS4.ext hS4.sep⟩
  rintro f3 w3 a3 ha3 ⟨Bs, h4, h5, h7, h8, h12, hS3⟩
  refine wpIn_block ?_
  obtain ⟨g1, g2, g3, g4, d12, d13, d14, d23, d24, d34, hI0, gs, hsl, hsn, hcell⟩ := bk_start (s := (a, b, 0, 1)) hS3
  have hA0 : ∀ x : BkI, Agree 38 ({ tmps := ((#[13, 14] : Array Tmp).zip (bkEnc x)).foldl (fun t (p, v) => t.setIfInBounds p v) a3.tmps, defers := [] } : Act) (upd (upd f3 13 (.int .i64 x.1.1)) 14 (.int .i64 x.1.2)) := fun x => by
    have ha : Agree 38 ({ tmps := a3.tmps, defers := [] } : Act) f3 := ⟨rfl, ha3.size, ha3.get⟩
    have e : ((#[13, 14] : Array Tmp).zip (bkEnc x)).foldl (fun t (p, v) => t.setIfInBounds p v) a3.tmps = (a3.tmps.setIfInBounds 13 (.int .i64 x.1.1)).setIfInBounds 14 (.int .i64 x.1.2) := by first | rfl | simp [bkEnc]
    rw [e]
    exact (ha.put 13 (.int .i64 x.1.1) rfl).put 14 (.int .i64 x.1.2) rfl
  refine wpIn_rangeFunc_ownF (F := Fence.wide) (n := 3) rfl (by decide) (gf := 111) (lb := #[.pointer (some ⟨Bs, 0, none⟩)]) (by rw [ha3.eval]; exact h12) trivial (enters_of Try.func111 (by kernel_rfl) rfl)
    (encs := bkEnc) (Kp := KpB w Bs) (S := fun xs => xs = (List.range orders.length).map g) (Sp := fun _ => True) (N := orders.length) (w0 := w3) ?seq (fun h k => ⟨h.1.trans k.1, k.2.trans h.2⟩) ?kb (Go.RowKit.Below.refl _ _) (fun _ => rfl)
    (fun pre Wd => BkI0 w Wd b1 b6 b11 b15 Bs v_orders (bkF a b pre)) (fun _ _ _ => False) (BkI0.own hS3.ext.size) (fun c s A B row h _ _ => h) hI0
    (fun x => ({ tmps := ((#[13, 14] : Array Tmp).zip (bkEnc x)).foldl (fun t (p, v) => t.setIfInBounds p v) a3.tmps, defers := [] } : Act).put (some 10) (({ tmps := ((#[13, 14] : Array Tmp).zip (bkEnc x)).foldl (fun t (p, v) => t.setIfInBounds p v) a3.tmps, defers := [] } : Act).eval (.tmp 14))) ?assign ?body ?done ?stop
  case seq =>
    intro l J Jx Wd hW _ _ hY h0
    exact bk_closure r_orders (fun j hj => by simp only [bkEnc, hg j hj]) hY (Ext.trans hS3.ext hW) (cell_same (hW.block _ hsl) hcell) h0
  case kb =>
    intro Wd l o o' hl ho hc hw
    refine ⟨belowK_b (w := w3) hS3.ext.size Wd l o o' hl ho hc hw, World.putObj_heap_other (by omega)⟩
  case assign =>
    intro l x Wd K hK
    refine wpIn_region_lit (wpListIn_plain rfl fun K' hK' => ⟨fun _ _ => trivial, ?_⟩)
    rw [Oper.semAt_eq _ _ _ (by intro c h; cases h)]
    simp only [execOp]
    exact hK' _ _ hK
  case body =>
    intro l pre x Wd hI hlen
    obtain ⟨q1, q2, q3, q4⟩ := bkF_rng r_a r_b pre
    have hA1 := (hA0 x).put 10 (({ tmps := ((#[13, 14] : Array Tmp).zip (bkEnc x)).foldl (fun t (p, v) => t.setIfInBounds p v) a3.tmps, defers := [] } : Act).eval (.tmp 14)) rfl
    have hv14 : (({ tmps := ((#[13, 14] : Array Tmp).zip (bkEnc x)).foldl (fun t (p, v) => t.setIfInBounds p v) a3.tmps, defers := [] } : Act).eval (.tmp 14)) = .int .i64 x.1.2 := by rw [(hA0 x).eval]; rfl
    refine wpIn_mono (WR.at (bk_body (m := 3 - 1 - 1) (lr := l) q1 q2 q3 q4 x.2.2.1 x.2.2.2 (f := upd (upd (upd f3 13 (.int .i64 x.1.1)) 14 (.int .i64 x.1.2)) 10 (({ tmps := ((#[13, 14] : Array Tmp).zip (bkEnc x)).foldl (fun t (p, v) => t.setIfInBounds p v) a3.tmps, defers := [] } : Act).eval (.tmp 14))) h4 h5 h7 h8 hv14 (hI.st g1 g2 g3 g4 d12 d13 d14 d23 d24 d34)) _ hA1) ?_
    rintro e a' W' ⟨f', hag, hh⟩
    cases e <;> try exact hh.elim
    have := bk_end (s' := p_impl_addElements_S x.1.2 (bkF a b pre)) hI g1 ⟨gs, hsn⟩ hh
    exact ⟨this.1, this.2.1, by show BkI0 w W' b1 b6 b11 b15 Bs v_orders (bkF a b (pre ++ [x])); rw [bkF_snoc]; exact this.2.2⟩
  case done =>
    intro D xs Wd hD hxs hI hK
    subst hxs
    show (Code.seq _ Code.ret).wpIn _ _ _ _ _ _
    refine wpIn_seq (wpIn_region_lit (wpListIn_plain rfl fun K hK1 => ⟨fun _ _ => trivial, ?_⟩))
    have hl : OpV Try.prog (.load 2 (.tmp 7)) 2 f3 Wd (.int .i64 (bkF a b ((List.range orders.length).map g)).2.2.1) Wd := op_load one_2 h7 hI.cell3
    rw [Oper.semAt_eq _ _ _ (by intro c h; cases h)]
    rw [show (Act.eval { tmps := a3.tmps, defers := { target := .collected D, args := #[] } :: a3.defers } : Operand → Value) = ev f3 from ha3.eval]
    rw [hl _ _ _ _]
    refine hK1 _ _ ?_
    refine wpListIn_plain rfl fun K hK2 => ⟨fun _ _ => trivial, ?_⟩
    rw [Oper.semAt_eq _ _ _ (by intro c h; cases h)]
    simp only [execOp]
    refine hK2 _ _ ?_
    show Code.ret.wpIn _ _ _ _ _ _
    refine wpIn_ret ?_
    refine ⟨by simp, .inl ⟨_, _, rfl, run_takeDeferred hK, ?_⟩⟩
    rw [ha3.defers]
    refine ⟨_, results_tmp rfl _ _ _, _, rfl, ?_, ?_, ?_⟩
    · have e1 := ((ha3.put 37 (.int .i64 (bkF a b ((List.range orders.length).map g)).2.2.1) rfl).put 6 (.int .i64 (bkF a b ((List.range orders.length).map g)).2.2.1) rfl).get 6
      have e2 : (a3.put (some 37) (.int .i64 (bkF a b ((List.range orders.length).map g)).2.2.1)).eval (.tmp 37) = (.int .i64 (bkF a b ((List.range orders.length).map g)).2.2.1) := by
        rw [(ha3.put 37 (.int .i64 (bkF a b ((List.range orders.length).map g)).2.2.1) rfl).eval]; rfl
      rw [← bk_fold orders a b g hg]
      refine Eq.trans ?_ e1
      show ((a3.put (some 37) _).put (some 6) ((a3.put (some 37) (.int .i64 (bkF a b ((List.range orders.length).map g)).2.2.1)).eval (.tmp 37))).tmps.getD 6 undef = _
      rw [e2]
    · rw [← bk_fold orders a b g hg]; exact (bkF_rng r_a r_b _).2.2.1
    · exact Go.RowKit.Below.trans hI.ext (belowK_b (w := w3) hS3.ext.size Wd D _ _ hD hK rfl rfl)
  case stop =>
    intro D c pre Wd _ _ h _
    exact h.elim

theorem c_impl_Cocycle_plus {w : World} {c_Orders : (List Int)} {v_c_Orders : Value} {c_Modulus : Int} {c_Values : (List (List (List Int)))} {v_c_Values : Value} {x : Int} {y : Int} (r_c_Orders : (Ty.sl (Ty.i .i64)).rep w v_c_Orders c_Orders) (r_c_Modulus : InR .i64 c_Modulus) (r_c_Values : (Ty.sl (Ty.sl (Ty.sl (Ty.i .i64)))).rep w v_c_Values c_Values) (r_x : InR .i64 x) (r_y : InR .i64 y) {res : Int} (h : p_impl_Cocycle_plus c_Orders c_Modulus c_Values x y  = some res) :
    Ret Try.prog 83 #[(Value.agg #[v_c_Orders, (Value.int .i64 c_Modulus), v_c_Values]), (Value.int .i64 x), (Value.int .i64 y)] w (fun v w' => v = Value.int .i64 res ∧ InR .i64 res ∧ Ext w w') := by
  unfold p_impl_Cocycle_plus at h
  have hS0 : St w w [] := St.start w
  refine Ret.start (fn := Try.f83) Try.func83 rfl 12 rfl rfl ?_
  refine W.seq (W.region ?_)
  refine WL.box hS0 rfl (cs := [v_c_Orders, (Value.int .i64 c_Modulus), v_c_Values]) rfl rfl ?_
  intro b1 wd2 hS3 he4 hx5
  replace hS3 : St w wd2 [bx b1 [v_c_Orders, (Value.int .i64 c_Modulus), v_c_Values]] := hS3
  have hx6 := St.boxAt hS3 0 rfl
  have hE7 : Ext w wd2 := hS3.ext
  have hS8 : St wd2 wd2 [] := St.start wd2
  refine WL.val (Value.int .i64 (0 : Int)) _ (op_assign rfl) rfl ?_
  refine WL.nil ?_
  show W _ _ _ _ _ _
  refine W.seq (W.region ?_)
  refine WL.val (Value.pointer (some ⟨b1, 0, none⟩)) _ (op_fieldAddr fd_30_0 rfl) rfl ?_
  refine WL.val v_c_Orders _ (op_load one_22 rfl (BoxAt.cell (BoxAt.lift hS8.ext hx6) rfl)) rfl ?_
  refine WL.val (Value.int .i64 x) _ (op_move rfl) rfl ?_
  refine WL.val (Value.int .i64 y) _ (op_move rfl) rfl ?_
  obtain ⟨x9, hx10, h⟩ := bs h
  refine WL.call _ (op_call fn_101 (args3 rfl rfl rfl)) (c_impl_addElements (Ty.lift _ (Ext.trans hE7 hS8.ext) r_c_Orders) r_x r_y hx10) rfl ?_
  rintro _ wd12 ⟨rfl, hr11, he13⟩
  have hS15 := St.extend hS8 he13
  replace hS15 : St wd2 wd12 [] := hS15
  refine WL.val (Value.int .i64 x9) _ (op_assign rfl) rfl ?_
  refine WL.nil ?_
  show W _ _ _ _ _ _
  refine W.ret ?_
  obtain rfl := Option.some.inj h
  show FinP _ _ _ _ _ _ _
  exact FinP.ret _ (res1 rfl rfl) ⟨rfl, hr11, (Ext.trans hE7 hS15.ext)⟩

theorem c_impl_Cocycle_rest {w : World} {c_Orders : (List Int)} {v_c_Orders : Value} {c_Modulus : Int} {c_Values : (List (List (List Int)))} {v_c_Values : Value} {n : Int} (r_c_Orders : (Ty.sl (Ty.i .i64)).rep w v_c_Orders c_Orders) (r_c_Modulus : InR .i64 c_Modulus) (r_c_Values : (Ty.sl (Ty.sl (Ty.sl (Ty.i .i64)))).rep w v_c_Values c_Values) (r_n : InR .i64 n) {res : Int} (h : p_impl_Cocycle_rest c_Orders c_Modulus c_Values n  = some res) :
    Ret Try.prog 43 #[(Value.agg #[v_c_Orders, (Value.int .i64 c_Modulus), v_c_Values]), (Value.int .i64 n)] w (fun v w' => v = Value.int .i64 res ∧ InR .i64 res ∧ Ext w w') := by
  unfold p_impl_Cocycle_rest at h
  have hS0 : St w w [] := St.start w
  refine Ret.start (fn := Try.f43) Try.func43 rfl 15 rfl rfl ?_
  refine W.seq (W.region ?_)
  refine WL.box hS0 rfl (cs := [v_c_Orders, (Value.int .i64 c_Modulus), v_c_Values]) rfl rfl ?_
  intro b1 wd2 hS3 he4 hx5
  replace hS3 : St w wd2 [bx b1 [v_c_Orders, (Value.int .i64 c_Modulus), v_c_Values]] := hS3
  have hx6 := St.boxAt hS3 0 rfl
  have hE7 : Ext w wd2 := hS3.ext
  have hS8 : St wd2 wd2 [] := St.start wd2
  refine WL.val (Value.int .i64 (0 : Int)) _ (op_assign rfl) rfl ?_
  refine WL.nil ?_
  show W _ _ _ _ _ _
  refine W.seq ?_
  obtain ⟨x49, hz50, h⟩ := bs h
  obtain ⟨h051, hz50⟩ := remI_some hz50
  refine W.drawR mixo 9 [] [fun _ v _ _ => v = (Value.int .i64 n) ∧ InR .i64 n, fun _ v _ _ => v = (Value.pointer (some ⟨b1, 1, none⟩)), fun _ v _ _ => v = (Value.int .i64 c_Modulus) ∧ InR .i64 c_Modulus, fun _ v _ _ => v = (Value.int .i64 x49) ∧ InR .i64 x49, fun _ v _ _ => v = (Value.pointer (some ⟨b1, 1, none⟩)), fun _ v _ _ => v = (Value.int .i64 c_Modulus) ∧ InR .i64 c_Modulus, fun _ v _ _ => v = (Value.int .i64 (w64 (x49 + c_Modulus))) ∧ InR .i64 (w64 (x49 + c_Modulus)), fun _ v _ _ => v = (Value.pointer (some ⟨b1, 1, none⟩)), fun _ v _ _ => v = (Value.int .i64 c_Modulus) ∧ InR .i64 c_Modulus] (by kernel_rfl) (by kernel_rfl) ⟨⟨fun _ _ _ _ _ _ h => h, fun _ _ _ _ _ _ h => h⟩, ⟨fun _ _ _ _ _ _ h => h, fun _ _ _ _ _ _ h => h⟩, ⟨fun _ _ _ _ _ _ h => h, fun _ _ _ _ _ _ h => h⟩, ⟨fun _ _ _ _ _ _ h => h, fun _ _ _ _ _ _ h => h⟩, ⟨fun _ _ _ _ _ _ h => h, fun _ _ _ _ _ _ h => h⟩, ⟨fun _ _ _ _ _ _ h => h, fun _ _ _ _ _ _ h => h⟩, ⟨fun _ _ _ _ _ _ h => h, fun _ _ _ _ _ _ h => h⟩, ⟨fun _ _ _ _ _ _ h => h, fun _ _ _ _ _ _ h => h⟩, ⟨fun _ _ _ _ _ _ h => h, fun _ _ _ _ _ _ h => h⟩, trivial⟩ ⟨?_, ?_, ?_, ?_, ?_, ?_, ?_, ?_, ?_, trivial⟩ ?_
  · refine ObX.op rfl ?_
    intro f9 wd10 he11 hout12 hphi13
    have hS14 : St wd2 wd10 [] := St.extend hS8 he11
    have e15 : f9 1 = (Value.int .i64 n) := (hout12 1 rfl).trans rfl
    exact OpX.val (Value.int .i64 n) wd10 rfl (op_move e15) (Ext.refl _) ⟨rfl, r_n⟩
  · refine ObX.op rfl ?_
    intro f16 wd17 he18 hout19 hphi20
    have hS21 : St wd2 wd17 [] := St.extend hS8 he18
    have e22 : f16 2 = (Value.pointer (some ⟨b1, 0, none⟩)) := (hout19 2 rfl).trans rfl
    exact OpX.val (Value.pointer (some ⟨b1, 1, none⟩)) wd17 rfl (op_fieldAddr fd_30_1 e22) (Ext.refl _) rfl
  · refine ObX.op rfl ?_
    intro f23 wd24 he25 hout26 hphi27
    have hS28 : St wd2 wd24 [] := St.extend hS8 he25
    obtain ⟨S29, hS30, hf31⟩ := hphi27 1 6 _ rfl rfl rfl
    have e32 : f23 6 = (Value.pointer (some ⟨b1, 1, none⟩)) := hf31
    exact OpX.val (Value.int .i64 c_Modulus) wd24 rfl (op_load one_2 e32 (BoxAt.cell (BoxAt.lift hS28.ext hx6) rfl)) (Ext.refl _) ⟨rfl, r_c_Modulus⟩
  · refine ObX.op rfl ?_
    intro f33 wd34 he35 hout36 hphi37
    have hS38 : St wd2 wd34 [] := St.extend hS8 he35
    obtain ⟨S39, hS40, hf41⟩ := hphi37 0 5 _ rfl rfl rfl
    obtain ⟨e42, hr43⟩ : f33 5 = (Value.int .i64 n) ∧ InR .i64 n := hf41
    obtain ⟨S44, hS45, hf46⟩ := hphi37 2 7 _ rfl rfl rfl
    obtain ⟨e47, hr48⟩ : f33 7 = (Value.int .i64 c_Modulus) ∧ InR .i64 c_Modulus := hf46
    have hr52 : InR .i64 x49 := by rw [hz50]; exact inR_tmod hr43
    exact OpX.val (Value.int .i64 x49) wd34 rfl (by rw [hz50]; exact op_rem e42 e47 h051) (Ext.refl _) ⟨rfl, hr52⟩
  · refine ObX.op rfl ?_
    intro f53 wd54 he55 hout56 hphi57
    have hS58 : St wd2 wd54 [] := St.extend hS8 he55
    have e59 : f53 2 = (Value.pointer (some ⟨b1, 0, none⟩)) := (hout56 2 rfl).trans rfl
    exact OpX.val (Value.pointer (some ⟨b1, 1, none⟩)) wd54 rfl (op_fieldAddr fd_30_1 e59) (Ext.refl _) rfl
  · refine ObX.op rfl ?_
    intro f60 wd61 he62 hout63 hphi64
    have hS65 : St wd2 wd61 [] := St.extend hS8 he62
    obtain ⟨S66, hS67, hf68⟩ := hphi64 4 9 _ rfl rfl rfl
    have e69 : f60 9 = (Value.pointer (some ⟨b1, 1, none⟩)) := hf68
    exact OpX.val (Value.int .i64 c_Modulus) wd61 rfl (op_load one_2 e69 (BoxAt.cell (BoxAt.lift hS65.ext hx6) rfl)) (Ext.refl _) ⟨rfl, r_c_Modulus⟩
  · refine ObX.op rfl ?_
    intro f70 wd71 he72 hout73 hphi74
    have hS75 : St wd2 wd71 [] := St.extend hS8 he72
    obtain ⟨S76, hS77, hf78⟩ := hphi74 3 8 _ rfl rfl rfl
    obtain ⟨e79, hr80⟩ : f70 8 = (Value.int .i64 x49) ∧ InR .i64 x49 := hf78
    obtain ⟨S81, hS82, hf83⟩ := hphi74 5 10 _ rfl rfl rfl
    obtain ⟨e84, hr85⟩ : f70 10 = (Value.int .i64 c_Modulus) ∧ InR .i64 c_Modulus := hf83
    exact OpX.val (Value.int .i64 (w64 (x49 + c_Modulus))) wd71 rfl (op_add e79 e84) (Ext.refl _) ⟨rfl, (inR_wrap _ _)⟩
  · refine ObX.op rfl ?_
    intro f86 wd87 he88 hout89 hphi90
    have hS91 : St wd2 wd87 [] := St.extend hS8 he88
    have e92 : f86 2 = (Value.pointer (some ⟨b1, 0, none⟩)) := (hout89 2 rfl).trans rfl
    exact OpX.val (Value.pointer (some ⟨b1, 1, none⟩)) wd87 rfl (op_fieldAddr fd_30_1 e92) (Ext.refl _) rfl
  · refine ObX.op rfl ?_
    intro f93 wd94 he95 hout96 hphi97
    have hS98 : St wd2 wd94 [] := St.extend hS8 he95
    obtain ⟨S99, hS100, hf101⟩ := hphi97 7 12 _ rfl rfl rfl
    have e102 : f93 12 = (Value.pointer (some ⟨b1, 1, none⟩)) := hf101
    exact OpX.val (Value.int .i64 c_Modulus) wd94 rfl (op_load one_2 e102 (BoxAt.cell (BoxAt.lift hS98.ext hx6) rfl)) (Ext.refl _) ⟨rfl, r_c_Modulus⟩
  · intro f103 wd104 Ss105 he106 hout107 hSn108 hSd109 hphi110
    show WL _ _ _ _ _ _ _
    have hS111 : St wd2 wd104 [] := St.extend hS8 he106
    obtain ⟨e112, hr113⟩ : f103 11 = (Value.int .i64 (w64 (x49 + c_Modulus))) ∧ InR .i64 (w64 (x49 + c_Modulus)) := hphi110 6 11 _ (by decide) rfl rfl
    obtain ⟨e114, hr115⟩ : f103 13 = (Value.int .i64 c_Modulus) ∧ InR .i64 c_Modulus := hphi110 8 13 _ (by decide) rfl rfl
    obtain ⟨x116, hz117, h⟩ := bs h
    obtain ⟨h0118, hz117⟩ := remI_some hz117
    have hr119 : InR .i64 x116 := by rw [hz117]; exact inR_tmod hr113
    refine WL.val (Value.int .i64 x116) _ (by rw [hz117]; exact op_rem e112 e114 h0118) rfl ?_
    refine WL.val (Value.int .i64 x116) _ (op_assign rfl) rfl ?_
    refine WL.nil ?_
    show W _ _ _ _ _ _
    refine W.ret ?_
    obtain rfl := Option.some.inj h
    show FinP _ _ _ _ _ _ _
    exact FinP.ret _ (res1 rfl rfl) ⟨rfl, hr119, (Ext.trans hE7 hS111.ext)⟩

theorem c_impl_zeros {w : World} {rows : Int} {columns : Int} (r_rows : InR .i64 rows) (r_columns : InR .i64 columns) {res : (List (List Int))} (h : p_impl_zeros rows columns  = some res) :
    Ret Try.prog 42 #[(Value.int .i64 rows), (Value.int .i64 columns)] w (fun v w' => ∃ (u0 : Value), v = u0 ∧ Ext w w' ∧ Sep w.heap.size w' [(Ty.sl (Ty.sl (Ty.i .i64))).at u0 res]) := by
  unfold p_impl_zeros at h
  have hS0 : St w w [] := St.start w
  refine Ret.start (fn := Try.f42) Try.func42 rfl 17 rfl rfl ?_
  refine W.seq (W.region ?_)
  refine WL.val (Value.slice none 0 0) _ (op_assign rfl) rfl ?_
  refine WL.nil ?_
  show W _ _ _ _ _ _
  refine W.seq (W.region ?_)
  refine WL.lit0 (t := (Ty.sl (Ty.i .i64))) hS0 sl_27 rfl rfl ?_
  intro u1 wd2 hS3 he4
  replace hS3 : St w wd2 [(Ty.sl (Ty.sl (Ty.i .i64))).at u1 ([] : (List (List Int)))] := hS3
  refine WL.val u1 _ (op_assign rfl) rfl ?_
  refine WL.nil ?_
  show W _ _ _ _ _ _
  refine W.seq (W.seq (W.region ?_))
  refine WL.val (Value.int .i64 rows) _ (op_move rfl) rfl ?_
  refine WL.val (Value.int .i64 (0 : Int)) _ (op_move rfl) rfl ?_
  refine WL.nil ?_
  show W _ _ _ _ _ _
  obtain ⟨res5, hres6, h⟩ := bs h
  refine W.blockLoop (fun fq wq => ∃ s, res5 = Res.fin s ∧ ∃ (uu0 : Value), fq 5 = uu0 ∧ St w wq [(Ty.sl (Ty.sl (Ty.i .i64))).at uu0 s]) ?_ ?_
  · refine W.forN (fun k (s : (List (List Int))) fq wq => ∃ (uu0 : Value), fq 1 = (Value.int .i64 columns) ∧ fq 5 = uu0 ∧ fq 7 = (Value.int .i64 rows) ∧ fq 8 = Value.int .i64 (k : Int) ∧ InR .i64 (k : Int) ∧ St w wq [(Ty.sl (Ty.sl (Ty.i .i64))).at uu0 s]) hres6 ⟨u1, rfl, rfl, rfl, rfl, (inR_i64.2 (show (-9223372036854775808 : Int) ≤ 0 ∧ (0 : Int) ≤ 9223372036854775807 from by decide)), hS3⟩ ?_ ?_
    · intro k7 x8 ct9 f10 wd11 hk12 hb13 hI14 hbrk15 hret16
      replace hI14 : ∃ (uu0 : Value), f10 1 = (Value.int .i64 columns) ∧ f10 5 = uu0 ∧ f10 7 = (Value.int .i64 rows) ∧ f10 8 = Value.int .i64 (k7 : Int) ∧ InR .i64 (k7 : Int) ∧ St w wd11 [(Ty.sl (Ty.sl (Ty.i .i64))).at uu0 x8] := hI14
      replace hb13 : p_impl_zeros_L1 columns k7 x8 = some ct9 := hb13
      unfold p_impl_zeros_L1 at hb13
      obtain ⟨u17, hf18, hf19, hf20, hf21, hr22, hS23⟩ := hI14
      refine W.seq (W.region ?_)
      refine WL.val (Value.bool (decide ((k7 : Int) < rows))) _ (op_lss hf21 hf20) rfl ?_
      have hl24 : (k7 : Int) < rows := by omega
      refine WL.nil ?_
      show W _ _ _ _ _ _
      refine W.seq ?_
      refine W.condT (decide ((k7 : Int) < rows)) rfl (decide_eq_true hl24) ?_
      refine W.skip ?_
      show W _ _ _ _ _ _
      refine W.seq ?_
      refine W.block ?_
      refine W.region ?_
      refine WL.val u17 _ (op_move hf19) rfl ?_
      refine WL.val (Value.int .i64 columns) _ (op_move hf18) rfl ?_
      obtain ⟨x26, hx27, hb13⟩ := bs hb13
      refine WL.make (t := (Ty.i .i64)) hS23 sl_22 (fun _ _ => ⟨rfl, (inR_i64.2 (show (-9223372036854775808 : Int) ≤ 0 ∧ (0 : Int) ≤ 9223372036854775807 from by decide))⟩) rfl rfl hx27 rfl rfl ?_
      intro u28 wd29 hS30 he31
      replace hS30 : St w wd29 [(Ty.sl (Ty.sl (Ty.i .i64))).at u17 x8, (Ty.sl (Ty.i .i64)).at u28 x26] := hS30
      refine WL.lit [u28] hS30 sl_27 rfl rfl (fillL rfl ⟨rfl, rfl, (cells_rep (St.rep (t := (Ty.sl (Ty.i .i64))) hS30 1 rfl)), trivial⟩) rfl rfl ?_
      intro b36 wd33 hS34 he35 hx37
      replace hS34 : St w wd33 [(Ty.sl (Ty.sl (Ty.i .i64))).at u17 x8, (Ty.sl (Ty.i .i64)).at u28 x26, bx b36 [u28]] := hS34
      obtain ⟨x38, hx39, hb13⟩ := bs hb13
      refine WL.appendRow hS34 (k := 0) (k2 := 1) (k3 := 2) rfl rfl rfl rfl sl_27 rfl rfl rfl rfl hx39 rfl ?_
      intro u40 wd41 hS42 hz43
      replace hS42 : St w wd41 [(Ty.sl (Ty.sl (Ty.i .i64))).at u40 x38, emp, bx b36 [u28]] := hS42
      refine WL.val u40 _ (op_assign rfl) rfl ?_
      refine WL.nil ?_
      show W _ _ _ _ _ _
      refine W.region ?_
      refine WL.val (Value.int .i64 (w64 ((k7 : Int) + (1 : Int)))) _ (op_add hf21 rfl) rfl ?_
      refine WL.val (Value.int .i64 (w64 ((k7 : Int) + (1 : Int)))) _ (op_move rfl) rfl ?_
      refine WL.nil ?_
      obtain rfl := Option.some.inj hb13
      show ∃ s, _ = Ctl.next s ∧ _
      exact ⟨_, rfl, u40, hf18, rfl, hf20, (ctr_next hl24 r_rows), (ctr_rng hl24 r_rows), (St.pick hS42 [0] rfl)⟩
    · intro x50 f45 wd46 hs47 hI48
      replace hI48 : ∃ (uu0 : Value), f45 1 = (Value.int .i64 columns) ∧ f45 5 = uu0 ∧ f45 7 = (Value.int .i64 rows) ∧ f45 8 = Value.int .i64 (((rows).toNat : Nat) : Int) ∧ InR .i64 (((rows).toNat : Nat) : Int) ∧ St w wd46 [(Ty.sl (Ty.sl (Ty.i .i64))).at uu0 x50] := hI48
      obtain ⟨u51, hf52, hf53, hf54, hf55, hr56, hS57⟩ := hI48
      refine W.seq (W.region ?_)
      refine WL.val (Value.bool (decide ((((rows).toNat : Nat) : Int) < rows))) _ (op_lss hf55 hf54) rfl ?_
      have hl58 : ¬ (((rows).toNat : Nat) : Int) < rows := by omega
      refine WL.nil ?_
      show W _ _ _ _ _ _
      refine W.seq ?_
      refine W.condF (decide ((((rows).toNat : Nat) : Int) < rows)) rfl (decide_eq_false hl58) ?_
      refine W.exit ?_
      show _ = _ ∧ _
      exact ⟨rfl, _, hs47, u51, hf53, hS57⟩
  · rintro f59 wd60 ⟨x63, rfl, hq61⟩
    replace h := onRes_fin h
    replace hq61 : ∃ (uu0 : Value), f59 5 = uu0 ∧ St w wd60 [(Ty.sl (Ty.sl (Ty.i .i64))).at uu0 x63] := hq61
    obtain ⟨u64, hf65, hS66⟩ := hq61
    show W _ _ _ _ _ _
    refine W.seq (W.region ?_)
    refine WL.val u64 _ (op_move hf65) rfl ?_
    refine WL.val u64 _ (op_assign rfl) rfl ?_
    refine WL.nil ?_
    show W _ _ _ _ _ _
    refine W.ret ?_
    obtain rfl := Option.some.inj h
    show FinP _ _ _ _ _ _ _
    exact FinP.ret _ (res1 rfl rfl) ⟨u64, rfl, hS66.ext, (St.out (St.pick hS66 [0] rfl) (Ext.refl _))⟩

theorem c_laws_eqInt64S {w : World} {a : (List Int)} {v_a : Value} {b : (List Int)} {v_b : Value} (r_a : (Ty.sl (Ty.i .i64)).rep w v_a a) (r_b : (Ty.sl (Ty.i .i64)).rep w v_b b) {res : Bool} (h : p_laws_eqInt64S a b  = some res) :
    Ret Try.prog 27 #[v_a, v_b] w (fun v w' => v = Value.bool res ∧ Ext w w') := by
  unfold p_laws_eqInt64S at h
  have hS0 : St w w [] := St.start w
  refine Ret.start (fn := Try.f27) Try.func27 rfl 26 rfl rfl ?_
  refine W.seq (W.region ?_)
  refine WL.val (Value.bool false) _ (op_assign rfl) rfl ?_
  refine WL.nil ?_
  show W _ _ _ _ _ _
  refine W.seq (W.seq (W.region ?_))
  refine WL.val v_a _ (op_move rfl) rfl ?_
  have hr1 := inR_len (Ty.lift _ hS0.ext r_a)
  refine WL.val (Value.int .i64 ((a).length : Int)) _ (op_lenL sl_22 (Ty.lift _ hS0.ext r_a) rfl) rfl ?_
  refine WL.val v_b _ (op_move rfl) rfl ?_
  have hr2 := inR_len (Ty.lift _ hS0.ext r_b)
  refine WL.val (Value.int .i64 ((b).length : Int)) _ (op_lenL sl_22 (Ty.lift _ hS0.ext r_b) rfl) rfl ?_
  refine WL.val (Value.bool (((a).length : Int) != ((b).length : Int))) _ (op_neq rfl rfl) rfl ?_
  refine WL.nil ?_
  show W _ _ _ _ _ _
  refine W.cond (((a).length : Int) != ((b).length : Int)) rfl (fun hc3 => ?_) (fun hc3 => ?_)
  · replace h := ip h hc3
    refine W.seq (W.region ?_)
    refine WL.val (Value.bool false) _ (op_assign rfl) rfl ?_
    refine WL.nil ?_
    show W _ _ _ _ _ _
    refine W.ret ?_
    obtain rfl := Option.some.inj h
    show FinP _ _ _ _ _ _ _
    exact FinP.ret _ (res1 rfl rfl) ⟨rfl, hS0.ext⟩
  · replace h := inegb h hc3
    refine W.skip ?_
    show W _ _ _ _ _ _
    refine W.seq (W.seq (W.region ?_))
    refine WL.val (Value.int .i64 (0 : Int)) _ (op_assign rfl) rfl ?_
    refine WL.nil ?_
    show W _ _ _ _ _ _
    obtain ⟨res5, hres6, h⟩ := bs h
    refine W.blockLoop (fun fq wq => ∃ s, res5 = Res.fin s ∧ St w wq []) ?_ ?_
    · refine W.forN (fun k (s : Unit) fq wq => fq 0 = v_a ∧ fq 1 = v_b ∧ fq 5 = Value.int .i64 (k : Int) ∧ InR .i64 (k : Int) ∧ St w wq []) hres6 ⟨rfl, rfl, rfl, (inR_i64.2 (show (-9223372036854775808 : Int) ≤ 0 ∧ (0 : Int) ≤ 9223372036854775807 from by decide)), hS0⟩ ?_ ?_
      · intro k7 s134 ct8 f9 wd10 hk11 hb12 hI13 hbrk14 hret15
        obtain ⟨⟩ := s134
        replace hI13 : f9 0 = v_a ∧ f9 1 = v_b ∧ f9 5 = Value.int .i64 (k7 : Int) ∧ InR .i64 (k7 : Int) ∧ St w wd10 [] := hI13
        replace hb12 : p_laws_eqInt64S_L1 a b k7  = some ct8 := hb12
        unfold p_laws_eqInt64S_L1 at hb12
        obtain ⟨hf16, hf17, hf18, hr19, hS20⟩ := hI13
        refine W.seq (W.seq (W.region ?_))
        refine WL.val (Value.int .i64 (k7 : Int)) _ (op_move hf18) rfl ?_
        refine WL.val v_a _ (op_move hf16) rfl ?_
        have hr21 := inR_len (Ty.lift _ hS20.ext r_a)
        refine WL.val (Value.int .i64 ((a).length : Int)) _ (op_lenL sl_22 (Ty.lift _ hS20.ext r_a) rfl) rfl ?_
        refine WL.val (Value.bool (decide ((k7 : Int) < ((a).length : Int)))) _ (op_lss rfl rfl) rfl ?_
        have hl22 : (k7 : Int) < ((a).length : Int) := by omega
        refine WL.nil ?_
        show W _ _ _ _ _ _
        refine W.condT (decide ((k7 : Int) < ((a).length : Int))) rfl (decide_eq_true hl22) ?_
        refine W.skip ?_
        show W _ _ _ _ _ _
        refine W.seq ?_
        refine W.block ?_
        refine W.seq ?_
        obtain ⟨x53, hx56, hb12⟩ := bs hb12
        obtain ⟨ha54, hb55, hx56⟩ := idx_some hx56
        obtain ⟨u67, hc68, hr69⟩ := repSl.el r_a hx56
        obtain ⟨rfl, hr69⟩ := hr69
        obtain ⟨x99, hx102, hb12⟩ := bs hb12
        obtain ⟨ha100, hb101, hx102⟩ := idx_some hx102
        obtain ⟨u113, hc114, hr115⟩ := repSl.el r_b hx102
        obtain ⟨rfl, hr115⟩ := hr115
        refine W.drawR mixo 8 [] [fun _ v _ _ => v = v_a, fun _ v _ _ => v = (Value.int .i64 (k7 : Int)) ∧ InR .i64 (k7 : Int), fun _ v _ _ => v = (Value.pointer (some (elA v_a ((k7 : Int)).toNat))), fun _ v _ _ => v = (Value.int .i64 x53) ∧ InR .i64 x53, fun _ v _ _ => v = v_b, fun _ v _ _ => v = (Value.int .i64 (k7 : Int)) ∧ InR .i64 (k7 : Int), fun _ v _ _ => v = (Value.pointer (some (elA v_b ((k7 : Int)).toNat))), fun _ v _ _ => v = (Value.int .i64 x99) ∧ InR .i64 x99] (by kernel_rfl) (by kernel_rfl) ⟨⟨fun _ _ _ _ _ _ h => h, fun _ _ _ _ _ _ h => h⟩, ⟨fun _ _ _ _ _ _ h => h, fun _ _ _ _ _ _ h => h⟩, ⟨fun _ _ _ _ _ _ h => h, fun _ _ _ _ _ _ h => h⟩, ⟨fun _ _ _ _ _ _ h => h, fun _ _ _ _ _ _ h => h⟩, ⟨fun _ _ _ _ _ _ h => h, fun _ _ _ _ _ _ h => h⟩, ⟨fun _ _ _ _ _ _ h => h, fun _ _ _ _ _ _ h => h⟩, ⟨fun _ _ _ _ _ _ h => h, fun _ _ _ _ _ _ h => h⟩, ⟨fun _ _ _ _ _ _ h => h, fun _ _ _ _ _ _ h => h⟩, trivial⟩ ⟨?_, ?_, ?_, ?_, ?_, ?_, ?_, ?_, trivial⟩ ?_
        · refine ObX.op rfl ?_
          intro f24 wd25 he26 hout27 hphi28
          have hS29 : St w wd25 [] := St.extend hS20 he26
          have e30 : f24 0 = v_a := (hout27 0 rfl).trans hf16
          exact OpX.val v_a wd25 rfl (op_move e30) (Ext.refl _) rfl
        · refine ObX.op rfl ?_
          intro f31 wd32 he33 hout34 hphi35
          have hS36 : St w wd32 [] := St.extend hS20 he33
          have e37 : f31 5 = (Value.int .i64 (k7 : Int)) := (hout34 5 rfl).trans hf18
          exact OpX.val (Value.int .i64 (k7 : Int)) wd32 rfl (op_move e37) (Ext.refl _) ⟨rfl, hr19⟩
        · refine ObX.op rfl ?_
          intro f38 wd39 he40 hout41 hphi42
          have hS43 : St w wd39 [] := St.extend hS20 he40
          obtain ⟨S44, hS45, hf46⟩ := hphi42 0 17 _ rfl rfl rfl
          have e47 : f38 17 = v_a := hf46
          obtain ⟨S48, hS49, hf50⟩ := hphi42 1 18 _ rfl rfl rfl
          obtain ⟨e51, hr52⟩ : f38 18 = (Value.int .i64 (k7 : Int)) ∧ InR .i64 (k7 : Int) := hf50
          exact OpX.val (Value.pointer (some (elA v_a ((k7 : Int)).toNat))) wd39 rfl (op_idx sl_22 (Ty.lift _ hS43.ext r_a) e47 e51 ha54 hb55) (Ext.refl _) rfl
        · refine ObX.op rfl ?_
          intro f57 wd58 he59 hout60 hphi61
          have hS62 : St w wd58 [] := St.extend hS20 he59
          obtain ⟨S63, hS64, hf65⟩ := hphi61 2 19 _ rfl rfl rfl
          have e66 : f57 19 = (Value.pointer (some (elA v_a ((k7 : Int)).toNat))) := hf65
          exact OpX.val (Value.int .i64 x53) wd58 rfl (op_load one_2 e66 (Ext.cell hS62.ext hc68)) (Ext.refl _) ⟨rfl, hr69⟩
        · refine ObX.op rfl ?_
          intro f70 wd71 he72 hout73 hphi74
          have hS75 : St w wd71 [] := St.extend hS20 he72
          have e76 : f70 1 = v_b := (hout73 1 rfl).trans hf17
          exact OpX.val v_b wd71 rfl (op_move e76) (Ext.refl _) rfl
        · refine ObX.op rfl ?_
          intro f77 wd78 he79 hout80 hphi81
          have hS82 : St w wd78 [] := St.extend hS20 he79
          have e83 : f77 5 = (Value.int .i64 (k7 : Int)) := (hout80 5 rfl).trans hf18
          exact OpX.val (Value.int .i64 (k7 : Int)) wd78 rfl (op_move e83) (Ext.refl _) ⟨rfl, hr19⟩
        · refine ObX.op rfl ?_
          intro f84 wd85 he86 hout87 hphi88
          have hS89 : St w wd85 [] := St.extend hS20 he86
          obtain ⟨S90, hS91, hf92⟩ := hphi88 4 21 _ rfl rfl rfl
          have e93 : f84 21 = v_b := hf92
          obtain ⟨S94, hS95, hf96⟩ := hphi88 5 22 _ rfl rfl rfl
          obtain ⟨e97, hr98⟩ : f84 22 = (Value.int .i64 (k7 : Int)) ∧ InR .i64 (k7 : Int) := hf96
          exact OpX.val (Value.pointer (some (elA v_b ((k7 : Int)).toNat))) wd85 rfl (op_idx sl_22 (Ty.lift _ hS89.ext r_b) e93 e97 ha100 hb101) (Ext.refl _) rfl
        · refine ObX.op rfl ?_
          intro f103 wd104 he105 hout106 hphi107
          have hS108 : St w wd104 [] := St.extend hS20 he105
          obtain ⟨S109, hS110, hf111⟩ := hphi107 6 23 _ rfl rfl rfl
          have e112 : f103 23 = (Value.pointer (some (elA v_b ((k7 : Int)).toNat))) := hf111
          exact OpX.val (Value.int .i64 x99) wd104 rfl (op_load one_2 e112 (Ext.cell hS108.ext hc114)) (Ext.refl _) ⟨rfl, hr115⟩
        · intro f116 wd117 Ss118 he119 hout120 hSn121 hSd122 hphi123
          show WL _ _ _ _ _ _ _
          have hS124 : St w wd117 [] := St.extend hS20 he119
          obtain ⟨e125, hr126⟩ : f116 20 = (Value.int .i64 x53) ∧ InR .i64 x53 := hphi123 3 20 _ (by decide) rfl rfl
          obtain ⟨e127, hr128⟩ : f116 24 = (Value.int .i64 x99) ∧ InR .i64 x99 := hphi123 7 24 _ (by decide) rfl rfl
          have e129 : f116 0 = v_a := (hout120 0 rfl).trans hf16
          have e130 : f116 1 = v_b := (hout120 1 rfl).trans hf17
          have e131 : f116 5 = (Value.int .i64 (k7 : Int)) := (hout120 5 rfl).trans hf18
          refine WL.val (Value.bool (x53 != x99)) _ (op_neq e125 e127) rfl ?_
          refine WL.nil ?_
          show W _ _ _ _ _ _
          refine W.cond (x53 != x99) rfl (fun hc132 => ?_) (fun hc132 => ?_)
          · replace hb12 := ip hb12 hc132
            refine W.seq (W.region ?_)
            refine WL.val (Value.bool false) _ (op_assign rfl) rfl ?_
            refine WL.nil ?_
            show W _ _ _ _ _ _
            refine W.ret ?_
            obtain rfl := Option.some.inj hb12
            obtain rfl := hret15 _ rfl
            replace h := onRes_ret h
            obtain rfl := Option.some.inj h
            show FinP _ _ _ _ _ _ _
            exact FinP.ret _ (res1 rfl rfl) ⟨rfl, hS124.ext⟩
          · replace hb12 := inegb hb12 hc132
            refine W.skip ?_
            show W _ _ _ _ _ _
            refine W.region ?_
            refine WL.val (Value.int .i64 (k7 : Int)) _ (op_move e131) rfl ?_
            refine WL.val (Value.int .i64 (w64 ((k7 : Int) + (1 : Int)))) _ (op_add rfl rfl) rfl ?_
            refine WL.val (Value.int .i64 (w64 ((k7 : Int) + (1 : Int)))) _ (op_assign rfl) rfl ?_
            refine WL.nil ?_
            obtain rfl := Option.some.inj hb12
            show ∃ s, _ = Ctl.next s ∧ _
            exact ⟨_, rfl, e129, e130, (ctr_next hl22 hr21), (ctr_rng hl22 hr21), hS124⟩
      · intro s139 f135 wd136 hs137 hI138
        obtain ⟨⟩ := s139
        replace hI138 : f135 0 = v_a ∧ f135 1 = v_b ∧ f135 5 = Value.int .i64 (((a).length : Nat) : Int) ∧ InR .i64 (((a).length : Nat) : Int) ∧ St w wd136 [] := hI138
        obtain ⟨hf140, hf141, hf142, hr143, hS144⟩ := hI138
        refine W.seq (W.seq (W.region ?_))
        refine WL.val (Value.int .i64 (((a).length : Nat) : Int)) _ (op_move hf142) rfl ?_
        refine WL.val v_a _ (op_move hf140) rfl ?_
        have hr145 := inR_len (Ty.lift _ hS144.ext r_a)
        refine WL.val (Value.int .i64 ((a).length : Int)) _ (op_lenL sl_22 (Ty.lift _ hS144.ext r_a) rfl) rfl ?_
        refine WL.val (Value.bool (decide ((((a).length : Nat) : Int) < ((a).length : Int)))) _ (op_lss rfl rfl) rfl ?_
        have hl146 : ¬ (((a).length : Nat) : Int) < ((a).length : Int) := by omega
        refine WL.nil ?_
        show W _ _ _ _ _ _
        refine W.condF (decide ((((a).length : Nat) : Int) < ((a).length : Int))) rfl (decide_eq_false hl146) ?_
        refine W.exit ?_
        show _ = _ ∧ _
        exact ⟨rfl, _, hs137, hS144⟩
    · rintro f147 wd148 ⟨s150, rfl, hq149⟩
      replace h := onRes_fin h
      obtain ⟨⟩ := s150
      replace hq149 : St w wd148 [] := hq149
      have hS151 := hq149
      show W _ _ _ _ _ _
      refine W.seq (W.region ?_)
      refine WL.val (Value.bool true) _ (op_assign rfl) rfl ?_
      refine WL.nil ?_
      show W _ _ _ _ _ _
      refine W.ret ?_
      obtain rfl := Option.some.inj h
      show FinP _ _ _ _ _ _ _
      exact FinP.ret _ (res1 rfl rfl) ⟨rfl, hS151.ext⟩

theorem c_laws_eqInt64SS {w : World} {a : (List (List Int))} {v_a : Value} {b : (List (List Int))} {v_b : Value} (r_a : (Ty.sl (Ty.sl (Ty.i .i64))).rep w v_a a) (r_b : (Ty.sl (Ty.sl (Ty.i .i64))).rep w v_b b) {res : Bool} (h : p_laws_eqInt64SS a b  = some res) :
    Ret Try.prog 12 #[v_a, v_b] w (fun v w' => v = Value.bool res ∧ Ext w w') := by
  unfold p_laws_eqInt64SS at h
  have hS0 : St w w [] := St.start w
  refine Ret.start (fn := Try.f12) Try.func12 rfl 27 rfl rfl ?_
  refine W.seq (W.region ?_)
  refine WL.val (Value.bool false) _ (op_assign rfl) rfl ?_
  refine WL.nil ?_
  show W _ _ _ _ _ _
  refine W.seq (W.seq (W.region ?_))
  refine WL.val v_a _ (op_move rfl) rfl ?_
  have hr1 := inR_len (Ty.lift _ hS0.ext r_a)
  refine WL.val (Value.int .i64 ((a).length : Int)) _ (op_lenL sl_27 (Ty.lift _ hS0.ext r_a) rfl) rfl ?_
  refine WL.val v_b _ (op_move rfl) rfl ?_
  have hr2 := inR_len (Ty.lift _ hS0.ext r_b)
  refine WL.val (Value.int .i64 ((b).length : Int)) _ (op_lenL sl_27 (Ty.lift _ hS0.ext r_b) rfl) rfl ?_
  refine WL.val (Value.bool (((a).length : Int) != ((b).length : Int))) _ (op_neq rfl rfl) rfl ?_
  refine WL.nil ?_
  show W _ _ _ _ _ _
  refine W.cond (((a).length : Int) != ((b).length : Int)) rfl (fun hc3 => ?_) (fun hc3 => ?_)
  · replace h := ip h hc3
    refine W.seq (W.region ?_)
    refine WL.val (Value.bool false) _ (op_assign rfl) rfl ?_
    refine WL.nil ?_
    show W _ _ _ _ _ _
    refine W.ret ?_
    obtain rfl := Option.some.inj h
    show FinP _ _ _ _ _ _ _
    exact FinP.ret _ (res1 rfl rfl) ⟨rfl, hS0.ext⟩
  · replace h := inegb h hc3
    refine W.skip ?_
    show W _ _ _ _ _ _
    refine W.seq (W.seq (W.region ?_))
    refine WL.val (Value.int .i64 (0 : Int)) _ (op_assign rfl) rfl ?_
    refine WL.nil ?_
    show W _ _ _ _ _ _
    obtain ⟨res5, hres6, h⟩ := bs h
    refine W.blockLoop (fun fq wq => ∃ s, res5 = Res.fin s ∧ St w wq []) ?_ ?_
    · refine W.forN (fun k (s : Unit) fq wq => fq 0 = v_a ∧ fq 1 = v_b ∧ fq 5 = Value.int .i64 (k : Int) ∧ InR .i64 (k : Int) ∧ St w wq []) hres6 ⟨rfl, rfl, rfl, (inR_i64.2 (show (-9223372036854775808 : Int) ≤ 0 ∧ (0 : Int) ≤ 9223372036854775807 from by decide)), hS0⟩ ?_ ?_
      · intro k7 s138 ct8 f9 wd10 hk11 hb12 hI13 hbrk14 hret15
        obtain ⟨⟩ := s138
        replace hI13 : f9 0 = v_a ∧ f9 1 = v_b ∧ f9 5 = Value.int .i64 (k7 : Int) ∧ InR .i64 (k7 : Int) ∧ St w wd10 [] := hI13
        replace hb12 : p_laws_eqInt64SS_L1 a b k7  = some ct8 := hb12
        unfold p_laws_eqInt64SS_L1 at hb12
        obtain ⟨hf16, hf17, hf18, hr19, hS20⟩ := hI13
        refine W.seq (W.seq (W.region ?_))
        refine WL.val (Value.int .i64 (k7 : Int)) _ (op_move hf18) rfl ?_
        refine WL.val v_a _ (op_move hf16) rfl ?_
        have hr21 := inR_len (Ty.lift _ hS20.ext r_a)
        refine WL.val (Value.int .i64 ((a).length : Int)) _ (op_lenL sl_27 (Ty.lift _ hS20.ext r_a) rfl) rfl ?_
        refine WL.val (Value.bool (decide ((k7 : Int) < ((a).length : Int)))) _ (op_lss rfl rfl) rfl ?_
        have hl22 : (k7 : Int) < ((a).length : Int) := by omega
        refine WL.nil ?_
        show W _ _ _ _ _ _
        refine W.condT (decide ((k7 : Int) < ((a).length : Int))) rfl (decide_eq_true hl22) ?_
        refine W.skip ?_
        show W _ _ _ _ _ _
        refine W.seq ?_
        refine W.block ?_
        refine W.seq ?_
        obtain ⟨x53, hx56, hb12⟩ := bs hb12
        obtain ⟨ha54, hb55, hx56⟩ := idx_some hx56
        obtain ⟨u67, hc68, hr69⟩ := repSl.el r_a hx56
        obtain ⟨x99, hx102, hb12⟩ := bs hb12
        obtain ⟨ha100, hb101, hx102⟩ := idx_some hx102
        obtain ⟨u113, hc114, hr115⟩ := repSl.el r_b hx102
        refine W.drawR mixo 8 [] [fun _ v _ _ => v = v_a, fun _ v _ _ => v = (Value.int .i64 (k7 : Int)) ∧ InR .i64 (k7 : Int), fun _ v _ _ => v = (Value.pointer (some (elA v_a ((k7 : Int)).toNat))), fun _ v _ _ => v = u67, fun _ v _ _ => v = v_b, fun _ v _ _ => v = (Value.int .i64 (k7 : Int)) ∧ InR .i64 (k7 : Int), fun _ v _ _ => v = (Value.pointer (some (elA v_b ((k7 : Int)).toNat))), fun _ v _ _ => v = u113] (by kernel_rfl) (by kernel_rfl) ⟨⟨fun _ _ _ _ _ _ h => h, fun _ _ _ _ _ _ h => h⟩, ⟨fun _ _ _ _ _ _ h => h, fun _ _ _ _ _ _ h => h⟩, ⟨fun _ _ _ _ _ _ h => h, fun _ _ _ _ _ _ h => h⟩, ⟨fun _ _ _ _ _ _ h => h, fun _ _ _ _ _ _ h => h⟩, ⟨fun _ _ _ _ _ _ h => h, fun _ _ _ _ _ _ h => h⟩, ⟨fun _ _ _ _ _ _ h => h, fun _ _ _ _ _ _ h => h⟩, ⟨fun _ _ _ _ _ _ h => h, fun _ _ _ _ _ _ h => h⟩, ⟨fun _ _ _ _ _ _ h => h, fun _ _ _ _ _ _ h => h⟩, trivial⟩ ⟨?_, ?_, ?_, ?_, ?_, ?_, ?_, ?_, trivial⟩ ?_
        · refine ObX.op rfl ?_
          intro f24 wd25 he26 hout27 hphi28
          have hS29 : St w wd25 [] := St.extend hS20 he26
          have e30 : f24 0 = v_a := (hout27 0 rfl).trans hf16
          exact OpX.val v_a wd25 rfl (op_move e30) (Ext.refl _) rfl
        · refine ObX.op rfl ?_
          intro f31 wd32 he33 hout34 hphi35
          have hS36 : St w wd32 [] := St.extend hS20 he33
          have e37 : f31 5 = (Value.int .i64 (k7 : Int)) := (hout34 5 rfl).trans hf18
          exact OpX.val (Value.int .i64 (k7 : Int)) wd32 rfl (op_move e37) (Ext.refl _) ⟨rfl, hr19⟩
        · refine ObX.op rfl ?_
          intro f38 wd39 he40 hout41 hphi42
          have hS43 : St w wd39 [] := St.extend hS20 he40
          obtain ⟨S44, hS45, hf46⟩ := hphi42 0 17 _ rfl rfl rfl
          have e47 : f38 17 = v_a := hf46
          obtain ⟨S48, hS49, hf50⟩ := hphi42 1 18 _ rfl rfl rfl
          obtain ⟨e51, hr52⟩ : f38 18 = (Value.int .i64 (k7 : Int)) ∧ InR .i64 (k7 : Int) := hf50
          exact OpX.val (Value.pointer (some (elA v_a ((k7 : Int)).toNat))) wd39 rfl (op_idx sl_27 (Ty.lift _ hS43.ext r_a) e47 e51 ha54 hb55) (Ext.refl _) rfl
        · refine ObX.op rfl ?_
          intro f57 wd58 he59 hout60 hphi61
          have hS62 : St w wd58 [] := St.extend hS20 he59
          obtain ⟨S63, hS64, hf65⟩ := hphi61 2 19 _ rfl rfl rfl
          have e66 : f57 19 = (Value.pointer (some (elA v_a ((k7 : Int)).toNat))) := hf65
          exact OpX.val u67 wd58 rfl (op_load one_22 e66 (Ext.cell hS62.ext hc68)) (Ext.refl _) rfl
        · refine ObX.op rfl ?_
          intro f70 wd71 he72 hout73 hphi74
          have hS75 : St w wd71 [] := St.extend hS20 he72
          have e76 : f70 1 = v_b := (hout73 1 rfl).trans hf17
          exact OpX.val v_b wd71 rfl (op_move e76) (Ext.refl _) rfl
        · refine ObX.op rfl ?_
          intro f77 wd78 he79 hout80 hphi81
          have hS82 : St w wd78 [] := St.extend hS20 he79
          have e83 : f77 5 = (Value.int .i64 (k7 : Int)) := (hout80 5 rfl).trans hf18
          exact OpX.val (Value.int .i64 (k7 : Int)) wd78 rfl (op_move e83) (Ext.refl _) ⟨rfl, hr19⟩
        · refine ObX.op rfl ?_
          intro f84 wd85 he86 hout87 hphi88
          have hS89 : St w wd85 [] := St.extend hS20 he86
          obtain ⟨S90, hS91, hf92⟩ := hphi88 4 21 _ rfl rfl rfl
          have e93 : f84 21 = v_b := hf92
          obtain ⟨S94, hS95, hf96⟩ := hphi88 5 22 _ rfl rfl rfl
          obtain ⟨e97, hr98⟩ : f84 22 = (Value.int .i64 (k7 : Int)) ∧ InR .i64 (k7 : Int) := hf96
          exact OpX.val (Value.pointer (some (elA v_b ((k7 : Int)).toNat))) wd85 rfl (op_idx sl_27 (Ty.lift _ hS89.ext r_b) e93 e97 ha100 hb101) (Ext.refl _) rfl
        · refine ObX.op rfl ?_
          intro f103 wd104 he105 hout106 hphi107
          have hS108 : St w wd104 [] := St.extend hS20 he105
          obtain ⟨S109, hS110, hf111⟩ := hphi107 6 23 _ rfl rfl rfl
          have e112 : f103 23 = (Value.pointer (some (elA v_b ((k7 : Int)).toNat))) := hf111
          exact OpX.val u113 wd104 rfl (op_load one_22 e112 (Ext.cell hS108.ext hc114)) (Ext.refl _) rfl
        · intro f116 wd117 Ss118 he119 hout120 hSn121 hSd122 hphi123
          show WL _ _ _ _ _ _ _
          have hS124 : St w wd117 [] := St.extend hS20 he119
          have e125 : f116 20 = u67 := hphi123 3 20 _ (by decide) rfl rfl
          have e126 : f116 24 = u113 := hphi123 7 24 _ (by decide) rfl rfl
          have e127 : f116 0 = v_a := (hout120 0 rfl).trans hf16
          have e128 : f116 1 = v_b := (hout120 1 rfl).trans hf17
          have e129 : f116 5 = (Value.int .i64 (k7 : Int)) := (hout120 5 rfl).trans hf18
          obtain ⟨x130, hx131, hb12⟩ := bs hb12
          refine WL.call _ (op_call fn_27 (args2 e125 e126)) (c_laws_eqInt64S (Ty.lift _ hS124.ext hr69) (Ty.lift _ hS124.ext hr115) hx131) rfl ?_
          rintro _ wd132 ⟨rfl, he133⟩
          have hS135 := St.extend hS124 he133
          replace hS135 : St w wd132 [] := hS135
          refine WL.val (Value.bool (!x130)) _ (op_not rfl) rfl ?_
          refine WL.nil ?_
          show W _ _ _ _ _ _
          refine W.cond (!x130) rfl (fun hc136 => ?_) (fun hc136 => ?_)
          · replace hb12 := ip hb12 hc136
            refine W.seq (W.region ?_)
            refine WL.val (Value.bool false) _ (op_assign rfl) rfl ?_
            refine WL.nil ?_
            show W _ _ _ _ _ _
            refine W.ret ?_
            obtain rfl := Option.some.inj hb12
            obtain rfl := hret15 _ rfl
            replace h := onRes_ret h
            obtain rfl := Option.some.inj h
            show FinP _ _ _ _ _ _ _
            exact FinP.ret _ (res1 rfl rfl) ⟨rfl, hS135.ext⟩
          · replace hb12 := inegb hb12 hc136
            refine W.skip ?_
            show W _ _ _ _ _ _
            refine W.region ?_
            refine WL.val (Value.int .i64 (k7 : Int)) _ (op_move e129) rfl ?_
            refine WL.val (Value.int .i64 (w64 ((k7 : Int) + (1 : Int)))) _ (op_add rfl rfl) rfl ?_
            refine WL.val (Value.int .i64 (w64 ((k7 : Int) + (1 : Int)))) _ (op_assign rfl) rfl ?_
            refine WL.nil ?_
            obtain rfl := Option.some.inj hb12
            show ∃ s, _ = Ctl.next s ∧ _
            exact ⟨_, rfl, e127, e128, (ctr_next hl22 hr21), (ctr_rng hl22 hr21), hS135⟩
      · intro s143 f139 wd140 hs141 hI142
        obtain ⟨⟩ := s143
        replace hI142 : f139 0 = v_a ∧ f139 1 = v_b ∧ f139 5 = Value.int .i64 (((a).length : Nat) : Int) ∧ InR .i64 (((a).length : Nat) : Int) ∧ St w wd140 [] := hI142
        obtain ⟨hf144, hf145, hf146, hr147, hS148⟩ := hI142
        refine W.seq (W.seq (W.region ?_))
        refine WL.val (Value.int .i64 (((a).length : Nat) : Int)) _ (op_move hf146) rfl ?_
        refine WL.val v_a _ (op_move hf144) rfl ?_
        have hr149 := inR_len (Ty.lift _ hS148.ext r_a)
        refine WL.val (Value.int .i64 ((a).length : Int)) _ (op_lenL sl_27 (Ty.lift _ hS148.ext r_a) rfl) rfl ?_
        refine WL.val (Value.bool (decide ((((a).length : Nat) : Int) < ((a).length : Int)))) _ (op_lss rfl rfl) rfl ?_
        have hl150 : ¬ (((a).length : Nat) : Int) < ((a).length : Int) := by omega
        refine WL.nil ?_
        show W _ _ _ _ _ _
        refine W.condF (decide ((((a).length : Nat) : Int) < ((a).length : Int))) rfl (decide_eq_false hl150) ?_
        refine W.exit ?_
        show _ = _ ∧ _
        exact ⟨rfl, _, hs141, hS148⟩
    · rintro f151 wd152 ⟨s154, rfl, hq153⟩
      replace h := onRes_fin h
      obtain ⟨⟩ := s154
      replace hq153 : St w wd152 [] := hq153
      have hS155 := hq153
      show W _ _ _ _ _ _
      refine W.seq (W.region ?_)
      refine WL.val (Value.bool true) _ (op_assign rfl) rfl ?_
      refine WL.nil ?_
      show W _ _ _ _ _ _
      refine W.ret ?_
      obtain rfl := Option.some.inj h
      show FinP _ _ _ _ _ _ _
      exact FinP.ret _ (res1 rfl rfl) ⟨rfl, hS155.ext⟩

theorem c_laws_eqInt64SSS {w : World} {a : (List (List (List Int)))} {v_a : Value} {b : (List (List (List Int)))} {v_b : Value} (r_a : (Ty.sl (Ty.sl (Ty.sl (Ty.i .i64)))).rep w v_a a) (r_b : (Ty.sl (Ty.sl (Ty.sl (Ty.i .i64)))).rep w v_b b) {res : Bool} (h : p_laws_eqInt64SSS a b  = some res) :
    Ret Try.prog 44 #[v_a, v_b] w (fun v w' => v = Value.bool res ∧ Ext w w') := by
  unfold p_laws_eqInt64SSS at h
  have hS0 : St w w [] := St.start w
  refine Ret.start (fn := Try.f44) Try.func44 rfl 27 rfl rfl ?_
  refine W.seq (W.region ?_)
  refine WL.val (Value.bool false) _ (op_assign rfl) rfl ?_
  refine WL.nil ?_
  show W _ _ _ _ _ _
  refine W.seq (W.seq (W.region ?_))
  refine WL.val v_a _ (op_move rfl) rfl ?_
  have hr1 := inR_len (Ty.lift _ hS0.ext r_a)
  refine WL.val (Value.int .i64 ((a).length : Int)) _ (op_lenL sl_23 (Ty.lift _ hS0.ext r_a) rfl) rfl ?_
  refine WL.val v_b _ (op_move rfl) rfl ?_
  have hr2 := inR_len (Ty.lift _ hS0.ext r_b)
  refine WL.val (Value.int .i64 ((b).length : Int)) _ (op_lenL sl_23 (Ty.lift _ hS0.ext r_b) rfl) rfl ?_
  refine WL.val (Value.bool (((a).length : Int) != ((b).length : Int))) _ (op_neq rfl rfl) rfl ?_
  refine WL.nil ?_
  show W _ _ _ _ _ _
  refine W.cond (((a).length : Int) != ((b).length : Int)) rfl (fun hc3 => ?_) (fun hc3 => ?_)
  · replace h := ip h hc3
    refine W.seq (W.region ?_)
    refine WL.val (Value.bool false) _ (op_assign rfl) rfl ?_
    refine WL.nil ?_
    show W _ _ _ _ _ _
    refine W.ret ?_
    obtain rfl := Option.some.inj h
    show FinP _ _ _ _ _ _ _
    exact FinP.ret _ (res1 rfl rfl) ⟨rfl, hS0.ext⟩
  · replace h := inegb h hc3
    refine W.skip ?_
    show W _ _ _ _ _ _
    refine W.seq (W.seq (W.region ?_))
    refine WL.val (Value.int .i64 (0 : Int)) _ (op_assign rfl) rfl ?_
    refine WL.nil ?_
    show W _ _ _ _ _ _
    obtain ⟨res5, hres6, h⟩ := bs h
    refine W.blockLoop (fun fq wq => ∃ s, res5 = Res.fin s ∧ St w wq []) ?_ ?_
    · refine W.forN (fun k (s : Unit) fq wq => fq 0 = v_a ∧ fq 1 = v_b ∧ fq 5 = Value.int .i64 (k : Int) ∧ InR .i64 (k : Int) ∧ St w wq []) hres6 ⟨rfl, rfl, rfl, (inR_i64.2 (show (-9223372036854775808 : Int) ≤ 0 ∧ (0 : Int) ≤ 9223372036854775807 from by decide)), hS0⟩ ?_ ?_
      · intro k7 s138 ct8 f9 wd10 hk11 hb12 hI13 hbrk14 hret15
        obtain ⟨⟩ := s138
        replace hI13 : f9 0 = v_a ∧ f9 1 = v_b ∧ f9 5 = Value.int .i64 (k7 : Int) ∧ InR .i64 (k7 : Int) ∧ St w wd10 [] := hI13
        replace hb12 : p_laws_eqInt64SSS_L1 a b k7  = some ct8 := hb12
        unfold p_laws_eqInt64SSS_L1 at hb12
        obtain ⟨hf16, hf17, hf18, hr19, hS20⟩ := hI13
        refine W.seq (W.seq (W.region ?_))
        refine WL.val (Value.int .i64 (k7 : Int)) _ (op_move hf18) rfl ?_
        refine WL.val v_a _ (op_move hf16) rfl ?_
        have hr21 := inR_len (Ty.lift _ hS20.ext r_a)
        refine WL.val (Value.int .i64 ((a).length : Int)) _ (op_lenL sl_23 (Ty.lift _ hS20.ext r_a) rfl) rfl ?_
        refine WL.val (Value.bool (decide ((k7 : Int) < ((a).length : Int)))) _ (op_lss rfl rfl) rfl ?_
        have hl22 : (k7 : Int) < ((a).length : Int) := by omega
        refine WL.nil ?_
        show W _ _ _ _ _ _
        refine W.condT (decide ((k7 : Int) < ((a).length : Int))) rfl (decide_eq_true hl22) ?_
        refine W.skip ?_
        show W _ _ _ _ _ _
        refine W.seq ?_
        refine W.block ?_
        refine W.seq ?_
        obtain ⟨x53, hx56, hb12⟩ := bs hb12
        obtain ⟨ha54, hb55, hx56⟩ := idx_some hx56
        obtain ⟨u67, hc68, hr69⟩ := repSl.el r_a hx56
        obtain ⟨x99, hx102, hb12⟩ := bs hb12
        obtain ⟨ha100, hb101, hx102⟩ := idx_some hx102
        obtain ⟨u113, hc114, hr115⟩ := repSl.el r_b hx102
        refine W.drawR mixo 8 [] [fun _ v _ _ => v = v_a, fun _ v _ _ => v = (Value.int .i64 (k7 : Int)) ∧ InR .i64 (k7 : Int), fun _ v _ _ => v = (Value.pointer (some (elA v_a ((k7 : Int)).toNat))), fun _ v _ _ => v = u67, fun _ v _ _ => v = v_b, fun _ v _ _ => v = (Value.int .i64 (k7 : Int)) ∧ InR .i64 (k7 : Int), fun _ v _ _ => v = (Value.pointer (some (elA v_b ((k7 : Int)).toNat))), fun _ v _ _ => v = u113] (by kernel_rfl) (by kernel_rfl) ⟨⟨fun _ _ _ _ _ _ h => h, fun _ _ _ _ _ _ h => h⟩, ⟨fun _ _ _ _ _ _ h => h, fun _ _ _ _ _ _ h => h⟩, ⟨fun _ _ _ _ _ _ h => h, fun _ _ _ _ _ _ h => h⟩, ⟨fun _ _ _ _ _ _ h => h, fun _ _ _ _ _ _ h => h⟩, ⟨fun _ _ _ _ _ _ h => h, fun _ _ _ _ _ _ h => h⟩, ⟨fun _ _ _ _ _ _ h => h, fun _ _ _ _ _ _ h => h⟩, ⟨fun _ _ _ _ _ _ h => h, fun _ _ _ _ _ _ h => h⟩, ⟨fun _ _ _ _ _ _ h => h, fun _ _ _ _ _ _ h => h⟩, trivial⟩ ⟨?_, ?_, ?_, ?_, ?_, ?_, ?_, ?_, trivial⟩ ?_
        · refine ObX.op rfl ?_
          intro f24 wd25 he26 hout27 hphi28
          have hS29 : St w wd25 [] := St.extend hS20 he26
          have e30 : f24 0 = v_a := (hout27 0 rfl).trans hf16
          exact OpX.val v_a wd25 rfl (op_move e30) (Ext.refl _) rfl
        · refine ObX.op rfl ?_
          intro f31 wd32 he33 hout34 hphi35
          have hS36 : St w wd32 [] := St.extend hS20 he33
          have e37 : f31 5 = (Value.int .i64 (k7 : Int)) := (hout34 5 rfl).trans hf18
          exact OpX.val (Value.int .i64 (k7 : Int)) wd32 rfl (op_move e37) (Ext.refl _) ⟨rfl, hr19⟩
        · refine ObX.op rfl ?_
          intro f38 wd39 he40 hout41 hphi42
          have hS43 : St w wd39 [] := St.extend hS20 he40
          obtain ⟨S44, hS45, hf46⟩ := hphi42 0 17 _ rfl rfl rfl
          have e47 : f38 17 = v_a := hf46
          obtain ⟨S48, hS49, hf50⟩ := hphi42 1 18 _ rfl rfl rfl
          obtain ⟨e51, hr52⟩ : f38 18 = (Value.int .i64 (k7 : Int)) ∧ InR .i64 (k7 : Int) := hf50
          exact OpX.val (Value.pointer (some (elA v_a ((k7 : Int)).toNat))) wd39 rfl (op_idx sl_23 (Ty.lift _ hS43.ext r_a) e47 e51 ha54 hb55) (Ext.refl _) rfl
        · refine ObX.op rfl ?_
          intro f57 wd58 he59 hout60 hphi61
          have hS62 : St w wd58 [] := St.extend hS20 he59
          obtain ⟨S63, hS64, hf65⟩ := hphi61 2 19 _ rfl rfl rfl
          have e66 : f57 19 = (Value.pointer (some (elA v_a ((k7 : Int)).toNat))) := hf65
          exact OpX.val u67 wd58 rfl (op_load one_27 e66 (Ext.cell hS62.ext hc68)) (Ext.refl _) rfl
        · refine ObX.op rfl ?_
          intro f70 wd71 he72 hout73 hphi74
          have hS75 : St w wd71 [] := St.extend hS20 he72
          have e76 : f70 1 = v_b := (hout73 1 rfl).trans hf17
          exact OpX.val v_b wd71 rfl (op_move e76) (Ext.refl _) rfl
        · refine ObX.op rfl ?_
          intro f77 wd78 he79 hout80 hphi81
          have hS82 : St w wd78 [] := St.extend hS20 he79
          have e83 : f77 5 = (Value.int .i64 (k7 : Int)) := (hout80 5 rfl).trans hf18
          exact OpX.val (Value.int .i64 (k7 : Int)) wd78 rfl (op_move e83) (Ext.refl _) ⟨rfl, hr19⟩
        · refine ObX.op rfl ?_
          intro f84 wd85 he86 hout87 hphi88
          have hS89 : St w wd85 [] := St.extend hS20 he86
          obtain ⟨S90, hS91, hf92⟩ := hphi88 4 21 _ rfl rfl rfl
          have e93 : f84 21 = v_b := hf92
          obtain ⟨S94, hS95, hf96⟩ := hphi88 5 22 _ rfl rfl rfl
          obtain ⟨e97, hr98⟩ : f84 22 = (Value.int .i64 (k7 : Int)) ∧ InR .i64 (k7 : Int) := hf96
          exact OpX.val (Value.pointer (some (elA v_b ((k7 : Int)).toNat))) wd85 rfl (op_idx sl_23 (Ty.lift _ hS89.ext r_b) e93 e97 ha100 hb101) (Ext.refl _) rfl
        · refine ObX.op rfl ?_
          intro f103 wd104 he105 hout106 hphi107
          have hS108 : St w wd104 [] := St.extend hS20 he105
          obtain ⟨S109, hS110, hf111⟩ := hphi107 6 23 _ rfl rfl rfl
          have e112 : f103 23 = (Value.pointer (some (elA v_b ((k7 : Int)).toNat))) := hf111
          exact OpX.val u113 wd104 rfl (op_load one_27 e112 (Ext.cell hS108.ext hc114)) (Ext.refl _) rfl
        · intro f116 wd117 Ss118 he119 hout120 hSn121 hSd122 hphi123
          show WL _ _ _ _ _ _ _
          have hS124 : St w wd117 [] := St.extend hS20 he119
          have e125 : f116 20 = u67 := hphi123 3 20 _ (by decide) rfl rfl
          have e126 : f116 24 = u113 := hphi123 7 24 _ (by decide) rfl rfl
          have e127 : f116 0 = v_a := (hout120 0 rfl).trans hf16
          have e128 : f116 1 = v_b := (hout120 1 rfl).trans hf17
          have e129 : f116 5 = (Value.int .i64 (k7 : Int)) := (hout120 5 rfl).trans hf18
          obtain ⟨x130, hx131, hb12⟩ := bs hb12
          refine WL.call _ (op_call fn_12 (args2 e125 e126)) (c_laws_eqInt64SS (Ty.lift _ hS124.ext hr69) (Ty.lift _ hS124.ext hr115) hx131) rfl ?_
          rintro _ wd132 ⟨rfl, he133⟩
          have hS135 := St.extend hS124 he133
          replace hS135 : St w wd132 [] := hS135
          refine WL.val (Value.bool (!x130)) _ (op_not rfl) rfl ?_
          refine WL.nil ?_
          show W _ _ _ _ _ _
          refine W.cond (!x130) rfl (fun hc136 => ?_) (fun hc136 => ?_)
          · replace hb12 := ip hb12 hc136
            refine W.seq (W.region ?_)
            refine WL.val (Value.bool false) _ (op_assign rfl) rfl ?_
            refine WL.nil ?_
            show W _ _ _ _ _ _
            refine W.ret ?_
            obtain rfl := Option.some.inj hb12
            obtain rfl := hret15 _ rfl
            replace h := onRes_ret h
            obtain rfl := Option.some.inj h
            show FinP _ _ _ _ _ _ _
            exact FinP.ret _ (res1 rfl rfl) ⟨rfl, hS135.ext⟩
          · replace hb12 := inegb hb12 hc136
            refine W.skip ?_
            show W _ _ _ _ _ _
            refine W.region ?_
            refine WL.val (Value.int .i64 (k7 : Int)) _ (op_move e129) rfl ?_
            refine WL.val (Value.int .i64 (w64 ((k7 : Int) + (1 : Int)))) _ (op_add rfl rfl) rfl ?_
            refine WL.val (Value.int .i64 (w64 ((k7 : Int) + (1 : Int)))) _ (op_assign rfl) rfl ?_
            refine WL.nil ?_
            obtain rfl := Option.some.inj hb12
            show ∃ s, _ = Ctl.next s ∧ _
            exact ⟨_, rfl, e127, e128, (ctr_next hl22 hr21), (ctr_rng hl22 hr21), hS135⟩
      · intro s143 f139 wd140 hs141 hI142
        obtain ⟨⟩ := s143
        replace hI142 : f139 0 = v_a ∧ f139 1 = v_b ∧ f139 5 = Value.int .i64 (((a).length : Nat) : Int) ∧ InR .i64 (((a).length : Nat) : Int) ∧ St w wd140 [] := hI142
        obtain ⟨hf144, hf145, hf146, hr147, hS148⟩ := hI142
        refine W.seq (W.seq (W.region ?_))
        refine WL.val (Value.int .i64 (((a).length : Nat) : Int)) _ (op_move hf146) rfl ?_
        refine WL.val v_a _ (op_move hf144) rfl ?_
        have hr149 := inR_len (Ty.lift _ hS148.ext r_a)
        refine WL.val (Value.int .i64 ((a).length : Int)) _ (op_lenL sl_23 (Ty.lift _ hS148.ext r_a) rfl) rfl ?_
        refine WL.val (Value.bool (decide ((((a).length : Nat) : Int) < ((a).length : Int)))) _ (op_lss rfl rfl) rfl ?_
        have hl150 : ¬ (((a).length : Nat) : Int) < ((a).length : Int) := by omega
        refine WL.nil ?_
        show W _ _ _ _ _ _
        refine W.condF (decide ((((a).length : Nat) : Int) < ((a).length : Int))) rfl (decide_eq_false hl150) ?_
        refine W.exit ?_
        show _ = _ ∧ _
        exact ⟨rfl, _, hs141, hS148⟩
    · rintro f151 wd152 ⟨s154, rfl, hq153⟩
      replace h := onRes_fin h
      obtain ⟨⟩ := s154
      replace hq153 : St w wd152 [] := hq153
      have hS155 := hq153
      show W _ _ _ _ _ _
      refine W.seq (W.region ?_)
      refine WL.val (Value.bool true) _ (op_assign rfl) rfl ?_
      refine WL.nil ?_
      show W _ _ _ _ _ _
      refine W.ret ?_
      obtain rfl := Option.some.inj h
      show FinP _ _ _ _ _ _ _
      exact FinP.ret _ (res1 rfl rfl) ⟨rfl, hS155.ext⟩

theorem c_laws_eqCocycle {w : World} {a_Orders : (List Int)} {v_a_Orders : Value} {a_Modulus : Int} {a_Values : (List (List (List Int)))} {v_a_Values : Value} {b_Orders : (List Int)} {v_b_Orders : Value} {b_Modulus : Int} {b_Values : (List (List (List Int)))} {v_b_Values : Value} (r_a_Orders : (Ty.sl (Ty.i .i64)).rep w v_a_Orders a_Orders) (r_a_Modulus : InR .i64 a_Modulus) (r_a_Values : (Ty.sl (Ty.sl (Ty.sl (Ty.i .i64)))).rep w v_a_Values a_Values) (r_b_Orders : (Ty.sl (Ty.i .i64)).rep w v_b_Orders b_Orders) (r_b_Modulus : InR .i64 b_Modulus) (r_b_Values : (Ty.sl (Ty.sl (Ty.sl (Ty.i .i64)))).rep w v_b_Values b_Values) {res : Bool} (h : p_laws_eqCocycle a_Orders a_Modulus a_Values b_Orders b_Modulus b_Values  = some res) :
    Ret Try.prog 13 #[(Value.agg #[v_a_Orders, (Value.int .i64 a_Modulus), v_a_Values]), (Value.agg #[v_b_Orders, (Value.int .i64 b_Modulus), v_b_Values])] w (fun v w' => v = Value.bool res ∧ Ext w w') := by
  unfold p_laws_eqCocycle at h
  have hS0 : St w w [] := St.start w
  refine Ret.start (fn := Try.f13) Try.func13 rfl 22 rfl rfl ?_
  refine W.seq (W.region ?_)
  refine WL.box hS0 rfl (cs := [v_a_Orders, (Value.int .i64 a_Modulus), v_a_Values]) rfl rfl ?_
  intro b1 wd2 hS3 he4 hx5
  replace hS3 : St w wd2 [bx b1 [v_a_Orders, (Value.int .i64 a_Modulus), v_a_Values]] := hS3
  have hx6 := St.boxAt hS3 0 rfl
  have hE7 : Ext w wd2 := hS3.ext
  have hS8 : St wd2 wd2 [] := St.start wd2
  refine WL.box hS8 rfl (cs := [v_b_Orders, (Value.int .i64 b_Modulus), v_b_Values]) rfl rfl ?_
  intro b9 wd10 hS11 he12 hx13
  replace hS11 : St wd2 wd10 [bx b9 [v_b_Orders, (Value.int .i64 b_Modulus), v_b_Values]] := hS11
  have hx14 := St.boxAt hS11 0 rfl
  have hE15 : Ext w wd10 := (Ext.trans hE7 hS11.ext)
  have hE16 : Ext wd2 wd10 := hS11.ext
  have hS17 : St wd10 wd10 [] := St.start wd10
  refine WL.val (Value.bool false) _ (op_assign rfl) rfl ?_
  refine WL.nil ?_
  show W _ _ _ _ _ _
  refine W.seq (W.seq (W.region ?_))
  refine WL.val (Value.pointer (some ⟨b1, 0, none⟩)) _ (op_fieldAddr fd_30_0 rfl) rfl ?_
  refine WL.val v_a_Orders _ (op_load one_22 rfl (BoxAt.cell (BoxAt.lift (Ext.trans hE16 hS17.ext) hx6) rfl)) rfl ?_
  refine WL.val (Value.pointer (some ⟨b9, 0, none⟩)) _ (op_fieldAddr fd_30_0 rfl) rfl ?_
  refine WL.val v_b_Orders _ (op_load one_22 rfl (BoxAt.cell (BoxAt.lift hS17.ext hx14) rfl)) rfl ?_
  obtain ⟨x18, hx19, h⟩ := bs h
  refine WL.call _ (op_call fn_27 (args2 rfl rfl)) (c_laws_eqInt64S (Ty.lift _ (Ext.trans hE15 hS17.ext) r_a_Orders) (Ty.lift _ (Ext.trans hE15 hS17.ext) r_b_Orders) hx19) rfl ?_
  rintro _ wd20 ⟨rfl, he21⟩
  have hS23 := St.extend hS17 he21
  replace hS23 : St wd10 wd20 [] := hS23
  refine WL.val (Value.bool (!x18)) _ (op_not rfl) rfl ?_
  refine WL.nil ?_
  show W _ _ _ _ _ _
  refine W.cond (!x18) rfl (fun hc24 => ?_) (fun hc24 => ?_)
  · replace h := ip h hc24
    refine W.seq (W.region ?_)
    refine WL.val (Value.bool false) _ (op_assign rfl) rfl ?_
    refine WL.nil ?_
    show W _ _ _ _ _ _
    refine W.ret ?_
    obtain rfl := Option.some.inj h
    show FinP _ _ _ _ _ _ _
    exact FinP.ret _ (res1 rfl rfl) ⟨rfl, (Ext.trans hE15 hS23.ext)⟩
  · replace h := inegb h hc24
    refine W.skip ?_
    show W _ _ _ _ _ _
    refine W.seq (W.seq (W.region ?_))
    refine WL.val (Value.pointer (some ⟨b1, 1, none⟩)) _ (op_fieldAddr fd_30_1 rfl) rfl ?_
    refine WL.val (Value.int .i64 a_Modulus) _ (op_load one_2 rfl (BoxAt.cell (BoxAt.lift (Ext.trans hE16 hS23.ext) hx6) rfl)) rfl ?_
    refine WL.val (Value.pointer (some ⟨b9, 1, none⟩)) _ (op_fieldAddr fd_30_1 rfl) rfl ?_
    refine WL.val (Value.int .i64 b_Modulus) _ (op_load one_2 rfl (BoxAt.cell (BoxAt.lift hS23.ext hx14) rfl)) rfl ?_
    refine WL.val (Value.bool (a_Modulus != b_Modulus)) _ (op_neq rfl rfl) rfl ?_
    refine WL.nil ?_
    show W _ _ _ _ _ _
    refine W.cond (a_Modulus != b_Modulus) rfl (fun hc26 => ?_) (fun hc26 => ?_)
    · replace h := ip h hc26
      refine W.seq (W.region ?_)
      refine WL.val (Value.bool false) _ (op_assign rfl) rfl ?_
      refine WL.nil ?_
      show W _ _ _ _ _ _
      refine W.ret ?_
      obtain rfl := Option.some.inj h
      show FinP _ _ _ _ _ _ _
      exact FinP.ret _ (res1 rfl rfl) ⟨rfl, (Ext.trans hE15 hS23.ext)⟩
    · replace h := inegb h hc26
      refine W.skip ?_
      show W _ _ _ _ _ _
      refine W.seq (W.seq (W.region ?_))
      refine WL.val (Value.pointer (some ⟨b1, 2, none⟩)) _ (op_fieldAddr fd_30_2 rfl) rfl ?_
      refine WL.val v_a_Values _ (op_load one_23 rfl (BoxAt.cell (BoxAt.lift (Ext.trans hE16 hS23.ext) hx6) rfl)) rfl ?_
      refine WL.val (Value.pointer (some ⟨b9, 2, none⟩)) _ (op_fieldAddr fd_30_2 rfl) rfl ?_
      refine WL.val v_b_Values _ (op_load one_23 rfl (BoxAt.cell (BoxAt.lift hS23.ext hx14) rfl)) rfl ?_
      obtain ⟨x28, hx29, h⟩ := bs h
      refine WL.call _ (op_call fn_44 (args2 rfl rfl)) (c_laws_eqInt64SSS (Ty.lift _ (Ext.trans hE15 hS23.ext) r_a_Values) (Ty.lift _ (Ext.trans hE15 hS23.ext) r_b_Values) hx29) rfl ?_
      rintro _ wd30 ⟨rfl, he31⟩
      have hS33 := St.extend hS23 he31
      replace hS33 : St wd10 wd30 [] := hS33
      refine WL.val (Value.bool (!x28)) _ (op_not rfl) rfl ?_
      refine WL.nil ?_
      show W _ _ _ _ _ _
      refine W.cond (!x28) rfl (fun hc34 => ?_) (fun hc34 => ?_)
      · replace h := ip h hc34
        refine W.seq (W.region ?_)
        refine WL.val (Value.bool false) _ (op_assign rfl) rfl ?_
        refine WL.nil ?_
        show W _ _ _ _ _ _
        refine W.ret ?_
        obtain rfl := Option.some.inj h
        show FinP _ _ _ _ _ _ _
        exact FinP.ret _ (res1 rfl rfl) ⟨rfl, (Ext.trans hE15 hS33.ext)⟩
      · replace h := inegb h hc34
        refine W.skip ?_
        show W _ _ _ _ _ _
        refine W.seq (W.region ?_)
        refine WL.val (Value.bool true) _ (op_assign rfl) rfl ?_
        refine WL.nil ?_
        show W _ _ _ _ _ _
        refine W.ret ?_
        obtain rfl := Option.some.inj h
        show FinP _ _ _ _ _ _ _
        exact FinP.ret _ (res1 rfl rfl) ⟨rfl, (Ext.trans hE15 hS33.ext)⟩

theorem c_laws_markInt64S {w : World} {a : (List Int)} {v_a : Value} {k1 : Int} {w0 : World} {R : Ent} (hS0 : St w0 w [(Ty.sl (Ty.i .i64)).at v_a a, R]) (r_k1 : InR .i64 k1) {res : Int × (List Int)} (h : p_laws_markInt64S a k1  = some res) :
    Ret Try.prog 28 #[v_a, (Value.int .i64 k1)] w (fun v w' => v = Value.int .i64 res.1 ∧ InR .i64 res.1 ∧ St w0 w' [(Ty.sl (Ty.i .i64)).at v_a res.2, R]) := by
  unfold p_laws_markInt64S at h
  refine Ret.start (fn := Try.f28) Try.func28 rfl 19 rfl rfl ?_
  refine W.seq (W.region ?_)
  refine WL.val (Value.int .i64 (0 : Int)) _ (op_assign rfl) rfl ?_
  refine WL.nil ?_
  show W _ _ _ _ _ _
  refine W.seq (W.seq (W.region ?_))
  refine WL.val (Value.int .i64 (0 : Int)) _ (op_assign rfl) rfl ?_
  refine WL.nil ?_
  show W _ _ _ _ _ _
  obtain ⟨res1, hres2, h⟩ := bs h
  refine W.blockLoop (fun fq wq => ∃ s, res1 = Res.fin s ∧ fq 1 = Value.int .i64 s.2 ∧ InR .i64 s.2 ∧ (s.1).length = (a).length ∧ St w0 wq [(Ty.sl (Ty.i .i64)).at v_a s.1, R]) ?_ ?_
  · refine W.forN (fun k (s : (List Int) × Int) fq wq => fq 0 = v_a ∧ fq 1 = Value.int .i64 s.2 ∧ InR .i64 s.2 ∧ fq 5 = Value.int .i64 (k : Int) ∧ InR .i64 (k : Int) ∧ (s.1).length = (a).length ∧ St w0 wq [(Ty.sl (Ty.i .i64)).at v_a s.1, R]) hres2 ⟨rfl, rfl, r_k1, rfl, (inR_i64.2 (show (-9223372036854775808 : Int) ≤ 0 ∧ (0 : Int) ≤ 9223372036854775807 from by decide)), rfl, hS0⟩ ?_ ?_
    · intro k3 s30 ct6 f7 wd8 hk9 hb10 hI11 hbrk12 hret13
      obtain ⟨x4, x5⟩ := s30
      replace hI11 : f7 0 = v_a ∧ f7 1 = Value.int .i64 x5 ∧ InR .i64 x5 ∧ f7 5 = Value.int .i64 (k3 : Int) ∧ InR .i64 (k3 : Int) ∧ (x4).length = (a).length ∧ St w0 wd8 [(Ty.sl (Ty.i .i64)).at v_a x4, R] := hI11
      replace hb10 : p_laws_markInt64S_L1  k3 x4 x5 = some ct6 := hb10
      unfold p_laws_markInt64S_L1 at hb10
      obtain ⟨hf14, hf15, hr16, hf17, hr18, hL19, hS20⟩ := hI11
      refine W.seq (W.seq (W.region ?_))
      refine WL.val (Value.int .i64 (k3 : Int)) _ (op_move hf17) rfl ?_
      refine WL.val v_a _ (op_move hf14) rfl ?_
      have hr21 := inR_len (St.rep (t := (Ty.sl (Ty.i .i64))) hS20 0 rfl)
      refine WL.val (Value.int .i64 ((x4).length : Int)) _ (op_lenL sl_22 (St.rep (t := (Ty.sl (Ty.i .i64))) hS20 0 rfl) rfl) rfl ?_
      refine WL.val (Value.bool (decide ((k3 : Int) < ((x4).length : Int)))) _ (op_lss rfl rfl) rfl ?_
      have hl22 : (k3 : Int) < ((x4).length : Int) := by omega
      refine WL.nil ?_
      show W _ _ _ _ _ _
      refine W.condT (decide ((k3 : Int) < ((x4).length : Int))) rfl (decide_eq_true hl22) ?_
      refine W.skip ?_
      show W _ _ _ _ _ _
      refine W.seq ?_
      refine W.block ?_
      refine W.seq (W.region ?_)
      refine WL.val v_a _ (op_move hf14) rfl ?_
      refine WL.val (Value.int .i64 (k3 : Int)) _ (op_move hf17) rfl ?_
      refine WL.val (Value.int .i64 x5) _ (op_move hf15) rfl ?_
      obtain ⟨x24, hx27, hb10⟩ := bs hb10
      obtain ⟨ha25, hb26, hx27⟩ := idx_some hx27
      refine WL.val (Value.pointer (some (elA v_a ((k3 : Int)).toNat))) _ (op_idx sl_22 (St.rep (t := (Ty.sl (Ty.i .i64))) hS20 0 rfl) rfl rfl ha25 hb26) rfl ?_
      refine WL.storeEl (flat_i .i64) hS20 (k := 0) rfl sz_2 rfl rfl (lt_of_idx ha25 hb26) ⟨rfl, hr16⟩ ?_
      intro wd28 hS29
      replace hS29 : St w0 wd28 [(Ty.sl (Ty.i .i64)).at v_a ((x4).set ((k3 : Int)).toNat x5), R] := hS29
      refine WL.nil ?_
      show W _ _ _ _ _ _
      refine W.region ?_
      refine WL.val (Value.int .i64 x5) _ (op_move hf15) rfl ?_
      refine WL.val (Value.int .i64 (w64 (x5 + (1 : Int)))) _ (op_add rfl rfl) rfl ?_
      refine WL.val (Value.int .i64 (w64 (x5 + (1 : Int)))) _ (op_assign rfl) rfl ?_
      refine WL.nil ?_
      show W _ _ _ _ _ _
      refine W.region ?_
      refine WL.val (Value.int .i64 (k3 : Int)) _ (op_move hf17) rfl ?_
      refine WL.val (Value.int .i64 (w64 ((k3 : Int) + (1 : Int)))) _ (op_add rfl rfl) rfl ?_
      refine WL.val (Value.int .i64 (w64 ((k3 : Int) + (1 : Int)))) _ (op_assign rfl) rfl ?_
      refine WL.nil ?_
      obtain rfl := Option.some.inj hb10
      show ∃ s, _ = Ctl.next s ∧ _
      exact ⟨_, rfl, hf14, rfl, (inR_wrap _ _), (ctr_next hl22 hr21), (ctr_rng hl22 hr21), (by first | exact hL19 | (simp only [List.length_set]; exact hL19)), hS29⟩
    · intro s35 f31 wd32 hs33 hI34
      obtain ⟨x36, x37⟩ := s35
      replace hI34 : f31 0 = v_a ∧ f31 1 = Value.int .i64 x37 ∧ InR .i64 x37 ∧ f31 5 = Value.int .i64 (((a).length : Nat) : Int) ∧ InR .i64 (((a).length : Nat) : Int) ∧ (x36).length = (a).length ∧ St w0 wd32 [(Ty.sl (Ty.i .i64)).at v_a x36, R] := hI34
      obtain ⟨hf38, hf39, hr40, hf41, hr42, hL43, hS44⟩ := hI34
      refine W.seq (W.seq (W.region ?_))
      refine WL.val (Value.int .i64 (((a).length : Nat) : Int)) _ (op_move hf41) rfl ?_
      refine WL.val v_a _ (op_move hf38) rfl ?_
      have hr45 := inR_len (St.rep (t := (Ty.sl (Ty.i .i64))) hS44 0 rfl)
      refine WL.val (Value.int .i64 ((x36).length : Int)) _ (op_lenL sl_22 (St.rep (t := (Ty.sl (Ty.i .i64))) hS44 0 rfl) rfl) rfl ?_
      refine WL.val (Value.bool (decide ((((a).length : Nat) : Int) < ((x36).length : Int)))) _ (op_lss rfl rfl) rfl ?_
      have hl46 : ¬ (((a).length : Nat) : Int) < ((x36).length : Int) := by omega
      refine WL.nil ?_
      show W _ _ _ _ _ _
      refine W.condF (decide ((((a).length : Nat) : Int) < ((x36).length : Int))) rfl (decide_eq_false hl46) ?_
      refine W.exit ?_
      show _ = _ ∧ _
      exact ⟨rfl, _, hs33, hf39, hr40, (by first | exact hL43 | (simp only [List.length_set]; exact hL43)), hS44⟩
  · rintro f47 wd48 ⟨s50, rfl, hq49⟩
    replace h := onRes_fin h
    obtain ⟨x51, x52⟩ := s50
    replace hq49 : f47 1 = Value.int .i64 x52 ∧ InR .i64 x52 ∧ (x51).length = (a).length ∧ St w0 wd48 [(Ty.sl (Ty.i .i64)).at v_a x51, R] := hq49
    replace h : (_ : Option _) = _ := h
    dsimp only at h
    obtain ⟨hf53, hr54, hL55, hS56⟩ := hq49
    show W _ _ _ _ _ _
    refine W.seq (W.region ?_)
    refine WL.val (Value.int .i64 x52) _ (op_move hf53) rfl ?_
    refine WL.val (Value.int .i64 x52) _ (op_assign rfl) rfl ?_
    refine WL.nil ?_
    show W _ _ _ _ _ _
    refine W.ret ?_
    obtain rfl := Option.some.inj h
    show FinP _ _ _ _ _ _ _
    exact FinP.ret _ (res1 rfl rfl) ⟨rfl, hr54, (St.pick hS56 [0, 1] rfl)⟩

theorem c_laws_markInt64SS {w : World} {a : (List (List Int))} {v_a : Value} {k1 : Int} {w0 : World} {R : Ent} (hS0 : St w0 w [(Ty.sl (Ty.sl (Ty.i .i64))).at v_a a, R]) (r_k1 : InR .i64 k1) {res : Int × (List (List Int))} (h : p_laws_markInt64SS a k1  = some res) :
    Ret Try.prog 15 #[v_a, (Value.int .i64 k1)] w (fun v w' => v = Value.int .i64 res.1 ∧ InR .i64 res.1 ∧ St w0 w' [(Ty.sl (Ty.sl (Ty.i .i64))).at v_a res.2, R]) := by
  unfold p_laws_markInt64SS at h
  refine Ret.start (fn := Try.f15) Try.func15 rfl 19 rfl rfl ?_
  refine W.seq (W.region ?_)
  refine WL.val (Value.int .i64 (0 : Int)) _ (op_assign rfl) rfl ?_
  refine WL.nil ?_
  show W _ _ _ _ _ _
  refine W.seq (W.seq (W.region ?_))
  refine WL.val (Value.int .i64 (0 : Int)) _ (op_assign rfl) rfl ?_
  refine WL.nil ?_
  show W _ _ _ _ _ _
  obtain ⟨res1, hres2, h⟩ := bs h
  refine W.blockLoop (fun fq wq => ∃ s, res1 = Res.fin s ∧ fq 1 = Value.int .i64 s.2 ∧ InR .i64 s.2 ∧ (s.1).length = (a).length ∧ St w0 wq [(Ty.sl (Ty.sl (Ty.i .i64))).at v_a s.1, R]) ?_ ?_
  · refine W.forN (fun k (s : (List (List Int)) × Int) fq wq => fq 0 = v_a ∧ fq 1 = Value.int .i64 s.2 ∧ InR .i64 s.2 ∧ fq 5 = Value.int .i64 (k : Int) ∧ InR .i64 (k : Int) ∧ (s.1).length = (a).length ∧ St w0 wq [(Ty.sl (Ty.sl (Ty.i .i64))).at v_a s.1, R]) hres2 ⟨rfl, rfl, r_k1, rfl, (inR_i64.2 (show (-9223372036854775808 : Int) ≤ 0 ∧ (0 : Int) ≤ 9223372036854775807 from by decide)), rfl, hS0⟩ ?_ ?_
    · intro k3 s40 ct6 f7 wd8 hk9 hb10 hI11 hbrk12 hret13
      obtain ⟨x4, x5⟩ := s40
      replace hI11 : f7 0 = v_a ∧ f7 1 = Value.int .i64 x5 ∧ InR .i64 x5 ∧ f7 5 = Value.int .i64 (k3 : Int) ∧ InR .i64 (k3 : Int) ∧ (x4).length = (a).length ∧ St w0 wd8 [(Ty.sl (Ty.sl (Ty.i .i64))).at v_a x4, R] := hI11
      replace hb10 : p_laws_markInt64SS_L1  k3 x4 x5 = some ct6 := hb10
      unfold p_laws_markInt64SS_L1 at hb10
      obtain ⟨hf14, hf15, hr16, hf17, hr18, hL19, hS20⟩ := hI11
      refine W.seq (W.seq (W.region ?_))
      refine WL.val (Value.int .i64 (k3 : Int)) _ (op_move hf17) rfl ?_
      refine WL.val v_a _ (op_move hf14) rfl ?_
      have hr21 := inR_len (St.rep (t := (Ty.sl (Ty.sl (Ty.i .i64)))) hS20 0 rfl)
      refine WL.val (Value.int .i64 ((x4).length : Int)) _ (op_lenL sl_27 (St.rep (t := (Ty.sl (Ty.sl (Ty.i .i64)))) hS20 0 rfl) rfl) rfl ?_
      refine WL.val (Value.bool (decide ((k3 : Int) < ((x4).length : Int)))) _ (op_lss rfl rfl) rfl ?_
      have hl22 : (k3 : Int) < ((x4).length : Int) := by omega
      refine WL.nil ?_
      show W _ _ _ _ _ _
      refine W.condT (decide ((k3 : Int) < ((x4).length : Int))) rfl (decide_eq_true hl22) ?_
      refine W.skip ?_
      show W _ _ _ _ _ _
      refine W.seq ?_
      refine W.block ?_
      refine W.region ?_
      refine WL.val v_a _ (op_move hf14) rfl ?_
      refine WL.val (Value.int .i64 (k3 : Int)) _ (op_move hf17) rfl ?_
      obtain ⟨x24, hx27, hb10⟩ := bs hb10
      obtain ⟨ha25, hb26, hx27⟩ := idx_some hx27
      refine WL.val (Value.pointer (some (elA v_a ((k3 : Int)).toNat))) _ (op_idx sl_27 (St.rep (t := (Ty.sl (Ty.sl (Ty.i .i64)))) hS20 0 rfl) rfl rfl ha25 hb26) rfl ?_
      obtain ⟨u28, hc29, hr30⟩ := repSl.el (St.rep (t := (Ty.sl (Ty.sl (Ty.i .i64)))) hS20 0 rfl) hx27
      refine WL.val u28 _ (op_load one_22 rfl hc29) rfl ?_
      refine WL.val (Value.int .i64 x5) _ (op_move hf15) rfl ?_
      have hS31 := St.unrow (k := 0) hS20 rfl hx27 hc29
      replace hS31 : St w0 wd8 [holeAt (Ty.sl (Ty.i .i64)) v_a x4 ((k3 : Int)).toNat u28, R, (Ty.sl (Ty.i .i64)).at u28 x24] := hS31
      obtain ⟨x32, hx33, hb10⟩ := bs hb10
      have hS34 := St.fold [(Ty.sl (Ty.i .i64)).at u28 x24] [holeAt (Ty.sl (Ty.i .i64)) v_a x4 ((k3 : Int)).toNat u28, R] (St.pick hS31 [2, 0, 1] rfl)
      refine WL.call _ (op_call fn_28 (args2 rfl rfl)) (c_laws_markInt64S hS34 hr16 hx33) rfl ?_
      rintro _ wd37 ⟨rfl, hr38, hS35⟩
      have hS36 := St.pick (St.unfold [(Ty.sl (Ty.i .i64)).at u28 x32.2] [holeAt (Ty.sl (Ty.i .i64)) v_a x4 ((k3 : Int)).toNat u28, R] hS35) [1, 2, 0] rfl
      replace hS36 : St w0 wd37 [holeAt (Ty.sl (Ty.i .i64)) v_a x4 ((k3 : Int)).toNat u28, R, (Ty.sl (Ty.i .i64)).at u28 x32.2] := hS36
      have hS39 := St.rerow (k := 0) (k2 := 2) hS36 rfl rfl rfl
      replace hS39 : St w0 wd37 [(Ty.sl (Ty.sl (Ty.i .i64))).at v_a ((x4).set ((k3 : Int)).toNat x32.2), R, emp] := hS39
      refine WL.val (Value.int .i64 x32.1) _ (op_assign rfl) rfl ?_
      refine WL.nil ?_
      show W _ _ _ _ _ _
      refine W.region ?_
      refine WL.val (Value.int .i64 (k3 : Int)) _ (op_move hf17) rfl ?_
      refine WL.val (Value.int .i64 (w64 ((k3 : Int) + (1 : Int)))) _ (op_add rfl rfl) rfl ?_
      refine WL.val (Value.int .i64 (w64 ((k3 : Int) + (1 : Int)))) _ (op_assign rfl) rfl ?_
      refine WL.nil ?_
      obtain rfl := Option.some.inj hb10
      show ∃ s, _ = Ctl.next s ∧ _
      exact ⟨_, rfl, hf14, rfl, hr38, (ctr_next hl22 hr21), (ctr_rng hl22 hr21), (by first | exact hL19 | (simp only [List.length_set]; exact hL19)), (St.pick hS39 [0, 1] rfl)⟩
    · intro s45 f41 wd42 hs43 hI44
      obtain ⟨x46, x47⟩ := s45
      replace hI44 : f41 0 = v_a ∧ f41 1 = Value.int .i64 x47 ∧ InR .i64 x47 ∧ f41 5 = Value.int .i64 (((a).length : Nat) : Int) ∧ InR .i64 (((a).length : Nat) : Int) ∧ (x46).length = (a).length ∧ St w0 wd42 [(Ty.sl (Ty.sl (Ty.i .i64))).at v_a x46, R] := hI44
      obtain ⟨hf48, hf49, hr50, hf51, hr52, hL53, hS54⟩ := hI44
      refine W.seq (W.seq (W.region ?_))
      refine WL.val (Value.int .i64 (((a).length : Nat) : Int)) _ (op_move hf51) rfl ?_
      refine WL.val v_a _ (op_move hf48) rfl ?_
      have hr55 := inR_len (St.rep (t := (Ty.sl (Ty.sl (Ty.i .i64)))) hS54 0 rfl)
      refine WL.val (Value.int .i64 ((x46).length : Int)) _ (op_lenL sl_27 (St.rep (t := (Ty.sl (Ty.sl (Ty.i .i64)))) hS54 0 rfl) rfl) rfl ?_
      refine WL.val (Value.bool (decide ((((a).length : Nat) : Int) < ((x46).length : Int)))) _ (op_lss rfl rfl) rfl ?_
      have hl56 : ¬ (((a).length : Nat) : Int) < ((x46).length : Int) := by omega
      refine WL.nil ?_
      show W _ _ _ _ _ _
      refine W.condF (decide ((((a).length : Nat) : Int) < ((x46).length : Int))) rfl (decide_eq_false hl56) ?_
      refine W.exit ?_
      show _ = _ ∧ _
      exact ⟨rfl, _, hs43, hf49, hr50, (by first | exact hL53 | (simp only [List.length_set]; exact hL53)), hS54⟩
  · rintro f57 wd58 ⟨s60, rfl, hq59⟩
    replace h := onRes_fin h
    obtain ⟨x61, x62⟩ := s60
    replace hq59 : f57 1 = Value.int .i64 x62 ∧ InR .i64 x62 ∧ (x61).length = (a).length ∧ St w0 wd58 [(Ty.sl (Ty.sl (Ty.i .i64))).at v_a x61, R] := hq59
    replace h : (_ : Option _) = _ := h
    dsimp only at h
    obtain ⟨hf63, hr64, hL65, hS66⟩ := hq59
    show W _ _ _ _ _ _
    refine W.seq (W.region ?_)
    refine WL.val (Value.int .i64 x62) _ (op_move hf63) rfl ?_
    refine WL.val (Value.int .i64 x62) _ (op_assign rfl) rfl ?_
    refine WL.nil ?_
    show W _ _ _ _ _ _
    refine W.ret ?_
    obtain rfl := Option.some.inj h
    show FinP _ _ _ _ _ _ _
    exact FinP.ret _ (res1 rfl rfl) ⟨rfl, hr64, (St.pick hS66 [0, 1] rfl)⟩

theorem c_laws_markInt64SSS {w : World} {a : (List (List (List Int)))} {v_a : Value} {k1 : Int} {w0 : World} {R : Ent} (hS0 : St w0 w [(Ty.sl (Ty.sl (Ty.sl (Ty.i .i64)))).at v_a a, R]) (r_k1 : InR .i64 k1) {res : Int × (List (List (List Int)))} (h : p_laws_markInt64SSS a k1  = some res) :
    Ret Try.prog 45 #[v_a, (Value.int .i64 k1)] w (fun v w' => v = Value.int .i64 res.1 ∧ InR .i64 res.1 ∧ St w0 w' [(Ty.sl (Ty.sl (Ty.sl (Ty.i .i64)))).at v_a res.2, R]) := by
  unfold p_laws_markInt64SSS at h
  refine Ret.start (fn := Try.f45) Try.func45 rfl 19 rfl rfl ?_
  refine W.seq (W.region ?_)
  refine WL.val (Value.int .i64 (0 : Int)) _ (op_assign rfl) rfl ?_
  refine WL.nil ?_
  show W _ _ _ _ _ _
  refine W.seq (W.seq (W.region ?_))
  refine WL.val (Value.int .i64 (0 : Int)) _ (op_assign rfl) rfl ?_
  refine WL.nil ?_
  show W _ _ _ _ _ _
  obtain ⟨res1, hres2, h⟩ := bs h
  refine W.blockLoop (fun fq wq => ∃ s, res1 = Res.fin s ∧ fq 1 = Value.int .i64 s.2 ∧ InR .i64 s.2 ∧ (s.1).length = (a).length ∧ St w0 wq [(Ty.sl (Ty.sl (Ty.sl (Ty.i .i64)))).at v_a s.1, R]) ?_ ?_
  · refine W.forN (fun k (s : (List (List (List Int))) × Int) fq wq => fq 0 = v_a ∧ fq 1 = Value.int .i64 s.2 ∧ InR .i64 s.2 ∧ fq 5 = Value.int .i64 (k : Int) ∧ InR .i64 (k : Int) ∧ (s.1).length = (a).length ∧ St w0 wq [(Ty.sl (Ty.sl (Ty.sl (Ty.i .i64)))).at v_a s.1, R]) hres2 ⟨rfl, rfl, r_k1, rfl, (inR_i64.2 (show (-9223372036854775808 : Int) ≤ 0 ∧ (0 : Int) ≤ 9223372036854775807 from by decide)), rfl, hS0⟩ ?_ ?_
    · intro k3 s40 ct6 f7 wd8 hk9 hb10 hI11 hbrk12 hret13
      obtain ⟨x4, x5⟩ := s40
      replace hI11 : f7 0 = v_a ∧ f7 1 = Value.int .i64 x5 ∧ InR .i64 x5 ∧ f7 5 = Value.int .i64 (k3 : Int) ∧ InR .i64 (k3 : Int) ∧ (x4).length = (a).length ∧ St w0 wd8 [(Ty.sl (Ty.sl (Ty.sl (Ty.i .i64)))).at v_a x4, R] := hI11
      replace hb10 : p_laws_markInt64SSS_L1  k3 x4 x5 = some ct6 := hb10
      unfold p_laws_markInt64SSS_L1 at hb10
      obtain ⟨hf14, hf15, hr16, hf17, hr18, hL19, hS20⟩ := hI11
      refine W.seq (W.seq (W.region ?_))
      refine WL.val (Value.int .i64 (k3 : Int)) _ (op_move hf17) rfl ?_
      refine WL.val v_a _ (op_move hf14) rfl ?_
      have hr21 := inR_len (St.rep (t := (Ty.sl (Ty.sl (Ty.sl (Ty.i .i64))))) hS20 0 rfl)
      refine WL.val (Value.int .i64 ((x4).length : Int)) _ (op_lenL sl_23 (St.rep (t := (Ty.sl (Ty.sl (Ty.sl (Ty.i .i64))))) hS20 0 rfl) rfl) rfl ?_
      refine WL.val (Value.bool (decide ((k3 : Int) < ((x4).length : Int)))) _ (op_lss rfl rfl) rfl ?_
      have hl22 : (k3 : Int) < ((x4).length : Int) := by omega
      refine WL.nil ?_
      show W _ _ _ _ _ _
      refine W.condT (decide ((k3 : Int) < ((x4).length : Int))) rfl (decide_eq_true hl22) ?_
      refine W.skip ?_
      show W _ _ _ _ _ _
      refine W.seq ?_
      refine W.block ?_
      refine W.region ?_
      refine WL.val v_a _ (op_move hf14) rfl ?_
      refine WL.val (Value.int .i64 (k3 : Int)) _ (op_move hf17) rfl ?_
      obtain ⟨x24, hx27, hb10⟩ := bs hb10
      obtain ⟨ha25, hb26, hx27⟩ := idx_some hx27
      refine WL.val (Value.pointer (some (elA v_a ((k3 : Int)).toNat))) _ (op_idx sl_23 (St.rep (t := (Ty.sl (Ty.sl (Ty.sl (Ty.i .i64))))) hS20 0 rfl) rfl rfl ha25 hb26) rfl ?_
      obtain ⟨u28, hc29, hr30⟩ := repSl.el (St.rep (t := (Ty.sl (Ty.sl (Ty.sl (Ty.i .i64))))) hS20 0 rfl) hx27
      refine WL.val u28 _ (op_load one_27 rfl hc29) rfl ?_
      refine WL.val (Value.int .i64 x5) _ (op_move hf15) rfl ?_
      have hS31 := St.unrow (k := 0) hS20 rfl hx27 hc29
      replace hS31 : St w0 wd8 [holeAt (Ty.sl (Ty.sl (Ty.i .i64))) v_a x4 ((k3 : Int)).toNat u28, R, (Ty.sl (Ty.sl (Ty.i .i64))).at u28 x24] := hS31
      obtain ⟨x32, hx33, hb10⟩ := bs hb10
      have hS34 := St.fold [(Ty.sl (Ty.sl (Ty.i .i64))).at u28 x24] [holeAt (Ty.sl (Ty.sl (Ty.i .i64))) v_a x4 ((k3 : Int)).toNat u28, R] (St.pick hS31 [2, 0, 1] rfl)
      refine WL.call _ (op_call fn_15 (args2 rfl rfl)) (c_laws_markInt64SS hS34 hr16 hx33) rfl ?_
      rintro _ wd37 ⟨rfl, hr38, hS35⟩
      have hS36 := St.pick (St.unfold [(Ty.sl (Ty.sl (Ty.i .i64))).at u28 x32.2] [holeAt (Ty.sl (Ty.sl (Ty.i .i64))) v_a x4 ((k3 : Int)).toNat u28, R] hS35) [1, 2, 0] rfl
      replace hS36 : St w0 wd37 [holeAt (Ty.sl (Ty.sl (Ty.i .i64))) v_a x4 ((k3 : Int)).toNat u28, R, (Ty.sl (Ty.sl (Ty.i .i64))).at u28 x32.2] := hS36
      have hS39 := St.rerow (k := 0) (k2 := 2) hS36 rfl rfl rfl
      replace hS39 : St w0 wd37 [(Ty.sl (Ty.sl (Ty.sl (Ty.i .i64)))).at v_a ((x4).set ((k3 : Int)).toNat x32.2), R, emp] := hS39
      refine WL.val (Value.int .i64 x32.1) _ (op_assign rfl) rfl ?_
      refine WL.nil ?_
      show W _ _ _ _ _ _
      refine W.region ?_
      refine WL.val (Value.int .i64 (k3 : Int)) _ (op_move hf17) rfl ?_
      refine WL.val (Value.int .i64 (w64 ((k3 : Int) + (1 : Int)))) _ (op_add rfl rfl) rfl ?_
      refine WL.val (Value.int .i64 (w64 ((k3 : Int) + (1 : Int)))) _ (op_assign rfl) rfl ?_
      refine WL.nil ?_
      obtain rfl := Option.some.inj hb10
      show ∃ s, _ = Ctl.next s ∧ _
      exact ⟨_, rfl, hf14, rfl, hr38, (ctr_next hl22 hr21), (ctr_rng hl22 hr21), (by first | exact hL19 | (simp only [List.length_set]; exact hL19)), (St.pick hS39 [0, 1] rfl)⟩
    · intro s45 f41 wd42 hs43 hI44
      obtain ⟨x46, x47⟩ := s45
      replace hI44 : f41 0 = v_a ∧ f41 1 = Value.int .i64 x47 ∧ InR .i64 x47 ∧ f41 5 = Value.int .i64 (((a).length : Nat) : Int) ∧ InR .i64 (((a).length : Nat) : Int) ∧ (x46).length = (a).length ∧ St w0 wd42 [(Ty.sl (Ty.sl (Ty.sl (Ty.i .i64)))).at v_a x46, R] := hI44
      obtain ⟨hf48, hf49, hr50, hf51, hr52, hL53, hS54⟩ := hI44
      refine W.seq (W.seq (W.region ?_))
      refine WL.val (Value.int .i64 (((a).length : Nat) : Int)) _ (op_move hf51) rfl ?_
      refine WL.val v_a _ (op_move hf48) rfl ?_
      have hr55 := inR_len (St.rep (t := (Ty.sl (Ty.sl (Ty.sl (Ty.i .i64))))) hS54 0 rfl)
      refine WL.val (Value.int .i64 ((x46).length : Int)) _ (op_lenL sl_23 (St.rep (t := (Ty.sl (Ty.sl (Ty.sl (Ty.i .i64))))) hS54 0 rfl) rfl) rfl ?_
      refine WL.val (Value.bool (decide ((((a).length : Nat) : Int) < ((x46).length : Int)))) _ (op_lss rfl rfl) rfl ?_
      have hl56 : ¬ (((a).length : Nat) : Int) < ((x46).length : Int) := by omega
      refine WL.nil ?_
      show W _ _ _ _ _ _
      refine W.condF (decide ((((a).length : Nat) : Int) < ((x46).length : Int))) rfl (decide_eq_false hl56) ?_
      refine W.exit ?_
      show _ = _ ∧ _
      exact ⟨rfl, _, hs43, hf49, hr50, (by first | exact hL53 | (simp only [List.length_set]; exact hL53)), hS54⟩
  · rintro f57 wd58 ⟨s60, rfl, hq59⟩
    replace h := onRes_fin h
    obtain ⟨x61, x62⟩ := s60
    replace hq59 : f57 1 = Value.int .i64 x62 ∧ InR .i64 x62 ∧ (x61).length = (a).length ∧ St w0 wd58 [(Ty.sl (Ty.sl (Ty.sl (Ty.i .i64)))).at v_a x61, R] := hq59
    replace h : (_ : Option _) = _ := h
    dsimp only at h
    obtain ⟨hf63, hr64, hL65, hS66⟩ := hq59
    show W _ _ _ _ _ _
    refine W.seq (W.region ?_)
    refine WL.val (Value.int .i64 x62) _ (op_move hf63) rfl ?_
    refine WL.val (Value.int .i64 x62) _ (op_assign rfl) rfl ?_
    refine WL.nil ?_
    show W _ _ _ _ _ _
    refine W.ret ?_
    obtain rfl := Option.some.inj h
    show FinP _ _ _ _ _ _ _
    exact FinP.ret _ (res1 rfl rfl) ⟨rfl, hr64, (St.pick hS66 [0, 1] rfl)⟩

theorem c_laws_markCocycle {w : World} {a_Orders : (List Int)} {v_a_Orders : Value} {a_Modulus : Int} {a_Values : (List (List (List Int)))} {v_a_Values : Value} {k1 : Int} {w0 : World} {R : Ent} (hS0 : St w0 w [(Ty.sl (Ty.i .i64)).at v_a_Orders a_Orders, (Ty.sl (Ty.sl (Ty.sl (Ty.i .i64)))).at v_a_Values a_Values, R]) (r_a_Modulus : InR .i64 a_Modulus) (r_k1 : InR .i64 k1) {res : Int × (List Int) × (List (List (List Int)))} (h : p_laws_markCocycle a_Orders a_Modulus a_Values k1  = some res) :
    Ret Try.prog 14 #[(Value.agg #[v_a_Orders, (Value.int .i64 a_Modulus), v_a_Values]), (Value.int .i64 k1)] w (fun v w' => v = Value.int .i64 res.1 ∧ InR .i64 res.1 ∧ St w0 w' [(Ty.sl (Ty.i .i64)).at v_a_Orders res.2.1, (Ty.sl (Ty.sl (Ty.sl (Ty.i .i64)))).at v_a_Values res.2.2, R]) := by
  unfold p_laws_markCocycle at h
  refine Ret.start (fn := Try.f14) Try.func14 rfl 14 rfl rfl ?_
  refine W.seq (W.region ?_)
  refine WL.box hS0 rfl (cs := [v_a_Orders, (Value.int .i64 a_Modulus), v_a_Values]) rfl rfl ?_
  intro b1 wd2 hS3 he4 hx5
  replace hS3 : St w0 wd2 [(Ty.sl (Ty.i .i64)).at v_a_Orders a_Orders, (Ty.sl (Ty.sl (Ty.sl (Ty.i .i64)))).at v_a_Values a_Values, R, bx b1 [v_a_Orders, (Value.int .i64 a_Modulus), v_a_Values]] := hS3
  refine WL.val (Value.int .i64 (0 : Int)) _ (op_assign rfl) rfl ?_
  refine WL.nil ?_
  show W _ _ _ _ _ _
  refine W.seq (W.region ?_)
  refine WL.val (Value.pointer (some ⟨b1, 0, none⟩)) _ (op_fieldAddr fd_30_0 rfl) rfl ?_
  refine WL.val v_a_Orders _ (op_load one_22 rfl (BoxAt.cell (St.boxAt hS3 3 rfl) rfl)) rfl ?_
  refine WL.val (Value.int .i64 k1) _ (op_move rfl) rfl ?_
  obtain ⟨x6, hx7, h⟩ := bs h
  have hS8 := St.fold [(Ty.sl (Ty.i .i64)).at v_a_Orders a_Orders] [(Ty.sl (Ty.sl (Ty.sl (Ty.i .i64)))).at v_a_Values a_Values, R, bx b1 [v_a_Orders, (Value.int .i64 a_Modulus), v_a_Values]] (St.pick hS3 [0, 1, 2, 3] rfl)
  refine WL.call _ (op_call fn_28 (args2 rfl rfl)) (c_laws_markInt64S hS8 r_k1 hx7) rfl ?_
  rintro _ wd11 ⟨rfl, hr12, hS9⟩
  have hS10 := St.pick (St.unfold [(Ty.sl (Ty.i .i64)).at v_a_Orders x6.2] [(Ty.sl (Ty.sl (Ty.sl (Ty.i .i64)))).at v_a_Values a_Values, R, bx b1 [v_a_Orders, (Value.int .i64 a_Modulus), v_a_Values]] hS9) [0, 1, 2, 3] rfl
  replace hS10 : St w0 wd11 [(Ty.sl (Ty.i .i64)).at v_a_Orders x6.2, (Ty.sl (Ty.sl (Ty.sl (Ty.i .i64)))).at v_a_Values a_Values, R, bx b1 [v_a_Orders, (Value.int .i64 a_Modulus), v_a_Values]] := hS10
  refine WL.val (Value.int .i64 x6.1) _ (op_assign rfl) rfl ?_
  refine WL.nil ?_
  show W _ _ _ _ _ _
  refine W.seq (W.region ?_)
  refine WL.val (Value.pointer (some ⟨b1, 2, none⟩)) _ (op_fieldAddr fd_30_2 rfl) rfl ?_
  refine WL.val v_a_Values _ (op_load one_23 rfl (BoxAt.cell (St.boxAt hS10 3 rfl) rfl)) rfl ?_
  refine WL.val (Value.int .i64 x6.1) _ (op_move rfl) rfl ?_
  obtain ⟨x13, hx14, h⟩ := bs h
  have hS15 := St.fold [(Ty.sl (Ty.sl (Ty.sl (Ty.i .i64)))).at v_a_Values a_Values] [(Ty.sl (Ty.i .i64)).at v_a_Orders x6.2, R, bx b1 [v_a_Orders, (Value.int .i64 a_Modulus), v_a_Values]] (St.pick hS10 [1, 0, 2, 3] rfl)
  refine WL.call _ (op_call fn_45 (args2 rfl rfl)) (c_laws_markInt64SSS hS15 hr12 hx14) rfl ?_
  rintro _ wd18 ⟨rfl, hr19, hS16⟩
  have hS17 := St.pick (St.unfold [(Ty.sl (Ty.sl (Ty.sl (Ty.i .i64)))).at v_a_Values x13.2] [(Ty.sl (Ty.i .i64)).at v_a_Orders x6.2, R, bx b1 [v_a_Orders, (Value.int .i64 a_Modulus), v_a_Values]] hS16) [1, 0, 2, 3] rfl
  replace hS17 : St w0 wd18 [(Ty.sl (Ty.i .i64)).at v_a_Orders x6.2, (Ty.sl (Ty.sl (Ty.sl (Ty.i .i64)))).at v_a_Values x13.2, R, bx b1 [v_a_Orders, (Value.int .i64 a_Modulus), v_a_Values]] := hS17
  refine WL.val (Value.int .i64 x13.1) _ (op_assign rfl) rfl ?_
  refine WL.nil ?_
  show W _ _ _ _ _ _
  refine W.seq (W.region ?_)
  refine WL.val (Value.int .i64 x13.1) _ (op_move rfl) rfl ?_
  refine WL.val (Value.int .i64 x13.1) _ (op_assign rfl) rfl ?_
  refine WL.nil ?_
  show W _ _ _ _ _ _
  refine W.ret ?_
  obtain rfl := Option.some.inj h
  show FinP _ _ _ _ _ _ _
  exact FinP.ret _ (res1 rfl rfl) ⟨rfl, hr19, (St.pick hS17 [0, 1, 2] rfl)⟩

theorem c_laws_heldInt64S {w : World} {a : (List Int)} {v_a : Value} {k1 : Int} (r_a : (Ty.sl (Ty.i .i64)).rep w v_a a) (r_k1 : InR .i64 k1) {res : Int} (h : p_laws_heldInt64S a k1  = some res) :
    Ret Try.prog 46 #[v_a, (Value.int .i64 k1)] w (fun v w' => v = Value.int .i64 res ∧ InR .i64 res ∧ Ext w w') := by
  unfold p_laws_heldInt64S at h
  have hS0 : St w w [] := St.start w
  refine Ret.start (fn := Try.f46) Try.func46 rfl 21 rfl rfl ?_
  refine W.seq (W.region ?_)
  refine WL.val (Value.int .i64 (0 : Int)) _ (op_assign rfl) rfl ?_
  refine WL.nil ?_
  show W _ _ _ _ _ _
  refine W.seq (W.seq (W.region ?_))
  refine WL.val (Value.int .i64 (0 : Int)) _ (op_assign rfl) rfl ?_
  refine WL.nil ?_
  show W _ _ _ _ _ _
  obtain ⟨res1, hres2, h⟩ := bs h
  refine W.blockLoop (fun fq wq => ∃ s, res1 = Res.fin s ∧ fq 1 = Value.int .i64 s ∧ InR .i64 s ∧ St w wq []) ?_ ?_
  · refine W.forN (fun k (s : Int) fq wq => fq 0 = v_a ∧ fq 1 = Value.int .i64 s ∧ InR .i64 s ∧ fq 5 = Value.int .i64 (k : Int) ∧ InR .i64 (k : Int) ∧ St w wq []) hres2 ⟨rfl, rfl, r_k1, rfl, (inR_i64.2 (show (-9223372036854775808 : Int) ≤ 0 ∧ (0 : Int) ≤ 9223372036854775807 from by decide)), hS0⟩ ?_ ?_
    · intro k3 x4 ct5 f6 wd7 hk8 hb9 hI10 hbrk11 hret12
      replace hI10 : f6 0 = v_a ∧ f6 1 = Value.int .i64 x4 ∧ InR .i64 x4 ∧ f6 5 = Value.int .i64 (k3 : Int) ∧ InR .i64 (k3 : Int) ∧ St w wd7 [] := hI10
      replace hb9 : p_laws_heldInt64S_L1 a k3 x4 = some ct5 := hb9
      unfold p_laws_heldInt64S_L1 at hb9
      obtain ⟨hf13, hf14, hr15, hf16, hr17, hS18⟩ := hI10
      refine W.seq (W.seq (W.region ?_))
      refine WL.val (Value.int .i64 (k3 : Int)) _ (op_move hf16) rfl ?_
      refine WL.val v_a _ (op_move hf13) rfl ?_
      have hr19 := inR_len (Ty.lift _ hS18.ext r_a)
      refine WL.val (Value.int .i64 ((a).length : Int)) _ (op_lenL sl_22 (Ty.lift _ hS18.ext r_a) rfl) rfl ?_
      refine WL.val (Value.bool (decide ((k3 : Int) < ((a).length : Int)))) _ (op_lss rfl rfl) rfl ?_
      have hl20 : (k3 : Int) < ((a).length : Int) := by omega
      refine WL.nil ?_
      show W _ _ _ _ _ _
      refine W.condT (decide ((k3 : Int) < ((a).length : Int))) rfl (decide_eq_true hl20) ?_
      refine W.skip ?_
      show W _ _ _ _ _ _
      refine W.seq ?_
      refine W.block ?_
      refine W.seq (W.seq (W.region ?_))
      refine WL.val v_a _ (op_move hf13) rfl ?_
      refine WL.val (Value.int .i64 (k3 : Int)) _ (op_move hf16) rfl ?_
      obtain ⟨x22, hx25, hb9⟩ := bs hb9
      obtain ⟨ha23, hb24, hx25⟩ := idx_some hx25
      refine WL.val (Value.pointer (some (elA v_a ((k3 : Int)).toNat))) _ (op_idx sl_22 (Ty.lift _ hS18.ext r_a) rfl rfl ha23 hb24) rfl ?_
      obtain ⟨u26, hc27, hr28⟩ := repSl.el r_a hx25
      obtain ⟨rfl, hr28⟩ := hr28
      refine WL.val (Value.int .i64 x22) _ (op_load one_2 rfl (Ext.cell hS18.ext hc27)) rfl ?_
      refine WL.val (Value.int .i64 x4) _ (op_move hf14) rfl ?_
      refine WL.val (Value.bool (x22 != x4)) _ (op_neq rfl rfl) rfl ?_
      refine WL.nil ?_
      show W _ _ _ _ _ _
      refine W.cond (x22 != x4) rfl (fun hc29 => ?_) (fun hc29 => ?_)
      · replace hb9 := ip hb9 hc29
        refine W.seq (W.region ?_)
        refine WL.val (Value.int .i64 (-1 : Int)) _ (op_assign rfl) rfl ?_
        refine WL.nil ?_
        show W _ _ _ _ _ _
        refine W.ret ?_
        obtain rfl := Option.some.inj hb9
        obtain rfl := hret12 _ rfl
        replace h := onRes_ret h
        obtain rfl := Option.some.inj h
        show FinP _ _ _ _ _ _ _
        exact FinP.ret _ (res1 rfl rfl) ⟨rfl, (inR_i64.2 (show (-9223372036854775808 : Int) ≤ -1 ∧ (-1 : Int) ≤ 9223372036854775807 from by decide)), hS18.ext⟩
      · replace hb9 := inegb hb9 hc29
        refine W.skip ?_
        show W _ _ _ _ _ _
        refine W.region ?_
        refine WL.val (Value.int .i64 x4) _ (op_move hf14) rfl ?_
        refine WL.val (Value.int .i64 (w64 (x4 + (1 : Int)))) _ (op_add rfl rfl) rfl ?_
        refine WL.val (Value.int .i64 (w64 (x4 + (1 : Int)))) _ (op_assign rfl) rfl ?_
        refine WL.nil ?_
        show W _ _ _ _ _ _
        refine W.region ?_
        refine WL.val (Value.int .i64 (k3 : Int)) _ (op_move hf16) rfl ?_
        refine WL.val (Value.int .i64 (w64 ((k3 : Int) + (1 : Int)))) _ (op_add rfl rfl) rfl ?_
        refine WL.val (Value.int .i64 (w64 ((k3 : Int) + (1 : Int)))) _ (op_assign rfl) rfl ?_
        refine WL.nil ?_
        obtain rfl := Option.some.inj hb9
        show ∃ s, _ = Ctl.next s ∧ _
        exact ⟨_, rfl, hf13, rfl, (inR_wrap _ _), (ctr_next hl20 hr19), (ctr_rng hl20 hr19), hS18⟩
    · intro x37 f32 wd33 hs34 hI35
      replace hI35 : f32 0 = v_a ∧ f32 1 = Value.int .i64 x37 ∧ InR .i64 x37 ∧ f32 5 = Value.int .i64 (((a).length : Nat) : Int) ∧ InR .i64 (((a).length : Nat) : Int) ∧ St w wd33 [] := hI35
      obtain ⟨hf38, hf39, hr40, hf41, hr42, hS43⟩ := hI35
      refine W.seq (W.seq (W.region ?_))
      refine WL.val (Value.int .i64 (((a).length : Nat) : Int)) _ (op_move hf41) rfl ?_
      refine WL.val v_a _ (op_move hf38) rfl ?_
      have hr44 := inR_len (Ty.lift _ hS43.ext r_a)
      refine WL.val (Value.int .i64 ((a).length : Int)) _ (op_lenL sl_22 (Ty.lift _ hS43.ext r_a) rfl) rfl ?_
      refine WL.val (Value.bool (decide ((((a).length : Nat) : Int) < ((a).length : Int)))) _ (op_lss rfl rfl) rfl ?_
      have hl45 : ¬ (((a).length : Nat) : Int) < ((a).length : Int) := by omega
      refine WL.nil ?_
      show W _ _ _ _ _ _
      refine W.condF (decide ((((a).length : Nat) : Int) < ((a).length : Int))) rfl (decide_eq_false hl45) ?_
      refine W.exit ?_
      show _ = _ ∧ _
      exact ⟨rfl, _, hs34, hf39, hr40, hS43⟩
  · rintro f46 wd47 ⟨x50, rfl, hq48⟩
    replace h := onRes_fin h
    replace hq48 : f46 1 = Value.int .i64 x50 ∧ InR .i64 x50 ∧ St w wd47 [] := hq48
    obtain ⟨hf51, hr52, hS53⟩ := hq48
    show W _ _ _ _ _ _
    refine W.seq (W.region ?_)
    refine WL.val (Value.int .i64 x50) _ (op_move hf51) rfl ?_
    refine WL.val (Value.int .i64 x50) _ (op_assign rfl) rfl ?_
    refine WL.nil ?_
    show W _ _ _ _ _ _
    refine W.ret ?_
    obtain rfl := Option.some.inj h
    show FinP _ _ _ _ _ _ _
    exact FinP.ret _ (res1 rfl rfl) ⟨rfl, hr52, hS53.ext⟩

theorem c_laws_heldInt64SS {w : World} {a : (List (List Int))} {v_a : Value} {k1 : Int} (r_a : (Ty.sl (Ty.sl (Ty.i .i64))).rep w v_a a) (r_k1 : InR .i64 k1) {res : Int} (h : p_laws_heldInt64SS a k1  = some res) :
    Ret Try.prog 16 #[v_a, (Value.int .i64 k1)] w (fun v w' => v = Value.int .i64 res ∧ InR .i64 res ∧ Ext w w') := by
  unfold p_laws_heldInt64SS at h
  have hS0 : St w w [] := St.start w
  refine Ret.start (fn := Try.f16) Try.func16 rfl 21 rfl rfl ?_
  refine W.seq (W.region ?_)
  refine WL.val (Value.int .i64 (0 : Int)) _ (op_assign rfl) rfl ?_
  refine WL.nil ?_
  show W _ _ _ _ _ _
  refine W.seq (W.seq (W.region ?_))
  refine WL.val (Value.int .i64 (0 : Int)) _ (op_assign rfl) rfl ?_
  refine WL.nil ?_
  show W _ _ _ _ _ _
  obtain ⟨res1, hres2, h⟩ := bs h
  refine W.blockLoop (fun fq wq => ∃ s, res1 = Res.fin s ∧ fq 1 = Value.int .i64 s ∧ InR .i64 s ∧ St w wq []) ?_ ?_
  · refine W.forN (fun k (s : Int) fq wq => fq 0 = v_a ∧ fq 1 = Value.int .i64 s ∧ InR .i64 s ∧ fq 5 = Value.int .i64 (k : Int) ∧ InR .i64 (k : Int) ∧ St w wq []) hres2 ⟨rfl, rfl, r_k1, rfl, (inR_i64.2 (show (-9223372036854775808 : Int) ≤ 0 ∧ (0 : Int) ≤ 9223372036854775807 from by decide)), hS0⟩ ?_ ?_
    · intro k3 x4 ct5 f6 wd7 hk8 hb9 hI10 hbrk11 hret12
      replace hI10 : f6 0 = v_a ∧ f6 1 = Value.int .i64 x4 ∧ InR .i64 x4 ∧ f6 5 = Value.int .i64 (k3 : Int) ∧ InR .i64 (k3 : Int) ∧ St w wd7 [] := hI10
      replace hb9 : p_laws_heldInt64SS_L1 a k3 x4 = some ct5 := hb9
      unfold p_laws_heldInt64SS_L1 at hb9
      obtain ⟨hf13, hf14, hr15, hf16, hr17, hS18⟩ := hI10
      refine W.seq (W.seq (W.region ?_))
      refine WL.val (Value.int .i64 (k3 : Int)) _ (op_move hf16) rfl ?_
      refine WL.val v_a _ (op_move hf13) rfl ?_
      have hr19 := inR_len (Ty.lift _ hS18.ext r_a)
      refine WL.val (Value.int .i64 ((a).length : Int)) _ (op_lenL sl_27 (Ty.lift _ hS18.ext r_a) rfl) rfl ?_
      refine WL.val (Value.bool (decide ((k3 : Int) < ((a).length : Int)))) _ (op_lss rfl rfl) rfl ?_
      have hl20 : (k3 : Int) < ((a).length : Int) := by omega
      refine WL.nil ?_
      show W _ _ _ _ _ _
      refine W.condT (decide ((k3 : Int) < ((a).length : Int))) rfl (decide_eq_true hl20) ?_
      refine W.skip ?_
      show W _ _ _ _ _ _
      refine W.seq ?_
      refine W.block ?_
      refine W.seq (W.region ?_)
      refine WL.val v_a _ (op_move hf13) rfl ?_
      refine WL.val (Value.int .i64 (k3 : Int)) _ (op_move hf16) rfl ?_
      obtain ⟨x22, hx25, hb9⟩ := bs hb9
      obtain ⟨ha23, hb24, hx25⟩ := idx_some hx25
      refine WL.val (Value.pointer (some (elA v_a ((k3 : Int)).toNat))) _ (op_idx sl_27 (Ty.lift _ hS18.ext r_a) rfl rfl ha23 hb24) rfl ?_
      obtain ⟨u26, hc27, hr28⟩ := repSl.el r_a hx25
      refine WL.val u26 _ (op_load one_22 rfl (Ext.cell hS18.ext hc27)) rfl ?_
      refine WL.val (Value.int .i64 x4) _ (op_move hf14) rfl ?_
      obtain ⟨x29, hx30, hb9⟩ := bs hb9
      refine WL.call _ (op_call fn_46 (args2 rfl rfl)) (c_laws_heldInt64S (Ty.lift _ hS18.ext hr28) hr15 hx30) rfl ?_
      rintro _ wd32 ⟨rfl, hr31, he33⟩
      have hS35 := St.extend hS18 he33
      replace hS35 : St w wd32 [] := hS35
      refine WL.val (Value.int .i64 x29) _ (op_assign rfl) rfl ?_
      refine WL.nil ?_
      show W _ _ _ _ _ _
      refine W.seq (W.region ?_)
      refine WL.val (Value.int .i64 x29) _ (op_move rfl) rfl ?_
      refine WL.val (Value.bool (decide (x29 < (0 : Int)))) _ (op_lss rfl rfl) rfl ?_
      refine WL.nil ?_
      show W _ _ _ _ _ _
      refine W.cond (decide (x29 < (0 : Int))) rfl (fun hc36 => ?_) (fun hc36 => ?_)
      · replace hb9 := ip hb9 hc36
        refine W.seq (W.region ?_)
        refine WL.val (Value.int .i64 (-1 : Int)) _ (op_assign rfl) rfl ?_
        refine WL.nil ?_
        show W _ _ _ _ _ _
        refine W.ret ?_
        obtain rfl := Option.some.inj hb9
        obtain rfl := hret12 _ rfl
        replace h := onRes_ret h
        obtain rfl := Option.some.inj h
        show FinP _ _ _ _ _ _ _
        exact FinP.ret _ (res1 rfl rfl) ⟨rfl, (inR_i64.2 (show (-9223372036854775808 : Int) ≤ -1 ∧ (-1 : Int) ≤ 9223372036854775807 from by decide)), hS35.ext⟩
      · replace hb9 := inegb hb9 hc36
        refine W.skip ?_
        show W _ _ _ _ _ _
        refine W.region ?_
        refine WL.val (Value.int .i64 (k3 : Int)) _ (op_move hf16) rfl ?_
        refine WL.val (Value.int .i64 (w64 ((k3 : Int) + (1 : Int)))) _ (op_add rfl rfl) rfl ?_
        refine WL.val (Value.int .i64 (w64 ((k3 : Int) + (1 : Int)))) _ (op_assign rfl) rfl ?_
        refine WL.nil ?_
        obtain rfl := Option.some.inj hb9
        show ∃ s, _ = Ctl.next s ∧ _
        exact ⟨_, rfl, hf13, rfl, hr31, (ctr_next hl20 hr19), (ctr_rng hl20 hr19), hS35⟩
    · intro x44 f39 wd40 hs41 hI42
      replace hI42 : f39 0 = v_a ∧ f39 1 = Value.int .i64 x44 ∧ InR .i64 x44 ∧ f39 5 = Value.int .i64 (((a).length : Nat) : Int) ∧ InR .i64 (((a).length : Nat) : Int) ∧ St w wd40 [] := hI42
      obtain ⟨hf45, hf46, hr47, hf48, hr49, hS50⟩ := hI42
      refine W.seq (W.seq (W.region ?_))
      refine WL.val (Value.int .i64 (((a).length : Nat) : Int)) _ (op_move hf48) rfl ?_
      refine WL.val v_a _ (op_move hf45) rfl ?_
      have hr51 := inR_len (Ty.lift _ hS50.ext r_a)
      refine WL.val (Value.int .i64 ((a).length : Int)) _ (op_lenL sl_27 (Ty.lift _ hS50.ext r_a) rfl) rfl ?_
      refine WL.val (Value.bool (decide ((((a).length : Nat) : Int) < ((a).length : Int)))) _ (op_lss rfl rfl) rfl ?_
      have hl52 : ¬ (((a).length : Nat) : Int) < ((a).length : Int) := by omega
      refine WL.nil ?_
      show W _ _ _ _ _ _
      refine W.condF (decide ((((a).length : Nat) : Int) < ((a).length : Int))) rfl (decide_eq_false hl52) ?_
      refine W.exit ?_
      show _ = _ ∧ _
      exact ⟨rfl, _, hs41, hf46, hr47, hS50⟩
  · rintro f53 wd54 ⟨x57, rfl, hq55⟩
    replace h := onRes_fin h
    replace hq55 : f53 1 = Value.int .i64 x57 ∧ InR .i64 x57 ∧ St w wd54 [] := hq55
    obtain ⟨hf58, hr59, hS60⟩ := hq55
    show W _ _ _ _ _ _
    refine W.seq (W.region ?_)
    refine WL.val (Value.int .i64 x57) _ (op_move hf58) rfl ?_
    refine WL.val (Value.int .i64 x57) _ (op_assign rfl) rfl ?_
    refine WL.nil ?_
    show W _ _ _ _ _ _
    refine W.ret ?_
    obtain rfl := Option.some.inj h
    show FinP _ _ _ _ _ _ _
    exact FinP.ret _ (res1 rfl rfl) ⟨rfl, hr59, hS60.ext⟩

theorem c_spec_l17Pairing {w : World} {n : Int} {m : Int} {f1 : (List (List Int))} {v_f1 : Value} (r_n : InR .i64 n) (r_m : InR .i64 m) (r_f1 : (Ty.sl (Ty.sl (Ty.i .i64))).rep w v_f1 f1) {res : Bool} (h : p_spec_l17Pairing n m f1  = some res) :
    Ret Try.prog 75 #[(Value.int .i64 n), (Value.int .i64 m), v_f1] w (fun v w' => v = Value.bool res ∧ Ext w w') := by
  unfold p_spec_l17Pairing at h
  have hS0 : St w w [] := St.start w
  refine Ret.start (fn := Try.f75) Try.func75 rfl 59 rfl rfl ?_
  refine W.seq (W.region ?_)
  refine WL.val (Value.bool false) _ (op_assign rfl) rfl ?_
  refine WL.nil ?_
  show W _ _ _ _ _ _
  refine W.seq (W.seq (W.region ?_))
  refine WL.val v_f1 _ (op_move rfl) rfl ?_
  have hr1 := inR_len (Ty.lift _ hS0.ext r_f1)
  refine WL.val (Value.int .i64 ((f1).length : Int)) _ (op_lenL sl_27 (Ty.lift _ hS0.ext r_f1) rfl) rfl ?_
  refine WL.val (Value.int .i64 n) _ (op_move rfl) rfl ?_
  refine WL.val (Value.bool (((f1).length : Int) != n)) _ (op_neq rfl rfl) rfl ?_
  refine WL.nil ?_
  show W _ _ _ _ _ _
  refine W.cond (((f1).length : Int) != n) rfl (fun hc2 => ?_) (fun hc2 => ?_)
  · replace h := ip h hc2
    refine W.seq (W.region ?_)
    refine WL.val (Value.bool false) _ (op_assign rfl) rfl ?_
    refine WL.nil ?_
    show W _ _ _ _ _ _
    refine W.ret ?_
    obtain rfl := Option.some.inj h
    show FinP _ _ _ _ _ _ _
    exact FinP.ret _ (res1 rfl rfl) ⟨rfl, hS0.ext⟩
  · replace h := inegb h hc2
    refine W.skip ?_
    show W _ _ _ _ _ _
    refine W.seq (W.seq (W.region ?_))
    refine WL.val (Value.int .i64 (0 : Int)) _ (op_assign rfl) rfl ?_
    refine WL.nil ?_
    show W _ _ _ _ _ _
    obtain ⟨res4, hres5, h⟩ := bs h
    refine W.blockLoop (fun fq wq => ∃ s, res4 = Res.fin s ∧ St w wq []) ?_ ?_
    · refine W.forN (fun k (s : Unit) fq wq => fq 0 = (Value.int .i64 n) ∧ fq 1 = (Value.int .i64 m) ∧ fq 2 = v_f1 ∧ fq 7 = Value.int .i64 (k : Int) ∧ InR .i64 (k : Int) ∧ St w wq []) hres5 ⟨rfl, rfl, rfl, rfl, (inR_i64.2 (show (-9223372036854775808 : Int) ≤ 0 ∧ (0 : Int) ≤ 9223372036854775807 from by decide)), hS0⟩ ?_ ?_
      · intro k6 s123 ct7 f8 wd9 hk10 hb11 hI12 hbrk13 hret14
        obtain ⟨⟩ := s123
        replace hI12 : f8 0 = (Value.int .i64 n) ∧ f8 1 = (Value.int .i64 m) ∧ f8 2 = v_f1 ∧ f8 7 = Value.int .i64 (k6 : Int) ∧ InR .i64 (k6 : Int) ∧ St w wd9 [] := hI12
        replace hb11 : p_spec_l17Pairing_L1 f1 n m k6  = some ct7 := hb11
        unfold p_spec_l17Pairing_L1 at hb11
        obtain ⟨hf15, hf16, hf17, hf18, hr19, hS20⟩ := hI12
        refine W.seq (W.seq (W.region ?_))
        refine WL.val (Value.int .i64 (k6 : Int)) _ (op_move hf18) rfl ?_
        refine WL.val (Value.int .i64 n) _ (op_move hf15) rfl ?_
        refine WL.val (Value.bool (decide ((k6 : Int) < n))) _ (op_lss rfl rfl) rfl ?_
        have hl21 : (k6 : Int) < n := by omega
        refine WL.nil ?_
        show W _ _ _ _ _ _
        refine W.condT (decide ((k6 : Int) < n)) rfl (decide_eq_true hl21) ?_
        refine W.skip ?_
        show W _ _ _ _ _ _
        refine W.seq ?_
        refine W.block ?_
        refine W.seq (W.seq (W.region ?_))
        refine WL.val v_f1 _ (op_move hf17) rfl ?_
        refine WL.val (Value.int .i64 (k6 : Int)) _ (op_move hf18) rfl ?_
        obtain ⟨x23, hx26, hb11⟩ := bs hb11
        obtain ⟨ha24, hb25, hx26⟩ := idx_some hx26
        refine WL.val (Value.pointer (some (elA v_f1 ((k6 : Int)).toNat))) _ (op_idx sl_27 (Ty.lift _ hS20.ext r_f1) rfl rfl ha24 hb25) rfl ?_
        obtain ⟨u27, hc28, hr29⟩ := repSl.el r_f1 hx26
        refine WL.val u27 _ (op_load one_22 rfl (Ext.cell hS20.ext hc28)) rfl ?_
        have hr30 := inR_len (Ty.lift _ hS20.ext hr29)
        refine WL.val (Value.int .i64 ((x23).length : Int)) _ (op_lenL sl_22 (Ty.lift _ hS20.ext hr29) rfl) rfl ?_
        refine WL.val (Value.int .i64 n) _ (op_move hf15) rfl ?_
        refine WL.val (Value.bool (((x23).length : Int) != n)) _ (op_neq rfl rfl) rfl ?_
        refine WL.nil ?_
        show W _ _ _ _ _ _
        refine W.cond (((x23).length : Int) != n) rfl (fun hc31 => ?_) (fun hc31 => ?_)
        · replace hb11 := ip hb11 hc31
          refine W.seq (W.region ?_)
          refine WL.val (Value.bool false) _ (op_assign rfl) rfl ?_
          refine WL.nil ?_
          show W _ _ _ _ _ _
          refine W.ret ?_
          obtain rfl := Option.some.inj hb11
          obtain rfl := hret14 _ rfl
          replace h := onRes_ret h
          obtain rfl := Option.some.inj h
          show FinP _ _ _ _ _ _ _
          exact FinP.ret _ (res1 rfl rfl) ⟨rfl, hS20.ext⟩
        · replace hb11 := inegb hb11 hc31
          refine W.skip ?_
          show W _ _ _ _ _ _
          refine W.seq (W.region ?_)
          refine WL.val (Value.int .i64 (0 : Int)) _ (op_assign rfl) rfl ?_
          refine WL.nil ?_
          show W _ _ _ _ _ _
          obtain ⟨res33, hres34, hb11⟩ := bs hb11
          refine W.blockLoop (fun fq wq => ∃ s, res33 = Res.fin s ∧ fq 0 = (Value.int .i64 n) ∧ fq 1 = (Value.int .i64 m) ∧ fq 2 = v_f1 ∧ fq 7 = (Value.int .i64 (k6 : Int)) ∧ St w wq []) ?_ ?_
          · refine W.forN (fun k (s : Unit) fq wq => fq 0 = (Value.int .i64 n) ∧ fq 1 = (Value.int .i64 m) ∧ fq 2 = v_f1 ∧ fq 7 = (Value.int .i64 (k6 : Int)) ∧ fq 8 = Value.int .i64 (k : Int) ∧ InR .i64 (k : Int) ∧ St w wq []) hres34 ⟨hf15, hf16, hf17, hf18, rfl, (inR_i64.2 (show (-9223372036854775808 : Int) ≤ 0 ∧ (0 : Int) ≤ 9223372036854775807 from by decide)), hS20⟩ ?_ ?_
            · intro k35 s99 ct36 f37 wd38 hk39 hb40 hI41 hbrk42 hret43
              obtain ⟨⟩ := s99
              replace hI41 : f37 0 = (Value.int .i64 n) ∧ f37 1 = (Value.int .i64 m) ∧ f37 2 = v_f1 ∧ f37 7 = (Value.int .i64 (k6 : Int)) ∧ f37 8 = Value.int .i64 (k35 : Int) ∧ InR .i64 (k35 : Int) ∧ St w wd38 [] := hI41
              replace hb40 : p_spec_l17Pairing_L2 x23 m k6 k35  = some ct36 := hb40
              unfold p_spec_l17Pairing_L2 at hb40
              obtain ⟨hf44, hf45, hf46, hf47, hf48, hr49, hS50⟩ := hI41
              refine W.seq (W.seq (W.region ?_))
              refine WL.val (Value.int .i64 (k35 : Int)) _ (op_move hf48) rfl ?_
              refine WL.val (Value.int .i64 n) _ (op_move hf44) rfl ?_
              refine WL.val (Value.bool (decide ((k35 : Int) < n))) _ (op_lss rfl rfl) rfl ?_
              have hl51 : (k35 : Int) < n := by omega
              refine WL.nil ?_
              show W _ _ _ _ _ _
              refine W.condT (decide ((k35 : Int) < n)) rfl (decide_eq_true hl51) ?_
              refine W.skip ?_
              show W _ _ _ _ _ _
              refine W.seq ?_
              refine W.block ?_
              refine W.seq ?_
              obtain ⟨x53, hj54, hb40⟩ := bs hb40
              refine W.cutCode (fun fq wq => fq 0 = (Value.int .i64 n) ∧ fq 1 = (Value.int .i64 m) ∧ fq 2 = v_f1 ∧ fq 7 = (Value.int .i64 (k6 : Int)) ∧ fq 8 = (Value.int .i64 (k35 : Int)) ∧ fq 58 = Value.bool x53 ∧ St w wq []) ?_ ?_
              · refine W.region ?_
                refine WL.val v_f1 _ (op_move hf46) rfl ?_
                refine WL.val (Value.int .i64 (k6 : Int)) _ (op_move hf47) rfl ?_
                refine WL.val (Value.pointer (some (elA v_f1 ((k6 : Int)).toNat))) _ (op_idx sl_27 (Ty.lift _ hS50.ext r_f1) rfl rfl ha24 hb25) rfl ?_
                obtain ⟨u55, hc56, hr57⟩ := repSl.el r_f1 hx26
                refine WL.val u55 _ (op_load one_22 rfl (Ext.cell hS50.ext hc56)) rfl ?_
                refine WL.val (Value.int .i64 (k35 : Int)) _ (op_move hf48) rfl ?_
                obtain ⟨x58, hx61, hj54⟩ := bs hj54
                obtain ⟨ha59, hb60, hx61⟩ := idx_some hx61
                refine WL.val (Value.pointer (some (elA u55 ((k35 : Int)).toNat))) _ (op_idx sl_22 (Ty.lift _ hS50.ext hr57) rfl rfl ha59 hb60) rfl ?_
                obtain ⟨u62, hc63, hr64⟩ := repSl.el hr57 hx61
                obtain ⟨rfl, hr64⟩ := hr64
                refine WL.val (Value.int .i64 x58) _ (op_load one_2 rfl (Ext.cell hS50.ext hc63)) rfl ?_
                refine WL.val (Value.int .i64 m) _ (op_move hf45) rfl ?_
                refine WL.val (Value.int .i64 (w64 (m - (1 : Int)))) _ (op_sub rfl rfl) rfl ?_
                obtain ⟨x65, hx66, hj54⟩ := bs hj54
                refine WL.call _ (op_call fn_56 (args3 rfl rfl rfl)) (c_spec_l01In hr64 (inR_i64.2 (show (-9223372036854775808 : Int) ≤ 0 ∧ (0 : Int) ≤ 9223372036854775807 from by decide)) (inR_wrap _ _) hx66) rfl ?_
                rintro _ wd67 ⟨rfl, he68⟩
                have hS70 := St.extend hS50 he68
                replace hS70 : St w wd67 [] := hS70
                refine WL.val (Value.bool (!x65)) _ (op_not rfl) rfl ?_
                refine WL.val (Value.bool (!x65)) _ (op_move rfl) rfl ?_
                rcases Bool.eq_false_or_eq_true (!x65) with hc71 | hc71
                · replace hj54 := ip hj54 hc71
                  refine WL.gskip rfl (bool_of rfl hc71) rfl ?_
                  refine WL.gskip rfl (bool_of rfl hc71) rfl ?_
                  refine WL.gskip rfl (bool_of rfl hc71) rfl ?_
                  refine WL.gskipu rfl rfl rfl ?_
                  refine WL.gskipu rfl rfl rfl ?_
                  refine WL.gskip rfl (bool_of rfl hc71) rfl ?_
                  refine WL.gskip rfl (bool_of rfl hc71) rfl ?_
                  refine WL.gskipu rfl rfl rfl ?_
                  refine WL.gskipu rfl rfl rfl ?_
                  refine WL.gskipu rfl rfl rfl ?_
                  refine WL.gskipu rfl rfl rfl ?_
                  refine WL.gskipu rfl rfl rfl ?_
                  refine WL.gskipu rfl rfl rfl ?_
                  refine WL.gskipu rfl rfl rfl ?_
                  refine WL.gskipu rfl rfl rfl ?_
                  refine WL.gskip rfl (bool_of rfl hc71) rfl ?_
                  refine WL.val (Value.bool true) _ (op_pick_t (evb_of rfl hc71) rfl) rfl ?_
                  refine WL.nil ?_
                  obtain rfl := Option.some.inj hj54
                  exact ⟨hf44, hf45, hf46, hf47, hf48, rfl, hS70⟩
                · replace hj54 := inegb hj54 hc71
                  refine WL.grun rfl (bool_of rfl hc71) ?_
                  refine WL.val (Value.int .i64 (k6 : Int)) _ (op_move hf47) rfl ?_
                  refine WL.grun rfl (bool_of rfl hc71) ?_
                  refine WL.val (Value.bool ((k6 : Int) == (0 : Int))) _ (op_eql rfl rfl) rfl ?_
                  refine WL.grun rfl (bool_of rfl hc71) ?_
                  refine WL.val (Value.bool ((k6 : Int) == (0 : Int))) _ (op_move rfl) rfl ?_
                  rcases Bool.eq_false_or_eq_true ((k6 : Int) == (0 : Int)) with hc72 | hc72
                  · replace hj54 := ip hj54 hc72
                    refine WL.gskip rfl (bool_of rfl hc72) rfl ?_
                    refine WL.gskip rfl (bool_of rfl hc72) rfl ?_
                    refine WL.grun rfl (bool_of rfl hc71) ?_
                    refine WL.val (Value.bool true) _ (op_pick_t (evb_of rfl hc72) rfl) rfl ?_
                    refine WL.grun rfl (bool_of rfl hc71) ?_
                    refine WL.val (Value.bool true) _ (op_move rfl) rfl ?_
                    rcases Bool.eq_false_or_eq_true true with hc73 | hc73
                    · replace hj54 := ip hj54 hc73
                      refine WL.grun rfl (bool_of rfl hc73) ?_
                      refine WL.val v_f1 _ (op_move hf46) rfl ?_
                      refine WL.grun rfl (bool_of rfl hc73) ?_
                      refine WL.val (Value.int .i64 (k6 : Int)) _ (op_move hf47) rfl ?_
                      refine WL.grun rfl (bool_of rfl hc73) ?_
                      refine WL.val (Value.pointer (some (elA v_f1 ((k6 : Int)).toNat))) _ (op_idx sl_27 (Ty.lift _ hS70.ext r_f1) rfl rfl ha24 hb25) rfl ?_
                      refine WL.grun rfl (bool_of rfl hc73) ?_
                      obtain ⟨u74, hc75, hr76⟩ := repSl.el r_f1 hx26
                      refine WL.val u74 _ (op_load one_22 rfl (Ext.cell hS70.ext hc75)) rfl ?_
                      refine WL.grun rfl (bool_of rfl hc73) ?_
                      refine WL.val (Value.int .i64 (k35 : Int)) _ (op_move hf48) rfl ?_
                      refine WL.grun rfl (bool_of rfl hc73) ?_
                      refine WL.val (Value.pointer (some (elA u74 ((k35 : Int)).toNat))) _ (op_idx sl_22 (Ty.lift _ hS70.ext hr76) rfl rfl ha59 hb60) rfl ?_
                      refine WL.grun rfl (bool_of rfl hc73) ?_
                      obtain ⟨u77, hc78, hr79⟩ := repSl.el hr76 hx61
                      obtain ⟨rfl, hr79⟩ := hr79
                      refine WL.val (Value.int .i64 x58) _ (op_load one_2 rfl (Ext.cell hS70.ext hc78)) rfl ?_
                      refine WL.grun rfl (bool_of rfl hc73) ?_
                      refine WL.val (Value.bool (x58 != (0 : Int))) _ (op_neq rfl rfl) rfl ?_
                      refine WL.grun rfl (bool_of rfl hc71) ?_
                      refine WL.val (Value.bool (x58 != (0 : Int))) _ (op_pick_t (evb_of rfl hc73) rfl) rfl ?_
                      refine WL.val (Value.bool (x58 != (0 : Int))) _ (op_pick_f (evb_of rfl hc71) rfl) rfl ?_
                      refine WL.nil ?_
                      obtain rfl := Option.some.inj hj54
                      exact ⟨hf44, hf45, hf46, hf47, hf48, rfl, hS70⟩
                    · replace hj54 := inegb hj54 hc73
                      refine WL.gskip rfl (bool_of rfl hc73) rfl ?_
                      refine WL.gskip rfl (bool_of rfl hc73) rfl ?_
                      refine WL.gskip rfl (bool_of rfl hc73) rfl ?_
                      refine WL.gskip rfl (bool_of rfl hc73) rfl ?_
                      refine WL.gskip rfl (bool_of rfl hc73) rfl ?_
                      refine WL.gskip rfl (bool_of rfl hc73) rfl ?_
                      refine WL.gskip rfl (bool_of rfl hc73) rfl ?_
                      refine WL.gskip rfl (bool_of rfl hc73) rfl ?_
                      refine WL.grun rfl (bool_of rfl hc71) ?_
                      refine WL.val (Value.bool false) _ (op_pick_f (evb_of rfl hc73) rfl) rfl ?_
                      refine WL.val (Value.bool false) _ (op_pick_f (evb_of rfl hc71) rfl) rfl ?_
                      refine WL.nil ?_
                      obtain rfl := Option.some.inj hj54
                      exact ⟨hf44, hf45, hf46, hf47, hf48, rfl, hS70⟩
                  · replace hj54 := inegb hj54 hc72
                    refine WL.grun rfl (bool_of rfl hc72) ?_
                    refine WL.val (Value.int .i64 (k35 : Int)) _ (op_move hf48) rfl ?_
                    refine WL.grun rfl (bool_of rfl hc72) ?_
                    refine WL.val (Value.bool ((k35 : Int) == (0 : Int))) _ (op_eql rfl rfl) rfl ?_
                    refine WL.grun rfl (bool_of rfl hc71) ?_
                    refine WL.val (Value.bool ((k35 : Int) == (0 : Int))) _ (op_pick_f (evb_of rfl hc72) rfl) rfl ?_
                    refine WL.grun rfl (bool_of rfl hc71) ?_
                    refine WL.val (Value.bool ((k35 : Int) == (0 : Int))) _ (op_move rfl) rfl ?_
                    rcases Bool.eq_false_or_eq_true ((k35 : Int) == (0 : Int)) with hc80 | hc80
                    · replace hj54 := ip hj54 hc80
                      refine WL.grun rfl (bool_of rfl hc80) ?_
                      refine WL.val v_f1 _ (op_move hf46) rfl ?_
                      refine WL.grun rfl (bool_of rfl hc80) ?_
                      refine WL.val (Value.int .i64 (k6 : Int)) _ (op_move hf47) rfl ?_
                      refine WL.grun rfl (bool_of rfl hc80) ?_
                      refine WL.val (Value.pointer (some (elA v_f1 ((k6 : Int)).toNat))) _ (op_idx sl_27 (Ty.lift _ hS70.ext r_f1) rfl rfl ha24 hb25) rfl ?_
                      refine WL.grun rfl (bool_of rfl hc80) ?_
                      obtain ⟨u81, hc82, hr83⟩ := repSl.el r_f1 hx26
                      refine WL.val u81 _ (op_load one_22 rfl (Ext.cell hS70.ext hc82)) rfl ?_
                      refine WL.grun rfl (bool_of rfl hc80) ?_
                      refine WL.val (Value.int .i64 (k35 : Int)) _ (op_move hf48) rfl ?_
                      refine WL.grun rfl (bool_of rfl hc80) ?_
                      refine WL.val (Value.pointer (some (elA u81 ((k35 : Int)).toNat))) _ (op_idx sl_22 (Ty.lift _ hS70.ext hr83) rfl rfl ha59 hb60) rfl ?_
                      refine WL.grun rfl (bool_of rfl hc80) ?_
                      obtain ⟨u84, hc85, hr86⟩ := repSl.el hr83 hx61
                      obtain ⟨rfl, hr86⟩ := hr86
                      refine WL.val (Value.int .i64 x58) _ (op_load one_2 rfl (Ext.cell hS70.ext hc85)) rfl ?_
                      refine WL.grun rfl (bool_of rfl hc80) ?_
                      refine WL.val (Value.bool (x58 != (0 : Int))) _ (op_neq rfl rfl) rfl ?_
                      refine WL.grun rfl (bool_of rfl hc71) ?_
                      refine WL.val (Value.bool (x58 != (0 : Int))) _ (op_pick_t (evb_of rfl hc80) rfl) rfl ?_
                      refine WL.val (Value.bool (x58 != (0 : Int))) _ (op_pick_f (evb_of rfl hc71) rfl) rfl ?_
                      refine WL.nil ?_
                      obtain rfl := Option.some.inj hj54
                      exact ⟨hf44, hf45, hf46, hf47, hf48, rfl, hS70⟩
                    · replace hj54 := inegb hj54 hc80
                      refine WL.gskip rfl (bool_of rfl hc80) rfl ?_
                      refine WL.gskip rfl (bool_of rfl hc80) rfl ?_
                      refine WL.gskip rfl (bool_of rfl hc80) rfl ?_
                      refine WL.gskip rfl (bool_of rfl hc80) rfl ?_
                      refine WL.gskip rfl (bool_of rfl hc80) rfl ?_
                      refine WL.gskip rfl (bool_of rfl hc80) rfl ?_
                      refine WL.gskip rfl (bool_of rfl hc80) rfl ?_
                      refine WL.gskip rfl (bool_of rfl hc80) rfl ?_
                      refine WL.grun rfl (bool_of rfl hc71) ?_
                      refine WL.val (Value.bool false) _ (op_pick_f (evb_of rfl hc80) rfl) rfl ?_
                      refine WL.val (Value.bool false) _ (op_pick_f (evb_of rfl hc71) rfl) rfl ?_
                      refine WL.nil ?_
                      obtain rfl := Option.some.inj hj54
                      exact ⟨hf44, hf45, hf46, hf47, hf48, rfl, hS70⟩
              · intro f87 wd88 hq89
                obtain ⟨hf90, hf91, hf92, hf93, hf94, hf95, hS96⟩ := hq89
                show W _ _ _ _ _ _
                refine W.cond x53 hf95 (fun hc97 => ?_) (fun hc97 => ?_)
                · replace hb40 := ip hb40 hc97
                  refine W.seq (W.region ?_)
                  refine WL.val (Value.bool false) _ (op_assign rfl) rfl ?_
                  refine WL.nil ?_
                  show W _ _ _ _ _ _
                  refine W.ret ?_
                  obtain rfl := Option.some.inj hb40
                  obtain rfl := hret43 _ rfl
                  replace hb11 := onRes_ret hb11
                  obtain rfl := Option.some.inj hb11
                  obtain rfl := hret14 _ rfl
                  replace h := onRes_ret h
                  obtain rfl := Option.some.inj h
                  show FinP _ _ _ _ _ _ _
                  exact FinP.ret _ (res1 rfl rfl) ⟨rfl, hS96.ext⟩
                · replace hb40 := inegb hb40 hc97
                  refine W.skip ?_
                  show W _ _ _ _ _ _
                  refine W.region ?_
                  refine WL.val (Value.int .i64 (k35 : Int)) _ (op_move hf94) rfl ?_
                  refine WL.val (Value.int .i64 (w64 ((k35 : Int) + (1 : Int)))) _ (op_add rfl rfl) rfl ?_
                  refine WL.val (Value.int .i64 (w64 ((k35 : Int) + (1 : Int)))) _ (op_assign rfl) rfl ?_
                  refine WL.nil ?_
                  obtain rfl := Option.some.inj hb40
                  show ∃ s, _ = Ctl.next s ∧ _
                  exact ⟨_, rfl, hf90, hf91, hf92, hf93, (ctr_next hl51 r_n), (ctr_rng hl51 r_n), hS96⟩
            · intro s104 f100 wd101 hs102 hI103
              obtain ⟨⟩ := s104
              replace hI103 : f100 0 = (Value.int .i64 n) ∧ f100 1 = (Value.int .i64 m) ∧ f100 2 = v_f1 ∧ f100 7 = (Value.int .i64 (k6 : Int)) ∧ f100 8 = Value.int .i64 (((n).toNat : Nat) : Int) ∧ InR .i64 (((n).toNat : Nat) : Int) ∧ St w wd101 [] := hI103
              obtain ⟨hf105, hf106, hf107, hf108, hf109, hr110, hS111⟩ := hI103
              refine W.seq (W.seq (W.region ?_))
              refine WL.val (Value.int .i64 (((n).toNat : Nat) : Int)) _ (op_move hf109) rfl ?_
              refine WL.val (Value.int .i64 n) _ (op_move hf105) rfl ?_
              refine WL.val (Value.bool (decide ((((n).toNat : Nat) : Int) < n))) _ (op_lss rfl rfl) rfl ?_
              have hl112 : ¬ (((n).toNat : Nat) : Int) < n := by omega
              refine WL.nil ?_
              show W _ _ _ _ _ _
              refine W.condF (decide ((((n).toNat : Nat) : Int) < n)) rfl (decide_eq_false hl112) ?_
              refine W.exit ?_
              show _ = _ ∧ _
              exact ⟨rfl, _, hs102, hf105, hf106, hf107, hf108, hS111⟩
          · rintro f113 wd114 ⟨s116, rfl, hq115⟩
            replace hb11 := onRes_fin hb11
            obtain ⟨⟩ := s116
            replace hq115 : f113 0 = (Value.int .i64 n) ∧ f113 1 = (Value.int .i64 m) ∧ f113 2 = v_f1 ∧ f113 7 = (Value.int .i64 (k6 : Int)) ∧ St w wd114 [] := hq115
            obtain ⟨hf117, hf118, hf119, hf120, hS121⟩ := hq115
            show W _ _ _ _ _ _
            refine W.region ?_
            refine WL.val (Value.int .i64 (k6 : Int)) _ (op_move hf120) rfl ?_
            refine WL.val (Value.int .i64 (w64 ((k6 : Int) + (1 : Int)))) _ (op_add rfl rfl) rfl ?_
            refine WL.val (Value.int .i64 (w64 ((k6 : Int) + (1 : Int)))) _ (op_assign rfl) rfl ?_
            refine WL.nil ?_
            obtain rfl := Option.some.inj hb11
            show ∃ s, _ = Ctl.next s ∧ _
            exact ⟨_, rfl, hf117, hf118, hf119, (ctr_next hl21 r_n), (ctr_rng hl21 r_n), hS121⟩
      · intro s128 f124 wd125 hs126 hI127
        obtain ⟨⟩ := s128
        replace hI127 : f124 0 = (Value.int .i64 n) ∧ f124 1 = (Value.int .i64 m) ∧ f124 2 = v_f1 ∧ f124 7 = Value.int .i64 (((n).toNat : Nat) : Int) ∧ InR .i64 (((n).toNat : Nat) : Int) ∧ St w wd125 [] := hI127
        obtain ⟨hf129, hf130, hf131, hf132, hr133, hS134⟩ := hI127
        refine W.seq (W.seq (W.region ?_))
        refine WL.val (Value.int .i64 (((n).toNat : Nat) : Int)) _ (op_move hf132) rfl ?_
        refine WL.val (Value.int .i64 n) _ (op_move hf129) rfl ?_
        refine WL.val (Value.bool (decide ((((n).toNat : Nat) : Int) < n))) _ (op_lss rfl rfl) rfl ?_
        have hl135 : ¬ (((n).toNat : Nat) : Int) < n := by omega
        refine WL.nil ?_
        show W _ _ _ _ _ _
        refine W.condF (decide ((((n).toNat : Nat) : Int) < n)) rfl (decide_eq_false hl135) ?_
        refine W.exit ?_
        show _ = _ ∧ _
        exact ⟨rfl, _, hs126, hS134⟩
    · rintro f136 wd137 ⟨s139, rfl, hq138⟩
      replace h := onRes_fin h
      obtain ⟨⟩ := s139
      replace hq138 : St w wd137 [] := hq138
      have hS140 := hq138
      show W _ _ _ _ _ _
      refine W.seq (W.region ?_)
      refine WL.val (Value.bool true) _ (op_assign rfl) rfl ?_
      refine WL.nil ?_
      show W _ _ _ _ _ _
      refine W.ret ?_
      obtain rfl := Option.some.inj h
      show FinP _ _ _ _ _ _ _
      exact FinP.ret _ (res1 rfl rfl) ⟨rfl, hS140.ext⟩

theorem c_impl_isPairing {w : World} {f1 : (List (List Int))} {v_f1 : Value} {n : Int} {m : Int} (r_f1 : (Ty.sl (Ty.sl (Ty.i .i64))).rep w v_f1 f1) (r_n : InR .i64 n) (r_m : InR .i64 m) {res : Bool} (h : p_impl_isPairing f1 n m  = some res) :
    Ret Try.prog 71 #[v_f1, (Value.int .i64 n), (Value.int .i64 m)] w (fun v w' => v = Value.bool res ∧ Ext w w') := by
  unfold p_impl_isPairing at h
  have hS0 : St w w [] := St.start w
  refine Ret.start (fn := Try.f71) Try.func71 rfl 35 rfl rfl ?_
  refine W.seq (W.region ?_)
  refine WL.val (Value.bool false) _ (op_assign rfl) rfl ?_
  refine WL.nil ?_
  show W _ _ _ _ _ _
  refine W.seq (W.seq (W.region ?_))
  refine WL.val v_f1 _ (op_move rfl) rfl ?_
  refine WL.val (Value.int .i64 n) _ (op_move rfl) rfl ?_
  refine WL.val (Value.int .i64 m) _ (op_move rfl) rfl ?_
  obtain ⟨x1, hx2, h⟩ := bs h
  refine WL.call _ (op_call fn_93 (args3 rfl rfl rfl)) (c_impl_isGrid (Ty.lift _ hS0.ext r_f1) r_n r_m hx2) rfl ?_
  rintro _ wd3 ⟨rfl, he4⟩
  have hS6 := St.extend hS0 he4
  replace hS6 : St w wd3 [] := hS6
  refine WL.val (Value.bool (!x1)) _ (op_not rfl) rfl ?_
  refine WL.nil ?_
  show W _ _ _ _ _ _
  refine W.cond (!x1) rfl (fun hc7 => ?_) (fun hc7 => ?_)
  · replace h := ip h hc7
    refine W.seq (W.region ?_)
    refine WL.val (Value.bool false) _ (op_assign rfl) rfl ?_
    refine WL.nil ?_
    show W _ _ _ _ _ _
    refine W.ret ?_
    obtain rfl := Option.some.inj h
    show FinP _ _ _ _ _ _ _
    exact FinP.ret _ (res1 rfl rfl) ⟨rfl, hS6.ext⟩
  · replace h := inegb h hc7
    refine W.skip ?_
    show W _ _ _ _ _ _
    refine W.seq (W.seq (W.region ?_))
    refine WL.val v_f1 _ (op_move rfl) rfl ?_
    have hr9 := inR_len (Ty.lift _ hS6.ext r_f1)
    refine WL.val (Value.int .i64 ((f1).length : Int)) _ (op_lenL sl_27 (Ty.lift _ hS6.ext r_f1) rfl) rfl ?_
    refine WL.val (Value.int .i64 (0 : Int)) _ (op_move rfl) rfl ?_
    refine WL.nil ?_
    show W _ _ _ _ _ _
    obtain ⟨res10, hres11, h⟩ := bs h
    refine W.blockLoop (fun fq wq => ∃ s, res10 = Res.fin s ∧ St w wq []) ?_ ?_
    · refine W.forN (fun k (s : Unit) fq wq => fq 0 = v_f1 ∧ fq 14 = (Value.int .i64 ((f1).length : Int)) ∧ fq 15 = Value.int .i64 (k : Int) ∧ InR .i64 (k : Int) ∧ St w wq []) hres11 ⟨rfl, rfl, rfl, (inR_i64.2 (show (-9223372036854775808 : Int) ≤ 0 ∧ (0 : Int) ≤ 9223372036854775807 from by decide)), hS6⟩ ?_ ?_
      · intro k12 s69 ct13 f14 wd15 hk16 hb17 hI18 hbrk19 hret20
        obtain ⟨⟩ := s69
        replace hI18 : f14 0 = v_f1 ∧ f14 14 = (Value.int .i64 ((f1).length : Int)) ∧ f14 15 = Value.int .i64 (k12 : Int) ∧ InR .i64 (k12 : Int) ∧ St w wd15 [] := hI18
        replace hb17 : p_impl_isPairing_L1 f1 k12  = some ct13 := hb17
        unfold p_impl_isPairing_L1 at hb17
        obtain ⟨hf21, hf22, hf23, hr24, hS25⟩ := hI18
        refine W.seq (W.region ?_)
        refine WL.val (Value.bool (decide ((k12 : Int) < ((f1).length : Int)))) _ (op_lss hf23 hf22) rfl ?_
        have hl26 : (k12 : Int) < ((f1).length : Int) := by omega
        refine WL.nil ?_
        show W _ _ _ _ _ _
        refine W.seq ?_
        refine W.condT (decide ((k12 : Int) < ((f1).length : Int))) rfl (decide_eq_true hl26) ?_
        refine W.skip ?_
        show W _ _ _ _ _ _
        refine W.seq ?_
        refine W.block ?_
        refine W.seq (W.region ?_)
        refine WL.val (Value.int .i64 (k12 : Int)) _ (op_move hf23) rfl ?_
        refine WL.val (Value.int .i64 (k12 : Int)) _ (op_assign rfl) rfl ?_
        refine WL.nil ?_
        show W _ _ _ _ _ _
        refine W.seq (W.region ?_)
        refine WL.val v_f1 _ (op_move hf21) rfl ?_
        obtain ⟨x28, hx31, hb17⟩ := bs hb17
        obtain ⟨ha29, hb30, hx31⟩ := idx_some hx31
        refine WL.val (Value.pointer (some (elA v_f1 ((0 : Int)).toNat))) _ (op_idx sl_27 (Ty.lift _ hS25.ext r_f1) rfl rfl ha29 hb30) rfl ?_
        obtain ⟨u32, hc33, hr34⟩ := repSl.el r_f1 hx31
        refine WL.val u32 _ (op_load one_22 rfl (Ext.cell hS25.ext hc33)) rfl ?_
        refine WL.val (Value.int .i64 (k12 : Int)) _ (op_move rfl) rfl ?_
        obtain ⟨x35, hx38, hb17⟩ := bs hb17
        obtain ⟨ha36, hb37, hx38⟩ := idx_some hx38
        refine WL.val (Value.pointer (some (elA u32 ((k12 : Int)).toNat))) _ (op_idx sl_22 (Ty.lift _ hS25.ext hr34) rfl rfl ha36 hb37) rfl ?_
        obtain ⟨u39, hc40, hr41⟩ := repSl.el hr34 hx38
        obtain ⟨rfl, hr41⟩ := hr41
        refine WL.val (Value.int .i64 x35) _ (op_load one_2 rfl (Ext.cell hS25.ext hc40)) rfl ?_
        refine WL.val (Value.bool (x35 != (0 : Int))) _ (op_neq rfl rfl) rfl ?_
        refine WL.val (Value.bool (x35 != (0 : Int))) _ (op_move rfl) rfl ?_
        obtain ⟨x43, hj44, hb17⟩ := bs hb17
        refine WL.cut 8 (fun fq wq => fq 0 = v_f1 ∧ fq 14 = (Value.int .i64 ((f1).length : Int)) ∧ fq 15 = (Value.int .i64 (k12 : Int)) ∧ fq 33 = Value.bool x43 ∧ St w wq []) ?_ ?_
        · rcases Bool.eq_false_or_eq_true (x35 != (0 : Int)) with hc42 | hc42
          · replace hj44 := ip hj44 hc42
            refine WL.gskip rfl (bool_of rfl hc42) rfl ?_
            refine WL.gskip rfl (bool_of rfl hc42) rfl ?_
            refine WL.gskip rfl (bool_of rfl hc42) rfl ?_
            refine WL.gskip rfl (bool_of rfl hc42) rfl ?_
            refine WL.gskip rfl (bool_of rfl hc42) rfl ?_
            refine WL.gskip rfl (bool_of rfl hc42) rfl ?_
            refine WL.gskip rfl (bool_of rfl hc42) rfl ?_
            refine WL.val (Value.bool true) _ (op_pick_t (evb_of rfl hc42) rfl) rfl ?_
            refine WL.nil ?_
            obtain rfl := Option.some.inj hj44
            exact ⟨rfl, hf21, hf22, hf23, rfl, hS25⟩
          · replace hj44 := inegb hj44 hc42
            refine WL.grun rfl (bool_of rfl hc42) ?_
            refine WL.val v_f1 _ (op_move hf21) rfl ?_
            refine WL.grun rfl (bool_of rfl hc42) ?_
            refine WL.val (Value.int .i64 (k12 : Int)) _ (op_move rfl) rfl ?_
            refine WL.grun rfl (bool_of rfl hc42) ?_
            obtain ⟨x48, hx51, hj44⟩ := bs hj44
            obtain ⟨ha49, hb50, hx51⟩ := idx_some hx51
            refine WL.val (Value.pointer (some (elA v_f1 ((k12 : Int)).toNat))) _ (op_idx sl_27 (Ty.lift _ hS25.ext r_f1) rfl rfl ha49 hb50) rfl ?_
            refine WL.grun rfl (bool_of rfl hc42) ?_
            obtain ⟨u52, hc53, hr54⟩ := repSl.el r_f1 hx51
            refine WL.val u52 _ (op_load one_22 rfl (Ext.cell hS25.ext hc53)) rfl ?_
            refine WL.grun rfl (bool_of rfl hc42) ?_
            obtain ⟨x55, hx58, hj44⟩ := bs hj44
            obtain ⟨ha56, hb57, hx58⟩ := idx_some hx58
            refine WL.val (Value.pointer (some (elA u52 ((0 : Int)).toNat))) _ (op_idx sl_22 (Ty.lift _ hS25.ext hr54) rfl rfl ha56 hb57) rfl ?_
            refine WL.grun rfl (bool_of rfl hc42) ?_
            obtain ⟨u59, hc60, hr61⟩ := repSl.el hr54 hx58
            obtain ⟨rfl, hr61⟩ := hr61
            refine WL.val (Value.int .i64 x55) _ (op_load one_2 rfl (Ext.cell hS25.ext hc60)) rfl ?_
            refine WL.grun rfl (bool_of rfl hc42) ?_
            refine WL.val (Value.bool (x55 != (0 : Int))) _ (op_neq rfl rfl) rfl ?_
            refine WL.val (Value.bool (x55 != (0 : Int))) _ (op_pick_f (evb_of rfl hc42) rfl) rfl ?_
            refine WL.nil ?_
            obtain rfl := Option.some.inj hj44
            exact ⟨rfl, hf21, hf22, hf23, rfl, hS25⟩
        · intro f45 wd46 hq47
          obtain ⟨hf62, hf63, hf64, hf65, hS66⟩ := hq47
          refine WL.nil ?_
          show W _ _ _ _ _ _
          refine W.cond x43 hf65 (fun hc67 => ?_) (fun hc67 => ?_)
          · replace hb17 := ip hb17 hc67
            refine W.seq (W.region ?_)
            refine WL.val (Value.bool false) _ (op_assign rfl) rfl ?_
            refine WL.nil ?_
            show W _ _ _ _ _ _
            refine W.ret ?_
            obtain rfl := Option.some.inj hb17
            obtain rfl := hret20 _ rfl
            replace h := onRes_ret h
            obtain rfl := Option.some.inj h
            show FinP _ _ _ _ _ _ _
            exact FinP.ret _ (res1 rfl rfl) ⟨rfl, hS66.ext⟩
          · replace hb17 := inegb hb17 hc67
            refine W.skip ?_
            show W _ _ _ _ _ _
            refine W.region ?_
            refine WL.val (Value.int .i64 (w64 ((k12 : Int) + (1 : Int)))) _ (op_add hf64 rfl) rfl ?_
            refine WL.val (Value.int .i64 (w64 ((k12 : Int) + (1 : Int)))) _ (op_move rfl) rfl ?_
            refine WL.nil ?_
            obtain rfl := Option.some.inj hb17
            show ∃ s, _ = Ctl.next s ∧ _
            exact ⟨_, rfl, hf62, hf63, (ctr_next hl26 hr9), (ctr_rng hl26 hr9), hS66⟩
      · intro s74 f70 wd71 hs72 hI73
        obtain ⟨⟩ := s74
        replace hI73 : f70 0 = v_f1 ∧ f70 14 = (Value.int .i64 ((f1).length : Int)) ∧ f70 15 = Value.int .i64 (((f1).length : Nat) : Int) ∧ InR .i64 (((f1).length : Nat) : Int) ∧ St w wd71 [] := hI73
        obtain ⟨hf75, hf76, hf77, hr78, hS79⟩ := hI73
        refine W.seq (W.region ?_)
        refine WL.val (Value.bool (decide ((((f1).length : Nat) : Int) < ((f1).length : Int)))) _ (op_lss hf77 hf76) rfl ?_
        have hl80 : ¬ (((f1).length : Nat) : Int) < ((f1).length : Int) := by omega
        refine WL.nil ?_
        show W _ _ _ _ _ _
        refine W.seq ?_
        refine W.condF (decide ((((f1).length : Nat) : Int) < ((f1).length : Int))) rfl (decide_eq_false hl80) ?_
        refine W.exit ?_
        show _ = _ ∧ _
        exact ⟨rfl, _, hs72, hS79⟩
    · rintro f81 wd82 ⟨s84, rfl, hq83⟩
      replace h := onRes_fin h
      obtain ⟨⟩ := s84
      replace hq83 : St w wd82 [] := hq83
      have hS85 := hq83
      show W _ _ _ _ _ _
      refine W.seq (W.region ?_)
      refine WL.val (Value.bool true) _ (op_assign rfl) rfl ?_
      refine WL.nil ?_
      show W _ _ _ _ _ _
      refine W.ret ?_
      obtain rfl := Option.some.inj h
      show FinP _ _ _ _ _ _ _
      exact FinP.ret _ (res1 rfl rfl) ⟨rfl, hS85.ext⟩

end Go.VG
