/- The walks, part 4: each Go function returns what its plain twin returns. No condition beyond what each names. -/
import Derived.Test.YtclffgakhkhglaaGWalk3
set_option linter.all false
namespace Go.VG
open Go.Proofs
attribute [local irreducible] W WL Sep FinP

theorem c_impl_zeros {w : World} {rows : Int} {columns : Int} (r_rows : InR .i64 rows) (r_columns : InR .i64 columns) {res : (List (List Int))} (h : p_impl_zeros rows columns  = some res) :
    Ret Try.prog 80 #[(Value.int .i64 rows), (Value.int .i64 columns)] w (fun v w' => ∃ (u0 : Value), v = u0 ∧ Ext w w' ∧ Sep w.heap.size w' [(Ty.sl (Ty.sl (Ty.i .i64))).at u0 res]) := by
  unfold p_impl_zeros at h
  have hS0 : St w w [] := St.start w
  refine Ret.start (fn := Try.f80) Try.func80 rfl 17 rfl rfl ?_
  refine W.seq (W.region ?_)
  refine WL.val (Value.slice none 0 0) _ (op_assign rfl) rfl ?_
  refine WL.nil ?_
  show W _ _ _ _ _ _
  refine W.seq (W.region ?_)
  refine WL.lit0 (t := (Ty.sl (Ty.i .i64))) hS0 sl_65 rfl rfl ?_
  intro u1 wd2 hS3 he4
  replace hS3 : St w wd2 [(Ty.sl (Ty.sl (Ty.i .i64))).at u1 ([] : (List (List Int)))] := hS3
  refine WL.val u1 _ (op_assign rfl) rfl ?_
  refine WL.nil ?_
  show W _ _ _ _ _ _
  refine W.seq (W.seq (W.region ?_))
  refine WL.val (Value.int .i64 rows) _ (op_move rfl) rfl ?_
  refine WL.val (Value.int .i64 (0 : Int)) _ (op_move rfl) rfl ?_
  refine WL.nil ?_
  show W _ _ _ _ _ _
  obtain ⟨res5, hres6, h⟩ := bs h
  refine W.blockLoop (fun fq wq => ∃ s, res5 = Res.fin s ∧ ∃ (uu0 : Value), fq 5 = uu0 ∧ St w wq [(Ty.sl (Ty.sl (Ty.i .i64))).at uu0 s]) ?_ ?_
  · refine W.forN (fun k (s : (List (List Int))) fq wq => ∃ (uu0 : Value), fq 1 = (Value.int .i64 columns) ∧ fq 5 = uu0 ∧ fq 7 = (Value.int .i64 rows) ∧ fq 8 = Value.int .i64 (k : Int) ∧ InR .i64 (k : Int) ∧ St w wq [(Ty.sl (Ty.sl (Ty.i .i64))).at uu0 s]) hres6 ⟨u1, rfl, rfl, rfl, rfl, (inR_i64.2 (show (-9223372036854775808 : Int) ≤ 0 ∧ (0 : Int) ≤ 9223372036854775807 from by decide)), hS3⟩ ?_ ?_
    · intro k7 x8 ct9 f10 wd11 hk12 hb13 hI14 hbrk15 hret16
      replace hI14 : ∃ (uu0 : Value), f10 1 = (Value.int .i64 columns) ∧ f10 5 = uu0 ∧ f10 7 = (Value.int .i64 rows) ∧ f10 8 = Value.int .i64 (k7 : Int) ∧ InR .i64 (k7 : Int) ∧ St w wd11 [(Ty.sl (Ty.sl (Ty.i .i64))).at uu0 x8] := hI14
      replace hb13 : p_impl_zeros_L1 columns k7 x8 = some ct9 := hb13
      unfold p_impl_zeros_L1 at hb13
      obtain ⟨u17, hf18, hf19, hf20, hf21, hr22, hS23⟩ := hI14
      refine W.seq (W.region ?_)
      refine WL.val (Value.bool (decide ((k7 : Int) < rows))) _ (op_lss hf21 hf20) rfl ?_
      have hl24 : (k7 : Int) < rows := by omega
      refine WL.nil ?_
      show W _ _ _ _ _ _
      refine W.seq ?_
      refine W.condT (decide ((k7 : Int) < rows)) rfl (decide_eq_true hl24) ?_
      refine W.skip ?_
      show W _ _ _ _ _ _
      refine W.seq ?_
      refine W.block ?_
      refine W.region ?_
      refine WL.val u17 _ (op_move hf19) rfl ?_
      refine WL.val (Value.int .i64 columns) _ (op_move hf18) rfl ?_
      obtain ⟨x26, hx27, hb13⟩ := bs hb13
      refine WL.make (t := (Ty.i .i64)) hS23 sl_25 (fun _ _ => ⟨rfl, (inR_i64.2 (show (-9223372036854775808 : Int) ≤ 0 ∧ (0 : Int) ≤ 9223372036854775807 from by decide))⟩) rfl rfl hx27 rfl rfl ?_
      intro u28 wd29 hS30 he31
      replace hS30 : St w wd29 [(Ty.sl (Ty.sl (Ty.i .i64))).at u17 x8, (Ty.sl (Ty.i .i64)).at u28 x26] := hS30
      refine WL.lit [u28] hS30 sl_65 rfl rfl (fillL rfl ⟨rfl, rfl, (cells_rep (St.rep (t := (Ty.sl (Ty.i .i64))) hS30 1 rfl)), trivial⟩) rfl rfl ?_
      intro b36 wd33 hS34 he35 hx37
      replace hS34 : St w wd33 [(Ty.sl (Ty.sl (Ty.i .i64))).at u17 x8, (Ty.sl (Ty.i .i64)).at u28 x26, bx b36 [u28]] := hS34
      obtain ⟨x38, hx39, hb13⟩ := bs hb13
      refine WL.appendRow hS34 (k := 0) (k2 := 1) (k3 := 2) rfl rfl rfl rfl sl_65 rfl rfl rfl rfl hx39 rfl ?_
      intro u40 wd41 hS42 hz43
      replace hS42 : St w wd41 [(Ty.sl (Ty.sl (Ty.i .i64))).at u40 x38, emp, bx b36 [u28]] := hS42
      refine WL.val u40 _ (op_assign rfl) rfl ?_
      refine WL.nil ?_
      show W _ _ _ _ _ _
      refine W.region ?_
      refine WL.val (Value.int .i64 (w64 ((k7 : Int) + (1 : Int)))) _ (op_add hf21 rfl) rfl ?_
      refine WL.val (Value.int .i64 (w64 ((k7 : Int) + (1 : Int)))) _ (op_move rfl) rfl ?_
      refine WL.nil ?_
      obtain rfl := Option.some.inj hb13
      show ∃ s, _ = Ctl.next s ∧ _
      exact ⟨_, rfl, u40, hf18, rfl, hf20, (ctr_next hl24 r_rows), (ctr_rng hl24 r_rows), (St.pick hS42 [0] rfl)⟩
    · intro x50 f45 wd46 hs47 hI48
      replace hI48 : ∃ (uu0 : Value), f45 1 = (Value.int .i64 columns) ∧ f45 5 = uu0 ∧ f45 7 = (Value.int .i64 rows) ∧ f45 8 = Value.int .i64 (((rows).toNat : Nat) : Int) ∧ InR .i64 (((rows).toNat : Nat) : Int) ∧ St w wd46 [(Ty.sl (Ty.sl (Ty.i .i64))).at uu0 x50] := hI48
      obtain ⟨u51, hf52, hf53, hf54, hf55, hr56, hS57⟩ := hI48
      refine W.seq (W.region ?_)
      refine WL.val (Value.bool (decide ((((rows).toNat : Nat) : Int) < rows))) _ (op_lss hf55 hf54) rfl ?_
      have hl58 : ¬ (((rows).toNat : Nat) : Int) < rows := by omega
      refine WL.nil ?_
      show W _ _ _ _ _ _
      refine W.seq ?_
      refine W.condF (decide ((((rows).toNat : Nat) : Int) < rows)) rfl (decide_eq_false hl58) ?_
      refine W.exit ?_
      show _ = _ ∧ _
      exact ⟨rfl, _, hs47, u51, hf53, hS57⟩
  · rintro f59 wd60 ⟨x63, rfl, hq61⟩
    replace h := onRes_fin h
    replace hq61 : ∃ (uu0 : Value), f59 5 = uu0 ∧ St w wd60 [(Ty.sl (Ty.sl (Ty.i .i64))).at uu0 x63] := hq61
    obtain ⟨u64, hf65, hS66⟩ := hq61
    show W _ _ _ _ _ _
    refine W.seq (W.region ?_)
    refine WL.val u64 _ (op_move hf65) rfl ?_
    refine WL.val u64 _ (op_assign rfl) rfl ?_
    refine WL.nil ?_
    show W _ _ _ _ _ _
    refine W.ret ?_
    obtain rfl := Option.some.inj h
    show FinP _ _ _ _ _ _ _
    exact FinP.ret _ (res1 rfl rfl) ⟨u64, rfl, hS66.ext, (St.out (St.pick hS66 [0] rfl) (Ext.refl _))⟩

theorem c_impl_unitMatrix {w : World} {n : Int} {number : Int} (r_n : InR .i64 n) (r_number : InR .i64 number) {res : (List (List Int))} (h : p_impl_unitMatrix n number  = some res) :
    Ret Try.prog 53 #[(Value.int .i64 n), (Value.int .i64 number)] w (fun v w' => ∃ (u0 : Value), v = u0 ∧ Ext w w' ∧ Sep w.heap.size w' [(Ty.sl (Ty.sl (Ty.i .i64))).at u0 res]) := by
  unfold p_impl_unitMatrix at h
  have hS0 : St w w [] := St.start w
  refine Ret.start (fn := Try.f53) Try.func53 rfl 23 rfl rfl ?_
  refine W.seq (W.region ?_)
  refine WL.val (Value.slice none 0 0) _ (op_assign rfl) rfl ?_
  refine WL.nil ?_
  show W _ _ _ _ _ _
  refine W.seq (W.region ?_)
  refine WL.val (Value.int .i64 n) _ (op_move rfl) rfl ?_
  refine WL.val (Value.int .i64 n) _ (op_move rfl) rfl ?_
  obtain ⟨x1, hx2, h⟩ := bs h
  refine WL.call _ (op_call fn_80 (args2 rfl rfl)) (c_impl_zeros r_n r_n hx2) rfl ?_
  rintro u3 wd4 ⟨_, rfl, he5, hs6⟩
  have hS7 := St.join hS0 he5 hs6
  replace hS7 : St w wd4 [(Ty.sl (Ty.sl (Ty.i .i64))).at u3 x1] := hS7
  refine WL.val u3 _ (op_assign rfl) rfl ?_
  refine WL.nil ?_
  show W _ _ _ _ _ _
  refine W.seq (W.seq (W.region ?_))
  refine WL.val (Value.int .i64 n) _ (op_move rfl) rfl ?_
  refine WL.val (Value.int .i64 (0 : Int)) _ (op_move rfl) rfl ?_
  refine WL.nil ?_
  show W _ _ _ _ _ _
  obtain ⟨res8, hres9, h⟩ := bs h
  refine W.blockLoop (fun fq wq => ∃ s, res8 = Res.fin s ∧ fq 5 = u3 ∧ St w wq [(Ty.sl (Ty.sl (Ty.i .i64))).at u3 s]) ?_ ?_
  · refine W.forN (fun k (s : (List (List Int))) fq wq => fq 1 = (Value.int .i64 number) ∧ fq 5 = u3 ∧ fq 10 = (Value.int .i64 n) ∧ fq 11 = Value.int .i64 (k : Int) ∧ InR .i64 (k : Int) ∧ St w wq [(Ty.sl (Ty.sl (Ty.i .i64))).at u3 s]) hres9 ⟨rfl, rfl, rfl, rfl, (inR_i64.2 (show (-9223372036854775808 : Int) ≤ 0 ∧ (0 : Int) ≤ 9223372036854775807 from by decide)), hS7⟩ ?_ ?_
    · intro k10 x11 ct12 f13 wd14 hk15 hb16 hI17 hbrk18 hret19
      replace hI17 : f13 1 = (Value.int .i64 number) ∧ f13 5 = u3 ∧ f13 10 = (Value.int .i64 n) ∧ f13 11 = Value.int .i64 (k10 : Int) ∧ InR .i64 (k10 : Int) ∧ St w wd14 [(Ty.sl (Ty.sl (Ty.i .i64))).at u3 x11] := hI17
      replace hb16 : p_impl_unitMatrix_L1 number k10 x11 = some ct12 := hb16
      unfold p_impl_unitMatrix_L1 at hb16
      obtain ⟨hf20, hf21, hf22, hf23, hr24, hS25⟩ := hI17
      refine W.seq (W.region ?_)
      refine WL.val (Value.bool (decide ((k10 : Int) < n))) _ (op_lss hf23 hf22) rfl ?_
      have hl26 : (k10 : Int) < n := by omega
      refine WL.nil ?_
      show W _ _ _ _ _ _
      refine W.seq ?_
      refine W.condT (decide ((k10 : Int) < n)) rfl (decide_eq_true hl26) ?_
      refine W.skip ?_
      show W _ _ _ _ _ _
      refine W.seq ?_
      refine W.block ?_
      refine W.seq (W.region ?_)
      refine WL.val (Value.int .i64 (k10 : Int)) _ (op_move hf23) rfl ?_
      refine WL.val (Value.int .i64 (k10 : Int)) _ (op_assign rfl) rfl ?_
      refine WL.nil ?_
      show W _ _ _ _ _ _
      refine W.region ?_
      refine WL.val u3 _ (op_move hf21) rfl ?_
      refine WL.val (Value.int .i64 (k10 : Int)) _ (op_move rfl) rfl ?_
      obtain ⟨x28, hx31, hb16⟩ := bs hb16
      obtain ⟨ha29, hb30, hx31⟩ := idx_some hx31
      refine WL.val (Value.pointer (some (elA u3 ((k10 : Int)).toNat))) _ (op_idx sl_65 (St.rep (t := (Ty.sl (Ty.sl (Ty.i .i64)))) hS25 0 rfl) rfl rfl ha29 hb30) rfl ?_
      obtain ⟨u32, hc33, hr34⟩ := repSl.el (St.rep (t := (Ty.sl (Ty.sl (Ty.i .i64)))) hS25 0 rfl) hx31
      refine WL.val u32 _ (op_load one_25 rfl hc33) rfl ?_
      refine WL.val (Value.int .i64 (k10 : Int)) _ (op_move rfl) rfl ?_
      refine WL.val (Value.int .i64 number) _ (op_move hf20) rfl ?_
      obtain ⟨x35, hx38, hb16⟩ := bs hb16
      obtain ⟨ha36, hb37, hx38⟩ := idx_some hx38
      refine WL.val (Value.pointer (some (elA u32 ((k10 : Int)).toNat))) _ (op_idx sl_25 hr34 rfl rfl ha36 hb37) rfl ?_
      refine WL.storeEl2 (flat_i .i64) hS25 (k := 0) rfl sz_2 hx31 hc33 rfl rfl (lt_of_idx ha36 hb37) ⟨rfl, r_number⟩ ?_
      intro wd39 hS40
      replace hS40 : St w wd39 [(Ty.sl (Ty.sl (Ty.i .i64))).at u3 ((x11).set ((k10 : Int)).toNat ((x28).set ((k10 : Int)).toNat number))] := hS40
      refine WL.nil ?_
      show W _ _ _ _ _ _
      refine W.region ?_
      refine WL.val (Value.int .i64 (w64 ((k10 : Int) + (1 : Int)))) _ (op_add hf23 rfl) rfl ?_
      refine WL.val (Value.int .i64 (w64 ((k10 : Int) + (1 : Int)))) _ (op_move rfl) rfl ?_
      refine WL.nil ?_
      obtain rfl := Option.some.inj hb16
      show ∃ s, _ = Ctl.next s ∧ _
      exact ⟨_, rfl, hf20, hf21, hf22, (ctr_next hl26 r_n), (ctr_rng hl26 r_n), hS40⟩
    · intro x47 f42 wd43 hs44 hI45
      replace hI45 : f42 1 = (Value.int .i64 number) ∧ f42 5 = u3 ∧ f42 10 = (Value.int .i64 n) ∧ f42 11 = Value.int .i64 (((n).toNat : Nat) : Int) ∧ InR .i64 (((n).toNat : Nat) : Int) ∧ St w wd43 [(Ty.sl (Ty.sl (Ty.i .i64))).at u3 x47] := hI45
      obtain ⟨hf48, hf49, hf50, hf51, hr52, hS53⟩ := hI45
      refine W.seq (W.region ?_)
      refine WL.val (Value.bool (decide ((((n).toNat : Nat) : Int) < n))) _ (op_lss hf51 hf50) rfl ?_
      have hl54 : ¬ (((n).toNat : Nat) : Int) < n := by omega
      refine WL.nil ?_
      show W _ _ _ _ _ _
      refine W.seq ?_
      refine W.condF (decide ((((n).toNat : Nat) : Int) < n)) rfl (decide_eq_false hl54) ?_
      refine W.exit ?_
      show _ = _ ∧ _
      exact ⟨rfl, _, hs44, hf49, hS53⟩
  · rintro f55 wd56 ⟨x59, rfl, hq57⟩
    replace h := onRes_fin h
    replace hq57 : f55 5 = u3 ∧ St w wd56 [(Ty.sl (Ty.sl (Ty.i .i64))).at u3 x59] := hq57
    obtain ⟨hf60, hS61⟩ := hq57
    show W _ _ _ _ _ _
    refine W.seq (W.region ?_)
    refine WL.val u3 _ (op_move hf60) rfl ?_
    refine WL.val u3 _ (op_assign rfl) rfl ?_
    refine WL.nil ?_
    show W _ _ _ _ _ _
    refine W.ret ?_
    obtain rfl := Option.some.inj h
    show FinP _ _ _ _ _ _ _
    exact FinP.ret _ (res1 rfl rfl) ⟨u3, rfl, hS61.ext, (St.out (St.pick hS61 [0] rfl) (Ext.refl _))⟩

theorem c_impl_equalRows {w : World} {a : (List (List Int))} {v_a : Value} {b : (List (List Int))} {v_b : Value} (r_a : (Ty.sl (Ty.sl (Ty.i .i64))).rep w v_a a) (r_b : (Ty.sl (Ty.sl (Ty.i .i64))).rep w v_b b) {res : Bool} (h : p_impl_equalRows a b  = some res) :
    Ret Try.prog 85 #[v_a, v_b] w (fun v w' => v = Value.bool res ∧ Ext w w') := by
  unfold p_impl_equalRows at h
  have hS0 : St w w [] := St.start w
  refine Ret.start (fn := Try.f85) Try.func85 rfl 8 rfl rfl ?_
  refine W.seq (W.region ?_)
  refine WL.val (Value.bool false) _ (op_assign rfl) rfl ?_
  refine WL.nil ?_
  show W _ _ _ _ _ _
  refine W.seq (W.region ?_)
  refine WL.val v_a _ (op_move rfl) rfl ?_
  refine WL.val v_b _ (op_move rfl) rfl ?_
  obtain ⟨x5, hx6, h⟩ := bs h
  refine WL.call _ (op_call fn_109 (args3 rfl rfl rfl)) (c_slices_EqualFunc_LLint64_LLint64_Lint64_Lint64 (Ty.lift _ hS0.ext r_a) (Ty.lift _ hS0.ext r_b) (⟨56, #[], #[], rfl, fn_56, fun wd1 u0_2 a0_2 u1_2 a1_2 r3 he2 ra0_2 ra1_2 hq4 => c_slices_Equal_Lint64_int64 ra0_2 ra1_2 hq4⟩) hx6) rfl ?_
  rintro _ wd7 ⟨rfl, he8⟩
  have hS10 := St.extend hS0 he8
  replace hS10 : St w wd7 [] := hS10
  refine WL.val (Value.bool x5) _ (op_assign rfl) rfl ?_
  refine WL.nil ?_
  show W _ _ _ _ _ _
  refine W.ret ?_
  obtain rfl := Option.some.inj h
  show FinP _ _ _ _ _ _ _
  exact FinP.ret _ (res1 rfl rfl) ⟨rfl, hS10.ext⟩

theorem c_impl_whole {w : World} {a : (List (List Int))} {v_a : Value} {b : (List (List Int))} {v_b : Value} (r_a : (Ty.sl (Ty.sl (Ty.i .i64))).rep w v_a a) (r_b : (Ty.sl (Ty.sl (Ty.i .i64))).rep w v_b b) {res : (List (List Int))} (h : p_impl_whole a b  = some res) :
    Ret Try.prog 86 #[v_a, v_b] w (fun v w' => ∃ (u0 : Value), v = u0 ∧ Ext w w' ∧ Sep w.heap.size w' [(Ty.sl (Ty.sl (Ty.i .i64))).at u0 res]) := by
  unfold p_impl_whole at h
  have hS0 : St w w [] := St.start w
  refine Ret.start (fn := Try.f86) Try.func86 rfl 59 rfl rfl ?_
  refine W.seq (W.region ?_)
  refine WL.val (Value.slice none 0 0) _ (op_assign rfl) rfl ?_
  refine WL.nil ?_
  show W _ _ _ _ _ _
  refine W.seq (W.region ?_)
  refine WL.val v_a _ (op_move rfl) rfl ?_
  have hr1 := inR_len (Ty.lift _ hS0.ext r_a)
  refine WL.val (Value.int .i64 ((a).length : Int)) _ (op_lenL sl_65 (Ty.lift _ hS0.ext r_a) rfl) rfl ?_
  refine WL.val v_b _ (op_move rfl) rfl ?_
  obtain ⟨x2, hx5, h⟩ := bs h
  obtain ⟨ha3, hb4, hx5⟩ := idx_some hx5
  refine WL.val (Value.pointer (some (elA v_b ((0 : Int)).toNat))) _ (op_idx sl_65 (Ty.lift _ hS0.ext r_b) rfl rfl ha3 hb4) rfl ?_
  obtain ⟨u6, hc7, hr8⟩ := repSl.el r_b hx5
  refine WL.val u6 _ (op_load one_25 rfl (Ext.cell hS0.ext hc7)) rfl ?_
  have hr9 := inR_len (Ty.lift _ hS0.ext hr8)
  refine WL.val (Value.int .i64 ((x2).length : Int)) _ (op_lenL sl_25 (Ty.lift _ hS0.ext hr8) rfl) rfl ?_
  obtain ⟨x10, hx11, h⟩ := bs h
  refine WL.call _ (op_call fn_80 (args2 rfl rfl)) (c_impl_zeros hr1 hr9 hx11) rfl ?_
  rintro u12 wd13 ⟨_, rfl, he14, hs15⟩
  have hS16 := St.join hS0 he14 hs15
  replace hS16 : St w wd13 [(Ty.sl (Ty.sl (Ty.i .i64))).at u12 x10] := hS16
  refine WL.val u12 _ (op_assign rfl) rfl ?_
  refine WL.nil ?_
  show W _ _ _ _ _ _
  refine W.seq (W.seq (W.region ?_))
  refine WL.val v_a _ (op_move rfl) rfl ?_
  have hr17 := inR_len (Ty.lift _ hS16.ext r_a)
  refine WL.val (Value.int .i64 ((a).length : Int)) _ (op_lenL sl_65 (Ty.lift _ hS16.ext r_a) rfl) rfl ?_
  refine WL.val (Value.int .i64 (0 : Int)) _ (op_move rfl) rfl ?_
  refine WL.nil ?_
  show W _ _ _ _ _ _
  obtain ⟨res18, hres19, h⟩ := bs h
  refine W.blockLoop (fun fq wq => ∃ s, res18 = Res.fin s ∧ fq 5 = u12 ∧ St w wq [(Ty.sl (Ty.sl (Ty.i .i64))).at u12 s]) ?_ ?_
  · refine W.forN (fun k (s : (List (List Int))) fq wq => fq 1 = v_b ∧ fq 5 = u12 ∧ fq 19 = v_a ∧ fq 20 = (Value.int .i64 ((a).length : Int)) ∧ fq 21 = Value.int .i64 (k : Int) ∧ InR .i64 (k : Int) ∧ St w wq [(Ty.sl (Ty.sl (Ty.i .i64))).at u12 s]) hres19 ⟨rfl, rfl, rfl, rfl, rfl, (inR_i64.2 (show (-9223372036854775808 : Int) ≤ 0 ∧ (0 : Int) ≤ 9223372036854775807 from by decide)), hS16⟩ ?_ ?_
    · intro k20 x21 ct22 f23 wd24 hk25 hb26 hI27 hbrk28 hret29
      replace hI27 : f23 1 = v_b ∧ f23 5 = u12 ∧ f23 19 = v_a ∧ f23 20 = (Value.int .i64 ((a).length : Int)) ∧ f23 21 = Value.int .i64 (k20 : Int) ∧ InR .i64 (k20 : Int) ∧ St w wd24 [(Ty.sl (Ty.sl (Ty.i .i64))).at u12 x21] := hI27
      replace hb26 : p_impl_whole_L1 a b k20 x21 = some ct22 := hb26
      unfold p_impl_whole_L1 at hb26
      obtain ⟨hf30, hf31, hf32, hf33, hf34, hr35, hS36⟩ := hI27
      refine W.seq (W.region ?_)
      refine WL.val (Value.bool (decide ((k20 : Int) < ((a).length : Int)))) _ (op_lss hf34 hf33) rfl ?_
      have hl37 : (k20 : Int) < ((a).length : Int) := by omega
      refine WL.nil ?_
      show W _ _ _ _ _ _
      refine W.seq ?_
      refine W.condT (decide ((k20 : Int) < ((a).length : Int))) rfl (decide_eq_true hl37) ?_
      refine W.skip ?_
      show W _ _ _ _ _ _
      refine W.seq ?_
      refine W.block ?_
      refine W.seq (W.region ?_)
      refine WL.val (Value.int .i64 (k20 : Int)) _ (op_move hf34) rfl ?_
      obtain ⟨x39, hx42, hb26⟩ := bs hb26
      obtain ⟨ha40, hb41, hx42⟩ := idx_some hx42
      refine WL.val (Value.pointer (some (elA v_a ((k20 : Int)).toNat))) _ (op_idx sl_65 (Ty.lift _ hS36.ext r_a) hf32 hf34 ha40 hb41) rfl ?_
      obtain ⟨u43, hc44, hr45⟩ := repSl.el r_a hx42
      refine WL.val u43 _ (op_load one_25 rfl (Ext.cell hS36.ext hc44)) rfl ?_
      refine WL.val (Value.int .i64 (k20 : Int)) _ (op_assign rfl) rfl ?_
      refine WL.val u43 _ (op_assign rfl) rfl ?_
      refine WL.nil ?_
      show W _ _ _ _ _ _
      refine W.seq (W.region ?_)
      refine WL.val u43 _ (op_move rfl) rfl ?_
      have hr46 := inR_len (Ty.lift _ hS36.ext hr45)
      refine WL.val (Value.int .i64 ((x39).length : Int)) _ (op_lenL sl_25 (Ty.lift _ hS36.ext hr45) rfl) rfl ?_
      refine WL.val (Value.int .i64 (0 : Int)) _ (op_move rfl) rfl ?_
      refine WL.nil ?_
      show W _ _ _ _ _ _
      obtain ⟨res47, hres48, hb26⟩ := bs hb26
      refine W.blockLoop (fun fq wq => ∃ s, res47 = Res.fin s ∧ fq 1 = v_b ∧ fq 5 = u12 ∧ fq 19 = v_a ∧ fq 20 = (Value.int .i64 ((a).length : Int)) ∧ fq 21 = (Value.int .i64 (k20 : Int)) ∧ St w wq [(Ty.sl (Ty.sl (Ty.i .i64))).at u12 s]) ?_ ?_
      · refine W.forN (fun k (s : (List (List Int))) fq wq => fq 1 = v_b ∧ fq 5 = u12 ∧ fq 6 = (Value.int .i64 (k20 : Int)) ∧ fq 19 = v_a ∧ fq 20 = (Value.int .i64 ((a).length : Int)) ∧ fq 21 = (Value.int .i64 (k20 : Int)) ∧ fq 26 = u43 ∧ fq 27 = (Value.int .i64 ((x39).length : Int)) ∧ fq 28 = Value.int .i64 (k : Int) ∧ InR .i64 (k : Int) ∧ St w wq [(Ty.sl (Ty.sl (Ty.i .i64))).at u12 s]) hres48 ⟨hf30, hf31, rfl, hf32, hf33, hf34, rfl, rfl, rfl, (inR_i64.2 (show (-9223372036854775808 : Int) ≤ 0 ∧ (0 : Int) ≤ 9223372036854775807 from by decide)), hS36⟩ ?_ ?_
        · intro k49 x50 ct51 f52 wd53 hk54 hb55 hI56 hbrk57 hret58
          replace hI56 : f52 1 = v_b ∧ f52 5 = u12 ∧ f52 6 = (Value.int .i64 (k20 : Int)) ∧ f52 19 = v_a ∧ f52 20 = (Value.int .i64 ((a).length : Int)) ∧ f52 21 = (Value.int .i64 (k20 : Int)) ∧ f52 26 = u43 ∧ f52 27 = (Value.int .i64 ((x39).length : Int)) ∧ f52 28 = Value.int .i64 (k49 : Int) ∧ InR .i64 (k49 : Int) ∧ St w wd53 [(Ty.sl (Ty.sl (Ty.i .i64))).at u12 x50] := hI56
          replace hb55 : p_impl_whole_L2 x39 b k20 k49 x50 = some ct51 := hb55
          unfold p_impl_whole_L2 at hb55
          obtain ⟨hf59, hf60, hf61, hf62, hf63, hf64, hf65, hf66, hf67, hr68, hS69⟩ := hI56
          refine W.seq (W.region ?_)
          refine WL.val (Value.bool (decide ((k49 : Int) < ((x39).length : Int)))) _ (op_lss hf67 hf66) rfl ?_
          have hl70 : (k49 : Int) < ((x39).length : Int) := by omega
          refine WL.nil ?_
          show W _ _ _ _ _ _
          refine W.seq ?_
          refine W.condT (decide ((k49 : Int) < ((x39).length : Int))) rfl (decide_eq_true hl70) ?_
          refine W.skip ?_
          show W _ _ _ _ _ _
          refine W.seq ?_
          refine W.block ?_
          refine W.seq (W.region ?_)
          refine WL.val (Value.int .i64 (k49 : Int)) _ (op_move hf67) rfl ?_
          obtain ⟨x72, hx75, hb55⟩ := bs hb55
          obtain ⟨ha73, hb74, hx75⟩ := idx_some hx75
          refine WL.val (Value.pointer (some (elA u43 ((k49 : Int)).toNat))) _ (op_idx sl_25 (Ty.lift _ hS69.ext hr45) hf65 hf67 ha73 hb74) rfl ?_
          obtain ⟨u76, hc77, hr78⟩ := repSl.el hr45 hx75
          obtain ⟨rfl, hr78⟩ := hr78
          refine WL.val (Value.int .i64 x72) _ (op_load one_2 rfl (Ext.cell hS69.ext hc77)) rfl ?_
          refine WL.val (Value.int .i64 (k49 : Int)) _ (op_assign rfl) rfl ?_
          refine WL.val (Value.int .i64 x72) _ (op_assign rfl) rfl ?_
          refine WL.nil ?_
          show W _ _ _ _ _ _
          refine W.seq (W.region ?_)
          refine WL.val v_b _ (op_move hf59) rfl ?_
          refine WL.val (Value.int .i64 (k49 : Int)) _ (op_move rfl) rfl ?_
          obtain ⟨x79, hx82, hb55⟩ := bs hb55
          obtain ⟨ha80, hb81, hx82⟩ := idx_some hx82
          refine WL.val (Value.pointer (some (elA v_b ((k49 : Int)).toNat))) _ (op_idx sl_65 (Ty.lift _ hS69.ext r_b) rfl rfl ha80 hb81) rfl ?_
          obtain ⟨u83, hc84, hr85⟩ := repSl.el r_b hx82
          refine WL.val u83 _ (op_load one_25 rfl (Ext.cell hS69.ext hc84)) rfl ?_
          have hr86 := inR_len (Ty.lift _ hS69.ext hr85)
          refine WL.val (Value.int .i64 ((x79).length : Int)) _ (op_lenL sl_25 (Ty.lift _ hS69.ext hr85) rfl) rfl ?_
          refine WL.val (Value.int .i64 (0 : Int)) _ (op_move rfl) rfl ?_
          refine WL.nil ?_
          show W _ _ _ _ _ _
          obtain ⟨res87, hres88, hb55⟩ := bs hb55
          refine W.blockLoop (fun fq wq => ∃ s, res87 = Res.fin s ∧ fq 1 = v_b ∧ fq 5 = u12 ∧ fq 6 = (Value.int .i64 (k20 : Int)) ∧ fq 19 = v_a ∧ fq 20 = (Value.int .i64 ((a).length : Int)) ∧ fq 21 = (Value.int .i64 (k20 : Int)) ∧ fq 26 = u43 ∧ fq 27 = (Value.int .i64 ((x39).length : Int)) ∧ fq 28 = (Value.int .i64 (k49 : Int)) ∧ St w wq [(Ty.sl (Ty.sl (Ty.i .i64))).at u12 s]) ?_ ?_
          · refine W.forN (fun k (s : (List (List Int))) fq wq => fq 1 = v_b ∧ fq 5 = u12 ∧ fq 6 = (Value.int .i64 (k20 : Int)) ∧ fq 9 = (Value.int .i64 x72) ∧ fq 19 = v_a ∧ fq 20 = (Value.int .i64 ((a).length : Int)) ∧ fq 21 = (Value.int .i64 (k20 : Int)) ∧ fq 26 = u43 ∧ fq 27 = (Value.int .i64 ((x39).length : Int)) ∧ fq 28 = (Value.int .i64 (k49 : Int)) ∧ fq 36 = u83 ∧ fq 37 = (Value.int .i64 ((x79).length : Int)) ∧ fq 38 = Value.int .i64 (k : Int) ∧ InR .i64 (k : Int) ∧ St w wq [(Ty.sl (Ty.sl (Ty.i .i64))).at u12 s]) hres88 ⟨hf59, hf60, hf61, rfl, hf62, hf63, hf64, hf65, hf66, hf67, rfl, rfl, rfl, (inR_i64.2 (show (-9223372036854775808 : Int) ≤ 0 ∧ (0 : Int) ≤ 9223372036854775807 from by decide)), hS69⟩ ?_ ?_
            · intro k89 x90 ct91 f92 wd93 hk94 hb95 hI96 hbrk97 hret98
              replace hI96 : f92 1 = v_b ∧ f92 5 = u12 ∧ f92 6 = (Value.int .i64 (k20 : Int)) ∧ f92 9 = (Value.int .i64 x72) ∧ f92 19 = v_a ∧ f92 20 = (Value.int .i64 ((a).length : Int)) ∧ f92 21 = (Value.int .i64 (k20 : Int)) ∧ f92 26 = u43 ∧ f92 27 = (Value.int .i64 ((x39).length : Int)) ∧ f92 28 = (Value.int .i64 (k49 : Int)) ∧ f92 36 = u83 ∧ f92 37 = (Value.int .i64 ((x79).length : Int)) ∧ f92 38 = Value.int .i64 (k89 : Int) ∧ InR .i64 (k89 : Int) ∧ St w wd93 [(Ty.sl (Ty.sl (Ty.i .i64))).at u12 x90] := hI96
              replace hb95 : p_impl_whole_L3 x79 k20 x72 k89 x90 = some ct91 := hb95
              unfold p_impl_whole_L3 at hb95
              obtain ⟨hf99, hf100, hf101, hf102, hf103, hf104, hf105, hf106, hf107, hf108, hf109, hf110, hf111, hr112, hS113⟩ := hI96
              refine W.seq (W.region ?_)
              refine WL.val (Value.bool (decide ((k89 : Int) < ((x79).length : Int)))) _ (op_lss hf111 hf110) rfl ?_
              have hl114 : (k89 : Int) < ((x79).length : Int) := by omega
              refine WL.nil ?_
              show W _ _ _ _ _ _
              refine W.seq ?_
              refine W.condT (decide ((k89 : Int) < ((x79).length : Int))) rfl (decide_eq_true hl114) ?_
              refine W.skip ?_
              show W _ _ _ _ _ _
              refine W.seq ?_
              refine W.block ?_
              refine W.seq (W.region ?_)
              refine WL.val (Value.int .i64 (k89 : Int)) _ (op_move hf111) rfl ?_
              obtain ⟨x116, hx119, hb95⟩ := bs hb95
              obtain ⟨ha117, hb118, hx119⟩ := idx_some hx119
              refine WL.val (Value.pointer (some (elA u83 ((k89 : Int)).toNat))) _ (op_idx sl_25 (Ty.lift _ hS113.ext hr85) hf109 hf111 ha117 hb118) rfl ?_
              obtain ⟨u120, hc121, hr122⟩ := repSl.el hr85 hx119
              obtain ⟨rfl, hr122⟩ := hr122
              refine WL.val (Value.int .i64 x116) _ (op_load one_2 rfl (Ext.cell hS113.ext hc121)) rfl ?_
              refine WL.val (Value.int .i64 (k89 : Int)) _ (op_assign rfl) rfl ?_
              refine WL.val (Value.int .i64 x116) _ (op_assign rfl) rfl ?_
              refine WL.nil ?_
              show W _ _ _ _ _ _
              refine W.region ?_
              refine WL.val u12 _ (op_move hf100) rfl ?_
              refine WL.val (Value.int .i64 (k20 : Int)) _ (op_move hf101) rfl ?_
              obtain ⟨x123, hx126, hb95⟩ := bs hb95
              obtain ⟨ha124, hb125, hx126⟩ := idx_some hx126
              refine WL.val (Value.pointer (some (elA u12 ((k20 : Int)).toNat))) _ (op_idx sl_65 (St.rep (t := (Ty.sl (Ty.sl (Ty.i .i64)))) hS113 0 rfl) rfl rfl ha124 hb125) rfl ?_
              obtain ⟨u127, hc128, hr129⟩ := repSl.el (St.rep (t := (Ty.sl (Ty.sl (Ty.i .i64)))) hS113 0 rfl) hx126
              refine WL.val u127 _ (op_load one_25 rfl hc128) rfl ?_
              refine WL.val (Value.int .i64 (k89 : Int)) _ (op_move rfl) rfl ?_
              obtain ⟨x130, hx133, hb95⟩ := bs hb95
              obtain ⟨ha131, hb132, hx133⟩ := idx_some hx133
              refine WL.val (Value.pointer (some (elA u127 ((k89 : Int)).toNat))) _ (op_idx sl_25 hr129 rfl rfl ha131 hb132) rfl ?_
              obtain ⟨u134, hc135, hr136⟩ := repSl.el hr129 hx133
              obtain ⟨rfl, hr136⟩ := hr136
              refine WL.val (Value.int .i64 x130) _ (op_load one_2 rfl hc135) rfl ?_
              refine WL.val (Value.int .i64 x72) _ (op_move hf102) rfl ?_
              refine WL.val (Value.int .i64 x116) _ (op_move rfl) rfl ?_
              refine WL.val (Value.int .i64 (w64 (x72 * x116))) _ (op_mul rfl rfl) rfl ?_
              refine WL.val (Value.int .i64 (w64 (x130 + (w64 (x72 * x116))))) _ (op_add rfl rfl) rfl ?_
              refine WL.val (Value.pointer (some (elA u127 ((k89 : Int)).toNat))) _ (op_idx sl_25 hr129 rfl rfl ha131 hb132) rfl ?_
              refine WL.storeEl2 (flat_i .i64) hS113 (k := 0) rfl sz_2 hx126 hc128 rfl rfl (lt_of_idx ha131 hb132) ⟨rfl, (inR_wrap _ _)⟩ ?_
              intro wd137 hS138
              replace hS138 : St w wd137 [(Ty.sl (Ty.sl (Ty.i .i64))).at u12 ((x90).set ((k20 : Int)).toNat ((x123).set ((k89 : Int)).toNat (w64 (x130 + (w64 (x72 * x116))))))] := hS138
              refine WL.nil ?_
              show W _ _ _ _ _ _
              refine W.region ?_
              refine WL.val (Value.int .i64 (w64 ((k89 : Int) + (1 : Int)))) _ (op_add hf111 rfl) rfl ?_
              refine WL.val (Value.int .i64 (w64 ((k89 : Int) + (1 : Int)))) _ (op_move rfl) rfl ?_
              refine WL.nil ?_
              obtain rfl := Option.some.inj hb95
              show ∃ s, _ = Ctl.next s ∧ _
              exact ⟨_, rfl, hf99, hf100, hf101, hf102, hf103, hf104, hf105, hf106, hf107, hf108, hf109, hf110, (ctr_next hl114 hr86), (ctr_rng hl114 hr86), hS138⟩
            · intro x145 f140 wd141 hs142 hI143
              replace hI143 : f140 1 = v_b ∧ f140 5 = u12 ∧ f140 6 = (Value.int .i64 (k20 : Int)) ∧ f140 9 = (Value.int .i64 x72) ∧ f140 19 = v_a ∧ f140 20 = (Value.int .i64 ((a).length : Int)) ∧ f140 21 = (Value.int .i64 (k20 : Int)) ∧ f140 26 = u43 ∧ f140 27 = (Value.int .i64 ((x39).length : Int)) ∧ f140 28 = (Value.int .i64 (k49 : Int)) ∧ f140 36 = u83 ∧ f140 37 = (Value.int .i64 ((x79).length : Int)) ∧ f140 38 = Value.int .i64 (((x79).length : Nat) : Int) ∧ InR .i64 (((x79).length : Nat) : Int) ∧ St w wd141 [(Ty.sl (Ty.sl (Ty.i .i64))).at u12 x145] := hI143
              obtain ⟨hf146, hf147, hf148, hf149, hf150, hf151, hf152, hf153, hf154, hf155, hf156, hf157, hf158, hr159, hS160⟩ := hI143
              refine W.seq (W.region ?_)
              refine WL.val (Value.bool (decide ((((x79).length : Nat) : Int) < ((x79).length : Int)))) _ (op_lss hf158 hf157) rfl ?_
              have hl161 : ¬ (((x79).length : Nat) : Int) < ((x79).length : Int) := by omega
              refine WL.nil ?_
              show W _ _ _ _ _ _
              refine W.seq ?_
              refine W.condF (decide ((((x79).length : Nat) : Int) < ((x79).length : Int))) rfl (decide_eq_false hl161) ?_
              refine W.exit ?_
              show _ = _ ∧ _
              exact ⟨rfl, _, hs142, hf146, hf147, hf148, hf150, hf151, hf152, hf153, hf154, hf155, hS160⟩
          · rintro f162 wd163 ⟨x166, rfl, hq164⟩
            replace hb55 := onRes_fin hb55
            replace hq164 : f162 1 = v_b ∧ f162 5 = u12 ∧ f162 6 = (Value.int .i64 (k20 : Int)) ∧ f162 19 = v_a ∧ f162 20 = (Value.int .i64 ((a).length : Int)) ∧ f162 21 = (Value.int .i64 (k20 : Int)) ∧ f162 26 = u43 ∧ f162 27 = (Value.int .i64 ((x39).length : Int)) ∧ f162 28 = (Value.int .i64 (k49 : Int)) ∧ St w wd163 [(Ty.sl (Ty.sl (Ty.i .i64))).at u12 x166] := hq164
            obtain ⟨hf167, hf168, hf169, hf170, hf171, hf172, hf173, hf174, hf175, hS176⟩ := hq164
            show W _ _ _ _ _ _
            refine W.region ?_
            refine WL.val (Value.int .i64 (w64 ((k49 : Int) + (1 : Int)))) _ (op_add hf175 rfl) rfl ?_
            refine WL.val (Value.int .i64 (w64 ((k49 : Int) + (1 : Int)))) _ (op_move rfl) rfl ?_
            refine WL.nil ?_
            obtain rfl := Option.some.inj hb55
            show ∃ s, _ = Ctl.next s ∧ _
            exact ⟨_, rfl, hf167, hf168, hf169, hf170, hf171, hf172, hf173, hf174, (ctr_next hl70 hr46), (ctr_rng hl70 hr46), hS176⟩
        · intro x184 f179 wd180 hs181 hI182
          replace hI182 : f179 1 = v_b ∧ f179 5 = u12 ∧ f179 6 = (Value.int .i64 (k20 : Int)) ∧ f179 19 = v_a ∧ f179 20 = (Value.int .i64 ((a).length : Int)) ∧ f179 21 = (Value.int .i64 (k20 : Int)) ∧ f179 26 = u43 ∧ f179 27 = (Value.int .i64 ((x39).length : Int)) ∧ f179 28 = Value.int .i64 (((x39).length : Nat) : Int) ∧ InR .i64 (((x39).length : Nat) : Int) ∧ St w wd180 [(Ty.sl (Ty.sl (Ty.i .i64))).at u12 x184] := hI182
          obtain ⟨hf185, hf186, hf187, hf188, hf189, hf190, hf191, hf192, hf193, hr194, hS195⟩ := hI182
          refine W.seq (W.region ?_)
          refine WL.val (Value.bool (decide ((((x39).length : Nat) : Int) < ((x39).length : Int)))) _ (op_lss hf193 hf192) rfl ?_
          have hl196 : ¬ (((x39).length : Nat) : Int) < ((x39).length : Int) := by omega
          refine WL.nil ?_
          show W _ _ _ _ _ _
          refine W.seq ?_
          refine W.condF (decide ((((x39).length : Nat) : Int) < ((x39).length : Int))) rfl (decide_eq_false hl196) ?_
          refine W.exit ?_
          show _ = _ ∧ _
          exact ⟨rfl, _, hs181, hf185, hf186, hf188, hf189, hf190, hS195⟩
      · rintro f197 wd198 ⟨x201, rfl, hq199⟩
        replace hb26 := onRes_fin hb26
        replace hq199 : f197 1 = v_b ∧ f197 5 = u12 ∧ f197 19 = v_a ∧ f197 20 = (Value.int .i64 ((a).length : Int)) ∧ f197 21 = (Value.int .i64 (k20 : Int)) ∧ St w wd198 [(Ty.sl (Ty.sl (Ty.i .i64))).at u12 x201] := hq199
        obtain ⟨hf202, hf203, hf204, hf205, hf206, hS207⟩ := hq199
        show W _ _ _ _ _ _
        refine W.region ?_
        refine WL.val (Value.int .i64 (w64 ((k20 : Int) + (1 : Int)))) _ (op_add hf206 rfl) rfl ?_
        refine WL.val (Value.int .i64 (w64 ((k20 : Int) + (1 : Int)))) _ (op_move rfl) rfl ?_
        refine WL.nil ?_
        obtain rfl := Option.some.inj hb26
        show ∃ s, _ = Ctl.next s ∧ _
        exact ⟨_, rfl, hf202, hf203, hf204, hf205, (ctr_next hl37 hr17), (ctr_rng hl37 hr17), hS207⟩
    · intro x215 f210 wd211 hs212 hI213
      replace hI213 : f210 1 = v_b ∧ f210 5 = u12 ∧ f210 19 = v_a ∧ f210 20 = (Value.int .i64 ((a).length : Int)) ∧ f210 21 = Value.int .i64 (((a).length : Nat) : Int) ∧ InR .i64 (((a).length : Nat) : Int) ∧ St w wd211 [(Ty.sl (Ty.sl (Ty.i .i64))).at u12 x215] := hI213
      obtain ⟨hf216, hf217, hf218, hf219, hf220, hr221, hS222⟩ := hI213
      refine W.seq (W.region ?_)
      refine WL.val (Value.bool (decide ((((a).length : Nat) : Int) < ((a).length : Int)))) _ (op_lss hf220 hf219) rfl ?_
      have hl223 : ¬ (((a).length : Nat) : Int) < ((a).length : Int) := by omega
      refine WL.nil ?_
      show W _ _ _ _ _ _
      refine W.seq ?_
      refine W.condF (decide ((((a).length : Nat) : Int) < ((a).length : Int))) rfl (decide_eq_false hl223) ?_
      refine W.exit ?_
      show _ = _ ∧ _
      exact ⟨rfl, _, hs212, hf217, hS222⟩
  · rintro f224 wd225 ⟨x228, rfl, hq226⟩
    replace h := onRes_fin h
    replace hq226 : f224 5 = u12 ∧ St w wd225 [(Ty.sl (Ty.sl (Ty.i .i64))).at u12 x228] := hq226
    obtain ⟨hf229, hS230⟩ := hq226
    show W _ _ _ _ _ _
    refine W.seq (W.region ?_)
    refine WL.val u12 _ (op_move hf229) rfl ?_
    refine WL.val u12 _ (op_assign rfl) rfl ?_
    refine WL.nil ?_
    show W _ _ _ _ _ _
    refine W.ret ?_
    obtain rfl := Option.some.inj h
    show FinP _ _ _ _ _ _ _
    exact FinP.ret _ (res1 rfl rfl) ⟨u12, rfl, hS230.ext, (St.out (St.pick hS230 [0] rfl) (Ext.refl _))⟩

theorem c_impl_transpose {w : World} {a : (List (List Int))} {v_a : Value} (r_a : (Ty.sl (Ty.sl (Ty.i .i64))).rep w v_a a) {res : (List (List Int))} (h : p_impl_transpose a  = some res) :
    Ret Try.prog 55 #[v_a] w (fun v w' => ∃ (u0 : Value), v = u0 ∧ Ext w w' ∧ Sep w.heap.size w' [(Ty.sl (Ty.sl (Ty.i .i64))).at u0 res]) := by
  unfold p_impl_transpose at h
  have hS0 : St w w [] := St.start w
  refine Ret.start (fn := Try.f55) Try.func55 rfl 39 rfl rfl ?_
  refine W.seq (W.region ?_)
  refine WL.val (Value.slice none 0 0) _ (op_assign rfl) rfl ?_
  refine WL.nil ?_
  show W _ _ _ _ _ _
  refine W.seq (W.region ?_)
  refine WL.val v_a _ (op_move rfl) rfl ?_
  obtain ⟨x1, hx4, h⟩ := bs h
  obtain ⟨ha2, hb3, hx4⟩ := idx_some hx4
  refine WL.val (Value.pointer (some (elA v_a ((0 : Int)).toNat))) _ (op_idx sl_65 (Ty.lift _ hS0.ext r_a) rfl rfl ha2 hb3) rfl ?_
  obtain ⟨u5, hc6, hr7⟩ := repSl.el r_a hx4
  refine WL.val u5 _ (op_load one_25 rfl (Ext.cell hS0.ext hc6)) rfl ?_
  have hr8 := inR_len (Ty.lift _ hS0.ext hr7)
  refine WL.val (Value.int .i64 ((x1).length : Int)) _ (op_lenL sl_25 (Ty.lift _ hS0.ext hr7) rfl) rfl ?_
  refine WL.val v_a _ (op_move rfl) rfl ?_
  have hr9 := inR_len (Ty.lift _ hS0.ext r_a)
  refine WL.val (Value.int .i64 ((a).length : Int)) _ (op_lenL sl_65 (Ty.lift _ hS0.ext r_a) rfl) rfl ?_
  obtain ⟨x10, hx11, h⟩ := bs h
  refine WL.call _ (op_call fn_80 (args2 rfl rfl)) (c_impl_zeros hr8 hr9 hx11) rfl ?_
  rintro u12 wd13 ⟨_, rfl, he14, hs15⟩
  have hS16 := St.join hS0 he14 hs15
  replace hS16 : St w wd13 [(Ty.sl (Ty.sl (Ty.i .i64))).at u12 x10] := hS16
  refine WL.val u12 _ (op_assign rfl) rfl ?_
  refine WL.nil ?_
  show W _ _ _ _ _ _
  refine W.seq (W.seq (W.region ?_))
  refine WL.val v_a _ (op_move rfl) rfl ?_
  have hr17 := inR_len (Ty.lift _ hS16.ext r_a)
  refine WL.val (Value.int .i64 ((a).length : Int)) _ (op_lenL sl_65 (Ty.lift _ hS16.ext r_a) rfl) rfl ?_
  refine WL.val (Value.int .i64 (0 : Int)) _ (op_move rfl) rfl ?_
  refine WL.nil ?_
  show W _ _ _ _ _ _
  obtain ⟨res18, hres19, h⟩ := bs h
  refine W.blockLoop (fun fq wq => ∃ s, res18 = Res.fin s ∧ fq 3 = u12 ∧ St w wq [(Ty.sl (Ty.sl (Ty.i .i64))).at u12 s]) ?_ ?_
  · refine W.forN (fun k (s : (List (List Int))) fq wq => fq 3 = u12 ∧ fq 15 = v_a ∧ fq 16 = (Value.int .i64 ((a).length : Int)) ∧ fq 17 = Value.int .i64 (k : Int) ∧ InR .i64 (k : Int) ∧ St w wq [(Ty.sl (Ty.sl (Ty.i .i64))).at u12 s]) hres19 ⟨rfl, rfl, rfl, rfl, (inR_i64.2 (show (-9223372036854775808 : Int) ≤ 0 ∧ (0 : Int) ≤ 9223372036854775807 from by decide)), hS16⟩ ?_ ?_
    · intro k20 x21 ct22 f23 wd24 hk25 hb26 hI27 hbrk28 hret29
      replace hI27 : f23 3 = u12 ∧ f23 15 = v_a ∧ f23 16 = (Value.int .i64 ((a).length : Int)) ∧ f23 17 = Value.int .i64 (k20 : Int) ∧ InR .i64 (k20 : Int) ∧ St w wd24 [(Ty.sl (Ty.sl (Ty.i .i64))).at u12 x21] := hI27
      replace hb26 : p_impl_transpose_L1 a k20 x21 = some ct22 := hb26
      unfold p_impl_transpose_L1 at hb26
      obtain ⟨hf30, hf31, hf32, hf33, hr34, hS35⟩ := hI27
      refine W.seq (W.region ?_)
      refine WL.val (Value.bool (decide ((k20 : Int) < ((a).length : Int)))) _ (op_lss hf33 hf32) rfl ?_
      have hl36 : (k20 : Int) < ((a).length : Int) := by omega
      refine WL.nil ?_
      show W _ _ _ _ _ _
      refine W.seq ?_
      refine W.condT (decide ((k20 : Int) < ((a).length : Int))) rfl (decide_eq_true hl36) ?_
      refine W.skip ?_
      show W _ _ _ _ _ _
      refine W.seq ?_
      refine W.block ?_
      refine W.seq (W.region ?_)
      refine WL.val (Value.int .i64 (k20 : Int)) _ (op_move hf33) rfl ?_
      obtain ⟨x38, hx41, hb26⟩ := bs hb26
      obtain ⟨ha39, hb40, hx41⟩ := idx_some hx41
      refine WL.val (Value.pointer (some (elA v_a ((k20 : Int)).toNat))) _ (op_idx sl_65 (Ty.lift _ hS35.ext r_a) hf31 hf33 ha39 hb40) rfl ?_
      obtain ⟨u42, hc43, hr44⟩ := repSl.el r_a hx41
      refine WL.val u42 _ (op_load one_25 rfl (Ext.cell hS35.ext hc43)) rfl ?_
      refine WL.val (Value.int .i64 (k20 : Int)) _ (op_assign rfl) rfl ?_
      refine WL.val u42 _ (op_assign rfl) rfl ?_
      refine WL.nil ?_
      show W _ _ _ _ _ _
      refine W.seq (W.region ?_)
      refine WL.val u42 _ (op_move rfl) rfl ?_
      have hr45 := inR_len (Ty.lift _ hS35.ext hr44)
      refine WL.val (Value.int .i64 ((x38).length : Int)) _ (op_lenL sl_25 (Ty.lift _ hS35.ext hr44) rfl) rfl ?_
      refine WL.val (Value.int .i64 (0 : Int)) _ (op_move rfl) rfl ?_
      refine WL.nil ?_
      show W _ _ _ _ _ _
      obtain ⟨res46, hres47, hb26⟩ := bs hb26
      refine W.blockLoop (fun fq wq => ∃ s, res46 = Res.fin s ∧ fq 3 = u12 ∧ fq 15 = v_a ∧ fq 16 = (Value.int .i64 ((a).length : Int)) ∧ fq 17 = (Value.int .i64 (k20 : Int)) ∧ St w wq [(Ty.sl (Ty.sl (Ty.i .i64))).at u12 s]) ?_ ?_
      · refine W.forN (fun k (s : (List (List Int))) fq wq => fq 3 = u12 ∧ fq 4 = (Value.int .i64 (k20 : Int)) ∧ fq 15 = v_a ∧ fq 16 = (Value.int .i64 ((a).length : Int)) ∧ fq 17 = (Value.int .i64 (k20 : Int)) ∧ fq 22 = u42 ∧ fq 23 = (Value.int .i64 ((x38).length : Int)) ∧ fq 24 = Value.int .i64 (k : Int) ∧ InR .i64 (k : Int) ∧ St w wq [(Ty.sl (Ty.sl (Ty.i .i64))).at u12 s]) hres47 ⟨hf30, rfl, hf31, hf32, hf33, rfl, rfl, rfl, (inR_i64.2 (show (-9223372036854775808 : Int) ≤ 0 ∧ (0 : Int) ≤ 9223372036854775807 from by decide)), hS35⟩ ?_ ?_
        · intro k48 x49 ct50 f51 wd52 hk53 hb54 hI55 hbrk56 hret57
          replace hI55 : f51 3 = u12 ∧ f51 4 = (Value.int .i64 (k20 : Int)) ∧ f51 15 = v_a ∧ f51 16 = (Value.int .i64 ((a).length : Int)) ∧ f51 17 = (Value.int .i64 (k20 : Int)) ∧ f51 22 = u42 ∧ f51 23 = (Value.int .i64 ((x38).length : Int)) ∧ f51 24 = Value.int .i64 (k48 : Int) ∧ InR .i64 (k48 : Int) ∧ St w wd52 [(Ty.sl (Ty.sl (Ty.i .i64))).at u12 x49] := hI55
          replace hb54 : p_impl_transpose_L2 x38 k20 k48 x49 = some ct50 := hb54
          unfold p_impl_transpose_L2 at hb54
          obtain ⟨hf58, hf59, hf60, hf61, hf62, hf63, hf64, hf65, hr66, hS67⟩ := hI55
          refine W.seq (W.region ?_)
          refine WL.val (Value.bool (decide ((k48 : Int) < ((x38).length : Int)))) _ (op_lss hf65 hf64) rfl ?_
          have hl68 : (k48 : Int) < ((x38).length : Int) := by omega
          refine WL.nil ?_
          show W _ _ _ _ _ _
          refine W.seq ?_
          refine W.condT (decide ((k48 : Int) < ((x38).length : Int))) rfl (decide_eq_true hl68) ?_
          refine W.skip ?_
          show W _ _ _ _ _ _
          refine W.seq ?_
          refine W.block ?_
          refine W.seq (W.region ?_)
          refine WL.val (Value.int .i64 (k48 : Int)) _ (op_move hf65) rfl ?_
          obtain ⟨x70, hx73, hb54⟩ := bs hb54
          obtain ⟨ha71, hb72, hx73⟩ := idx_some hx73
          refine WL.val (Value.pointer (some (elA u42 ((k48 : Int)).toNat))) _ (op_idx sl_25 (Ty.lift _ hS67.ext hr44) hf63 hf65 ha71 hb72) rfl ?_
          obtain ⟨u74, hc75, hr76⟩ := repSl.el hr44 hx73
          obtain ⟨rfl, hr76⟩ := hr76
          refine WL.val (Value.int .i64 x70) _ (op_load one_2 rfl (Ext.cell hS67.ext hc75)) rfl ?_
          refine WL.val (Value.int .i64 (k48 : Int)) _ (op_assign rfl) rfl ?_
          refine WL.val (Value.int .i64 x70) _ (op_assign rfl) rfl ?_
          refine WL.nil ?_
          show W _ _ _ _ _ _
          refine W.region ?_
          refine WL.val u12 _ (op_move hf58) rfl ?_
          refine WL.val (Value.int .i64 (k48 : Int)) _ (op_move rfl) rfl ?_
          obtain ⟨x77, hx80, hb54⟩ := bs hb54
          obtain ⟨ha78, hb79, hx80⟩ := idx_some hx80
          refine WL.val (Value.pointer (some (elA u12 ((k48 : Int)).toNat))) _ (op_idx sl_65 (St.rep (t := (Ty.sl (Ty.sl (Ty.i .i64)))) hS67 0 rfl) rfl rfl ha78 hb79) rfl ?_
          obtain ⟨u81, hc82, hr83⟩ := repSl.el (St.rep (t := (Ty.sl (Ty.sl (Ty.i .i64)))) hS67 0 rfl) hx80
          refine WL.val u81 _ (op_load one_25 rfl hc82) rfl ?_
          refine WL.val (Value.int .i64 (k20 : Int)) _ (op_move hf59) rfl ?_
          refine WL.val (Value.int .i64 x70) _ (op_move rfl) rfl ?_
          obtain ⟨x84, hx87, hb54⟩ := bs hb54
          obtain ⟨ha85, hb86, hx87⟩ := idx_some hx87
          refine WL.val (Value.pointer (some (elA u81 ((k20 : Int)).toNat))) _ (op_idx sl_25 hr83 rfl rfl ha85 hb86) rfl ?_
          refine WL.storeEl2 (flat_i .i64) hS67 (k := 0) rfl sz_2 hx80 hc82 rfl rfl (lt_of_idx ha85 hb86) ⟨rfl, hr76⟩ ?_
          intro wd88 hS89
          replace hS89 : St w wd88 [(Ty.sl (Ty.sl (Ty.i .i64))).at u12 ((x49).set ((k48 : Int)).toNat ((x77).set ((k20 : Int)).toNat x70))] := hS89
          refine WL.nil ?_
          show W _ _ _ _ _ _
          refine W.region ?_
          refine WL.val (Value.int .i64 (w64 ((k48 : Int) + (1 : Int)))) _ (op_add hf65 rfl) rfl ?_
          refine WL.val (Value.int .i64 (w64 ((k48 : Int) + (1 : Int)))) _ (op_move rfl) rfl ?_
          refine WL.nil ?_
          obtain rfl := Option.some.inj hb54
          show ∃ s, _ = Ctl.next s ∧ _
          exact ⟨_, rfl, hf58, hf59, hf60, hf61, hf62, hf63, hf64, (ctr_next hl68 hr45), (ctr_rng hl68 hr45), hS89⟩
        · intro x96 f91 wd92 hs93 hI94
          replace hI94 : f91 3 = u12 ∧ f91 4 = (Value.int .i64 (k20 : Int)) ∧ f91 15 = v_a ∧ f91 16 = (Value.int .i64 ((a).length : Int)) ∧ f91 17 = (Value.int .i64 (k20 : Int)) ∧ f91 22 = u42 ∧ f91 23 = (Value.int .i64 ((x38).length : Int)) ∧ f91 24 = Value.int .i64 (((x38).length : Nat) : Int) ∧ InR .i64 (((x38).length : Nat) : Int) ∧ St w wd92 [(Ty.sl (Ty.sl (Ty.i .i64))).at u12 x96] := hI94
          obtain ⟨hf97, hf98, hf99, hf100, hf101, hf102, hf103, hf104, hr105, hS106⟩ := hI94
          refine W.seq (W.region ?_)
          refine WL.val (Value.bool (decide ((((x38).length : Nat) : Int) < ((x38).length : Int)))) _ (op_lss hf104 hf103) rfl ?_
          have hl107 : ¬ (((x38).length : Nat) : Int) < ((x38).length : Int) := by omega
          refine WL.nil ?_
          show W _ _ _ _ _ _
          refine W.seq ?_
          refine W.condF (decide ((((x38).length : Nat) : Int) < ((x38).length : Int))) rfl (decide_eq_false hl107) ?_
          refine W.exit ?_
          show _ = _ ∧ _
          exact ⟨rfl, _, hs93, hf97, hf99, hf100, hf101, hS106⟩
      · rintro f108 wd109 ⟨x112, rfl, hq110⟩
        replace hb26 := onRes_fin hb26
        replace hq110 : f108 3 = u12 ∧ f108 15 = v_a ∧ f108 16 = (Value.int .i64 ((a).length : Int)) ∧ f108 17 = (Value.int .i64 (k20 : Int)) ∧ St w wd109 [(Ty.sl (Ty.sl (Ty.i .i64))).at u12 x112] := hq110
        obtain ⟨hf113, hf114, hf115, hf116, hS117⟩ := hq110
        show W _ _ _ _ _ _
        refine W.region ?_
        refine WL.val (Value.int .i64 (w64 ((k20 : Int) + (1 : Int)))) _ (op_add hf116 rfl) rfl ?_
        refine WL.val (Value.int .i64 (w64 ((k20 : Int) + (1 : Int)))) _ (op_move rfl) rfl ?_
        refine WL.nil ?_
        obtain rfl := Option.some.inj hb26
        show ∃ s, _ = Ctl.next s ∧ _
        exact ⟨_, rfl, hf113, hf114, hf115, (ctr_next hl36 hr17), (ctr_rng hl36 hr17), hS117⟩
    · intro x125 f120 wd121 hs122 hI123
      replace hI123 : f120 3 = u12 ∧ f120 15 = v_a ∧ f120 16 = (Value.int .i64 ((a).length : Int)) ∧ f120 17 = Value.int .i64 (((a).length : Nat) : Int) ∧ InR .i64 (((a).length : Nat) : Int) ∧ St w wd121 [(Ty.sl (Ty.sl (Ty.i .i64))).at u12 x125] := hI123
      obtain ⟨hf126, hf127, hf128, hf129, hr130, hS131⟩ := hI123
      refine W.seq (W.region ?_)
      refine WL.val (Value.bool (decide ((((a).length : Nat) : Int) < ((a).length : Int)))) _ (op_lss hf129 hf128) rfl ?_
      have hl132 : ¬ (((a).length : Nat) : Int) < ((a).length : Int) := by omega
      refine WL.nil ?_
      show W _ _ _ _ _ _
      refine W.seq ?_
      refine W.condF (decide ((((a).length : Nat) : Int) < ((a).length : Int))) rfl (decide_eq_false hl132) ?_
      refine W.exit ?_
      show _ = _ ∧ _
      exact ⟨rfl, _, hs122, hf126, hS131⟩
  · rintro f133 wd134 ⟨x137, rfl, hq135⟩
    replace h := onRes_fin h
    replace hq135 : f133 3 = u12 ∧ St w wd134 [(Ty.sl (Ty.sl (Ty.i .i64))).at u12 x137] := hq135
    obtain ⟨hf138, hS139⟩ := hq135
    show W _ _ _ _ _ _
    refine W.seq (W.region ?_)
    refine WL.val u12 _ (op_move hf138) rfl ?_
    refine WL.val u12 _ (op_assign rfl) rfl ?_
    refine WL.nil ?_
    show W _ _ _ _ _ _
    refine W.ret ?_
    obtain rfl := Option.some.inj h
    show FinP _ _ _ _ _ _ _
    exact FinP.ret _ (res1 rfl rfl) ⟨u12, rfl, hS139.ext, (St.out (St.pick hS139 [0] rfl) (Ext.refl _))⟩

theorem c_impl_actionFault {w : World} {r_Table : (List (List (List Int)))} {v_r_Table : Value} {a_Matrices : (List (List (List Int)))} {v_a_Matrices : Value} (r_r_Table : (Ty.sl (Ty.sl (Ty.sl (Ty.i .i64)))).rep w v_r_Table r_Table) (r_a_Matrices : (Ty.sl (Ty.sl (Ty.sl (Ty.i .i64)))).rep w v_a_Matrices a_Matrices) {res : (List Int)} (h : p_impl_actionFault r_Table a_Matrices  = some res) :
    Ret Try.prog 59 #[(Value.agg #[v_r_Table]), (Value.agg #[v_a_Matrices])] w (fun v w' => ∃ (u0 : Value), v = u0 ∧ NilIff u0 res ∧ Ext w w' ∧ Sep w.heap.size w' [(Ty.sl (Ty.i .i64)).at u0 res]) := by
  unfold p_impl_actionFault at h
  have hS0 : St w w [] := St.start w
  refine Ret.start (fn := Try.f59) Try.func59 rfl 134 rfl rfl ?_
  refine W.seq (W.region ?_)
  refine WL.box hS0 rfl (cs := [v_r_Table]) rfl rfl ?_
  intro b1 wd2 hS3 he4 hx5
  replace hS3 : St w wd2 [bx b1 [v_r_Table]] := hS3
  have hx6 := St.boxAt hS3 0 rfl
  have hE7 : Ext w wd2 := hS3.ext
  have hS8 : St wd2 wd2 [] := St.start wd2
  refine WL.box hS8 rfl (cs := [v_a_Matrices]) rfl rfl ?_
  intro b9 wd10 hS11 he12 hx13
  replace hS11 : St wd2 wd10 [bx b9 [v_a_Matrices]] := hS11
  have hx14 := St.boxAt hS11 0 rfl
  have hE15 : Ext w wd10 := (Ext.trans hE7 hS11.ext)
  have hE16 : Ext wd2 wd10 := hS11.ext
  have hS17 : St wd10 wd10 [] := St.start wd10
  refine WL.val (Value.slice none 0 0) _ (op_assign rfl) rfl ?_
  refine WL.nil ?_
  show W _ _ _ _ _ _
  refine W.seq (W.region ?_)
  refine WL.val (Value.pointer (some ⟨b9, 0, none⟩)) _ (op_fieldAddr fd_42_0 rfl) rfl ?_
  refine WL.val v_a_Matrices _ (op_load one_22 rfl (BoxAt.cell (BoxAt.lift hS17.ext hx14) rfl)) rfl ?_
  obtain ⟨x18, hx21, h⟩ := bs h
  obtain ⟨ha19, hb20, hx21⟩ := idx_some hx21
  refine WL.val (Value.pointer (some (elA v_a_Matrices ((0 : Int)).toNat))) _ (op_idx sl_22 (Ty.lift _ (Ext.trans hE15 hS17.ext) r_a_Matrices) rfl rfl ha19 hb20) rfl ?_
  obtain ⟨u22, hc23, hr24⟩ := repSl.el r_a_Matrices hx21
  refine WL.val u22 _ (op_load one_65 rfl (Ext.cell (Ext.trans hE15 hS17.ext) hc23)) rfl ?_
  have hr25 := inR_len (Ty.lift _ (Ext.trans hE15 hS17.ext) hr24)
  refine WL.val (Value.int .i64 ((x18).length : Int)) _ (op_lenL sl_65 (Ty.lift _ (Ext.trans hE15 hS17.ext) hr24) rfl) rfl ?_
  refine WL.val (Value.int .i64 ((x18).length : Int)) _ (op_assign rfl) rfl ?_
  refine WL.nil ?_
  show W _ _ _ _ _ _
  refine W.seq (W.seq ?_)
  obtain ⟨u63, hc64, hr65⟩ := repSl.el r_a_Matrices hx21
  obtain ⟨x84, hx85, h⟩ := bs h
  refine W.drawR mixo 6 [] [fun _ v _ _ => v = (Value.pointer (some ⟨b9, 0, none⟩)), fun _ v _ _ => v = v_a_Matrices, fun _ v _ _ => v = (Value.pointer (some (elA v_a_Matrices ((0 : Int)).toNat))), fun _ v _ _ => v = u63, fun _ v _ _ => v = (Value.int .i64 ((x18).length : Int)) ∧ InR .i64 ((x18).length : Int), fun _ v S w' => SepS S w' [(Ty.sl (Ty.sl (Ty.i .i64))).at v x84]] (by kernel_rfl) (by kernel_rfl) ⟨⟨fun _ _ _ _ _ _ h => h, fun _ _ _ _ _ _ h => h⟩, ⟨fun _ _ _ _ _ _ h => h, fun _ _ _ _ _ _ h => h⟩, ⟨fun _ _ _ _ _ _ h => h, fun _ _ _ _ _ _ h => h⟩, ⟨fun _ _ _ _ _ _ h => h, fun _ _ _ _ _ _ h => h⟩, ⟨fun _ _ _ _ _ _ h => h, fun _ _ _ _ _ _ h => h⟩, ⟨fun _ _ _ _ _ he h => SepS.extend he h, fun _ _ _ _ _ _ h => h⟩, trivial⟩ ⟨?_, ?_, ?_, ?_, ?_, ?_, trivial⟩ ?_
  · refine ObX.op rfl ?_
    intro f26 wd27 he28 hout29 hphi30
    have hS31 : St wd10 wd27 [] := St.extend hS17 he28
    have e32 : f26 3 = (Value.pointer (some ⟨b9, 0, none⟩)) := (hout29 3 rfl).trans rfl
    exact OpX.val (Value.pointer (some ⟨b9, 0, none⟩)) wd27 rfl (op_fieldAddr fd_42_0 e32) (Ext.refl _) rfl
  · refine ObX.op rfl ?_
    intro f33 wd34 he35 hout36 hphi37
    have hS38 : St wd10 wd34 [] := St.extend hS17 he35
    obtain ⟨S39, hS40, hf41⟩ := hphi37 0 24 _ rfl rfl rfl
    have e42 : f33 24 = (Value.pointer (some ⟨b9, 0, none⟩)) := hf41
    exact OpX.val v_a_Matrices wd34 rfl (op_load one_22 e42 (BoxAt.cell (BoxAt.lift hS38.ext hx14) rfl)) (Ext.refl _) rfl
  · refine ObX.op rfl ?_
    intro f43 wd44 he45 hout46 hphi47
    have hS48 : St wd10 wd44 [] := St.extend hS17 he45
    obtain ⟨S49, hS50, hf51⟩ := hphi47 1 25 _ rfl rfl rfl
    have e52 : f43 25 = v_a_Matrices := hf51
    exact OpX.val (Value.pointer (some (elA v_a_Matrices ((0 : Int)).toNat))) wd44 rfl (op_idx sl_22 (Ty.lift _ (Ext.trans hE15 hS48.ext) r_a_Matrices) e52 rfl ha19 hb20) (Ext.refl _) rfl
  · refine ObX.op rfl ?_
    intro f53 wd54 he55 hout56 hphi57
    have hS58 : St wd10 wd54 [] := St.extend hS17 he55
    obtain ⟨S59, hS60, hf61⟩ := hphi57 2 26 _ rfl rfl rfl
    have e62 : f53 26 = (Value.pointer (some (elA v_a_Matrices ((0 : Int)).toNat))) := hf61
    exact OpX.val u63 wd54 rfl (op_load one_65 e62 (Ext.cell (Ext.trans hE15 hS58.ext) hc64)) (Ext.refl _) rfl
  · refine ObX.op rfl ?_
    intro f66 wd67 he68 hout69 hphi70
    have hS71 : St wd10 wd67 [] := St.extend hS17 he68
    have e72 : f66 5 = (Value.int .i64 ((x18).length : Int)) := (hout69 5 rfl).trans rfl
    exact OpX.val (Value.int .i64 ((x18).length : Int)) wd67 rfl (op_move e72) (Ext.refl _) ⟨rfl, hr25⟩
  · refine ObX.op rfl ?_
    intro f73 wd74 he75 hout76 hphi77
    have hS78 : St wd10 wd74 [] := St.extend hS17 he75
    obtain ⟨S79, hS80, hf81⟩ := hphi77 4 28 _ rfl rfl rfl
    obtain ⟨e82, hr83⟩ : f73 28 = (Value.int .i64 ((x18).length : Int)) ∧ InR .i64 ((x18).length : Int) := hf81
    refine OpX.call rfl (op_call fn_53 (args2 e82 rfl)) (Ret.mono (c_impl_unitMatrix hr83 (inR_i64.2 (show (-9223372036854775808 : Int) ≤ 1 ∧ (1 : Int) ≤ 9223372036854775807 from by decide)) hx85) ?_)
    rintro u86 wd87 ⟨_, rfl, he88, hs89⟩
    exact ⟨he88, _, newS _ _, (Sep.new hs89)⟩
  · intro f90 wd91 Ss92 he93 hout94 hSn95 hSd96 hphi97
    show WL _ _ _ _ _ _ _
    have hS98 : St wd10 wd91 [] := St.extend hS17 he93
    have e99 : f90 27 = u63 := hphi97 3 27 _ (by decide) rfl rfl
    have e100 : SepS (Ss92 5) wd91 [(Ty.sl (Ty.sl (Ty.i .i64))).at (f90 29) x84] := hphi97 5 29 _ (by decide) rfl rfl
    have e101 : f90 2 = (Value.pointer (some ⟨b1, 0, none⟩)) := (hout94 2 rfl).trans rfl
    have e102 : f90 3 = (Value.pointer (some ⟨b9, 0, none⟩)) := (hout94 3 rfl).trans rfl
    have e103 : f90 5 = (Value.int .i64 ((x18).length : Int)) := (hout94 5 rfl).trans rfl
    have hS104 := St.joinS hS17 he93 hSn95 (SepS.consS hSd96 rfl e100 SepS.nilS)
    replace hS104 : St wd10 wd91 [(Ty.sl (Ty.sl (Ty.i .i64))).at (f90 29) x84] := hS104
    have hb105 := St.rep (t := (Ty.sl (Ty.sl (Ty.i .i64)))) hS104 0 rfl
    have hE106 : Ext w wd91 := (Ext.trans hE15 hS104.ext)
    have hE107 : Ext wd2 wd91 := (Ext.trans hE16 hS104.ext)
    have hE108 : Ext wd10 wd91 := hS104.ext
    have hS109 : St wd91 wd91 [] := St.start wd91
    obtain ⟨x110, hx111, h⟩ := bs h
    refine WL.call _ (op_call fn_85 (args2 e99 rfl)) (c_impl_equalRows (Ty.lift _ (Ext.trans hE106 hS109.ext) hr65) (Ty.lift _ hS109.ext hb105) hx111) rfl ?_
    rintro _ wd112 ⟨rfl, he113⟩
    have hS115 := St.extend hS109 he113
    replace hS115 : St wd91 wd112 [] := hS115
    refine WL.val (Value.bool (!x110)) _ (op_not rfl) rfl ?_
    refine WL.nil ?_
    show W _ _ _ _ _ _
    refine W.cond (!x110) rfl (fun hc116 => ?_) (fun hc116 => ?_)
    · replace h := ip h hc116
      refine W.seq (W.region ?_)
      refine WL.litFlat (t := (Ty.i .i64)) (flat_i .i64) [(Value.int .i64 (0 : Int))] [(0 : Int)] hS115 sl_25 rfl rfl (fillL rfl ⟨rfl, rfl, rfl, trivial⟩) rfl rfl (litL ⟨⟨rfl, (inR_i64.2 (show (-9223372036854775808 : Int) ≤ 0 ∧ (0 : Int) ≤ 9223372036854775807 from by decide))⟩, trivial⟩) rfl ?_
      intro u118 wd119 hS120 he121
      replace hS120 : St wd91 wd119 [(Ty.sl (Ty.i .i64)).at u118 ([(0 : Int)] : (List Int))] := hS120
      refine WL.val u118 _ (op_assign rfl) rfl ?_
      refine WL.nil ?_
      show W _ _ _ _ _ _
      refine W.ret ?_
      obtain rfl := Option.some.inj h
      show FinP _ _ _ _ _ _ _
      exact FinP.ret _ (res1 rfl rfl) ⟨u118, rfl, (nil_cons), (Ext.trans hE106 hS120.ext), (St.out (St.pick hS120 [0] rfl) (hE106))⟩
    · replace h := inegb h hc116
      refine W.skip ?_
      show W _ _ _ _ _ _
      refine W.seq (W.seq (W.region ?_))
      refine WL.val (Value.pointer (some ⟨b9, 0, none⟩)) _ (op_fieldAddr fd_42_0 e102) rfl ?_
      refine WL.val v_a_Matrices _ (op_load one_22 rfl (BoxAt.cell (BoxAt.lift (Ext.trans hE108 hS115.ext) hx14) rfl)) rfl ?_
      have hr122 := inR_len (Ty.lift _ (Ext.trans hE106 hS115.ext) r_a_Matrices)
      refine WL.val (Value.int .i64 ((a_Matrices).length : Int)) _ (op_lenL sl_22 (Ty.lift _ (Ext.trans hE106 hS115.ext) r_a_Matrices) rfl) rfl ?_
      refine WL.val (Value.int .i64 (0 : Int)) _ (op_move rfl) rfl ?_
      refine WL.nil ?_
      show W _ _ _ _ _ _
      obtain ⟨res123, hres124, h⟩ := bs h
      refine W.blockLoop (fun fq wq => ∃ s, res123 = Res.fin s ∧ fq 2 = (Value.pointer (some ⟨b1, 0, none⟩)) ∧ fq 3 = (Value.pointer (some ⟨b9, 0, none⟩)) ∧ St wd91 wq []) ?_ ?_
      · refine W.forN (fun k (s : Unit) fq wq => fq 2 = (Value.pointer (some ⟨b1, 0, none⟩)) ∧ fq 3 = (Value.pointer (some ⟨b9, 0, none⟩)) ∧ fq 5 = (Value.int .i64 ((x18).length : Int)) ∧ fq 34 = v_a_Matrices ∧ fq 35 = (Value.int .i64 ((a_Matrices).length : Int)) ∧ fq 36 = Value.int .i64 (k : Int) ∧ InR .i64 (k : Int) ∧ St wd91 wq []) hres124 ⟨e101, e102, e103, rfl, rfl, rfl, (inR_i64.2 (show (-9223372036854775808 : Int) ≤ 0 ∧ (0 : Int) ≤ 9223372036854775807 from by decide)), hS115⟩ ?_ ?_
        · intro k125 s581 ct126 f127 wd128 hk129 hb130 hI131 hbrk132 hret133
          obtain ⟨⟩ := s581
          replace hI131 : f127 2 = (Value.pointer (some ⟨b1, 0, none⟩)) ∧ f127 3 = (Value.pointer (some ⟨b9, 0, none⟩)) ∧ f127 5 = (Value.int .i64 ((x18).length : Int)) ∧ f127 34 = v_a_Matrices ∧ f127 35 = (Value.int .i64 ((a_Matrices).length : Int)) ∧ f127 36 = Value.int .i64 (k125 : Int) ∧ InR .i64 (k125 : Int) ∧ St wd91 wd128 [] := hI131
          replace hb130 : p_impl_actionFault_L1 a_Matrices x18 r_Table k125  = some ct126 := hb130
          unfold p_impl_actionFault_L1 at hb130
          obtain ⟨hf134, hf135, hf136, hf137, hf138, hf139, hr140, hS141⟩ := hI131
          refine W.seq (W.region ?_)
          refine WL.val (Value.bool (decide ((k125 : Int) < ((a_Matrices).length : Int)))) _ (op_lss hf139 hf138) rfl ?_
          have hl142 : (k125 : Int) < ((a_Matrices).length : Int) := by omega
          refine WL.nil ?_
          show W _ _ _ _ _ _
          refine W.seq ?_
          refine W.condT (decide ((k125 : Int) < ((a_Matrices).length : Int))) rfl (decide_eq_true hl142) ?_
          refine W.skip ?_
          show W _ _ _ _ _ _
          refine W.seq ?_
          refine W.block ?_
          refine W.seq (W.region ?_)
          refine WL.val (Value.int .i64 (k125 : Int)) _ (op_move hf139) rfl ?_
          obtain ⟨x144, hx147, hb130⟩ := bs hb130
          obtain ⟨ha145, hb146, hx147⟩ := idx_some hx147
          refine WL.val (Value.pointer (some (elA v_a_Matrices ((k125 : Int)).toNat))) _ (op_idx sl_22 (Ty.lift _ (Ext.trans hE106 hS141.ext) r_a_Matrices) hf137 hf139 ha145 hb146) rfl ?_
          obtain ⟨u148, hc149, hr150⟩ := repSl.el r_a_Matrices hx147
          refine WL.val u148 _ (op_load one_65 rfl (Ext.cell (Ext.trans hE106 hS141.ext) hc149)) rfl ?_
          refine WL.val (Value.int .i64 (k125 : Int)) _ (op_assign rfl) rfl ?_
          refine WL.val u148 _ (op_assign rfl) rfl ?_
          refine WL.nil ?_
          show W _ _ _ _ _ _
          refine W.seq (W.region ?_)
          refine WL.val (Value.pointer (some ⟨b9, 0, none⟩)) _ (op_fieldAddr fd_42_0 hf135) rfl ?_
          refine WL.val v_a_Matrices _ (op_load one_22 rfl (BoxAt.cell (BoxAt.lift (Ext.trans hE108 hS141.ext) hx14) rfl)) rfl ?_
          have hr151 := inR_len (Ty.lift _ (Ext.trans hE106 hS141.ext) r_a_Matrices)
          refine WL.val (Value.int .i64 ((a_Matrices).length : Int)) _ (op_lenL sl_22 (Ty.lift _ (Ext.trans hE106 hS141.ext) r_a_Matrices) rfl) rfl ?_
          refine WL.val (Value.int .i64 (0 : Int)) _ (op_move rfl) rfl ?_
          refine WL.nil ?_
          show W _ _ _ _ _ _
          obtain ⟨res152, hres153, hb130⟩ := bs hb130
          refine W.blockLoop (fun fq wq => ∃ s, res152 = Res.fin s ∧ fq 2 = (Value.pointer (some ⟨b1, 0, none⟩)) ∧ fq 3 = (Value.pointer (some ⟨b9, 0, none⟩)) ∧ fq 5 = (Value.int .i64 ((x18).length : Int)) ∧ fq 34 = v_a_Matrices ∧ fq 35 = (Value.int .i64 ((a_Matrices).length : Int)) ∧ fq 36 = (Value.int .i64 (k125 : Int)) ∧ St wd91 wq []) ?_ ?_
          · refine W.forN (fun k (s : Unit) fq wq => fq 2 = (Value.pointer (some ⟨b1, 0, none⟩)) ∧ fq 3 = (Value.pointer (some ⟨b9, 0, none⟩)) ∧ fq 5 = (Value.int .i64 ((x18).length : Int)) ∧ fq 6 = (Value.int .i64 (k125 : Int)) ∧ fq 7 = u148 ∧ fq 34 = v_a_Matrices ∧ fq 35 = (Value.int .i64 ((a_Matrices).length : Int)) ∧ fq 36 = (Value.int .i64 (k125 : Int)) ∧ fq 42 = v_a_Matrices ∧ fq 43 = (Value.int .i64 ((a_Matrices).length : Int)) ∧ fq 44 = Value.int .i64 (k : Int) ∧ InR .i64 (k : Int) ∧ St wd91 wq []) hres153 ⟨hf134, hf135, hf136, rfl, rfl, hf137, hf138, hf139, rfl, rfl, rfl, (inR_i64.2 (show (-9223372036854775808 : Int) ≤ 0 ∧ (0 : Int) ≤ 9223372036854775807 from by decide)), hS141⟩ ?_ ?_
            · intro k154 s549 ct155 f156 wd157 hk158 hb159 hI160 hbrk161 hret162
              obtain ⟨⟩ := s549
              replace hI160 : f156 2 = (Value.pointer (some ⟨b1, 0, none⟩)) ∧ f156 3 = (Value.pointer (some ⟨b9, 0, none⟩)) ∧ f156 5 = (Value.int .i64 ((x18).length : Int)) ∧ f156 6 = (Value.int .i64 (k125 : Int)) ∧ f156 7 = u148 ∧ f156 34 = v_a_Matrices ∧ f156 35 = (Value.int .i64 ((a_Matrices).length : Int)) ∧ f156 36 = (Value.int .i64 (k125 : Int)) ∧ f156 42 = v_a_Matrices ∧ f156 43 = (Value.int .i64 ((a_Matrices).length : Int)) ∧ f156 44 = Value.int .i64 (k154 : Int) ∧ InR .i64 (k154 : Int) ∧ St wd91 wd157 [] := hI160
              replace hb159 : p_impl_actionFault_L2 a_Matrices x18 r_Table k125 x144 k154  = some ct155 := hb159
              unfold p_impl_actionFault_L2 at hb159
              obtain ⟨hf163, hf164, hf165, hf166, hf167, hf168, hf169, hf170, hf171, hf172, hf173, hr174, hS175⟩ := hI160
              refine W.seq (W.region ?_)
              refine WL.val (Value.bool (decide ((k154 : Int) < ((a_Matrices).length : Int)))) _ (op_lss hf173 hf172) rfl ?_
              have hl176 : (k154 : Int) < ((a_Matrices).length : Int) := by omega
              refine WL.nil ?_
              show W _ _ _ _ _ _
              refine W.seq ?_
              refine W.condT (decide ((k154 : Int) < ((a_Matrices).length : Int))) rfl (decide_eq_true hl176) ?_
              refine W.skip ?_
              show W _ _ _ _ _ _
              refine W.seq ?_
              refine W.block ?_
              refine W.seq (W.region ?_)
              refine WL.val (Value.int .i64 (k154 : Int)) _ (op_move hf173) rfl ?_
              obtain ⟨x178, hx181, hb159⟩ := bs hb159
              obtain ⟨ha179, hb180, hx181⟩ := idx_some hx181
              refine WL.val (Value.pointer (some (elA v_a_Matrices ((k154 : Int)).toNat))) _ (op_idx sl_22 (Ty.lift _ (Ext.trans hE106 hS175.ext) r_a_Matrices) hf171 hf173 ha179 hb180) rfl ?_
              obtain ⟨u182, hc183, hr184⟩ := repSl.el r_a_Matrices hx181
              refine WL.val u182 _ (op_load one_65 rfl (Ext.cell (Ext.trans hE106 hS175.ext) hc183)) rfl ?_
              refine WL.val (Value.int .i64 (k154 : Int)) _ (op_assign rfl) rfl ?_
              refine WL.val u182 _ (op_assign rfl) rfl ?_
              refine WL.nil ?_
              show W _ _ _ _ _ _
              refine W.seq (W.region ?_)
              refine WL.val (Value.int .i64 ((x18).length : Int)) _ (op_move hf165) rfl ?_
              refine WL.val (Value.int .i64 ((x18).length : Int)) _ (op_move hf165) rfl ?_
              obtain ⟨x185, hx186, hb159⟩ := bs hb159
              refine WL.call _ (op_call fn_80 (args2 rfl rfl)) (c_impl_zeros hr25 hr25 hx186) rfl ?_
              rintro u187 wd188 ⟨_, rfl, he189, hs190⟩
              have hS191 := St.join hS175 he189 hs190
              replace hS191 : St wd91 wd188 [(Ty.sl (Ty.sl (Ty.i .i64))).at u187 x185] := hS191
              refine WL.val u187 _ (op_assign rfl) rfl ?_
              refine WL.nil ?_
              show W _ _ _ _ _ _
              refine W.seq (W.seq (W.region ?_))
              refine WL.val (Value.pointer (some ⟨b1, 0, none⟩)) _ (op_fieldAddr fd_29_0 hf163) rfl ?_
              refine WL.val v_r_Table _ (op_load one_22 rfl (BoxAt.cell (BoxAt.lift (Ext.trans hE107 hS191.ext) hx6) rfl)) rfl ?_
              refine WL.val (Value.int .i64 (k125 : Int)) _ (op_move hf166) rfl ?_
              obtain ⟨x192, hx195, hb159⟩ := bs hb159
              obtain ⟨ha193, hb194, hx195⟩ := idx_some hx195
              refine WL.val (Value.pointer (some (elA v_r_Table ((k125 : Int)).toNat))) _ (op_idx sl_22 (Ty.lift _ (Ext.trans hE106 hS191.ext) r_r_Table) rfl rfl ha193 hb194) rfl ?_
              obtain ⟨u196, hc197, hr198⟩ := repSl.el r_r_Table hx195
              refine WL.val u196 _ (op_load one_65 rfl (Ext.cell (Ext.trans hE106 hS191.ext) hc197)) rfl ?_
              refine WL.val (Value.int .i64 (k154 : Int)) _ (op_move rfl) rfl ?_
              obtain ⟨x199, hx202, hb159⟩ := bs hb159
              obtain ⟨ha200, hb201, hx202⟩ := idx_some hx202
              refine WL.val (Value.pointer (some (elA u196 ((k154 : Int)).toNat))) _ (op_idx sl_65 (Ty.lift _ (Ext.trans hE106 hS191.ext) hr198) rfl rfl ha200 hb201) rfl ?_
              obtain ⟨u203, hc204, hr205⟩ := repSl.el hr198 hx202
              refine WL.val u203 _ (op_load one_25 rfl (Ext.cell (Ext.trans hE106 hS191.ext) hc204)) rfl ?_
              have hr206 := inR_len (Ty.lift _ (Ext.trans hE106 hS191.ext) hr205)
              refine WL.val (Value.int .i64 ((x199).length : Int)) _ (op_lenL sl_25 (Ty.lift _ (Ext.trans hE106 hS191.ext) hr205) rfl) rfl ?_
              refine WL.val (Value.int .i64 (0 : Int)) _ (op_move rfl) rfl ?_
              refine WL.nil ?_
              show W _ _ _ _ _ _
              obtain ⟨res207, hres208, hb159⟩ := bs hb159
              refine W.blockLoop (fun fq wq => ∃ s, res207 = Res.fin s ∧ fq 2 = (Value.pointer (some ⟨b1, 0, none⟩)) ∧ fq 3 = (Value.pointer (some ⟨b9, 0, none⟩)) ∧ fq 5 = (Value.int .i64 ((x18).length : Int)) ∧ fq 6 = (Value.int .i64 (k125 : Int)) ∧ fq 7 = u148 ∧ fq 8 = (Value.int .i64 (k154 : Int)) ∧ fq 9 = u182 ∧ fq 10 = u187 ∧ fq 34 = v_a_Matrices ∧ fq 35 = (Value.int .i64 ((a_Matrices).length : Int)) ∧ fq 36 = (Value.int .i64 (k125 : Int)) ∧ fq 42 = v_a_Matrices ∧ fq 43 = (Value.int .i64 ((a_Matrices).length : Int)) ∧ fq 44 = (Value.int .i64 (k154 : Int)) ∧ St wd91 wq [(Ty.sl (Ty.sl (Ty.i .i64))).at u187 s]) ?_ ?_
              · refine W.forN (fun k (s : (List (List Int))) fq wq => fq 2 = (Value.pointer (some ⟨b1, 0, none⟩)) ∧ fq 3 = (Value.pointer (some ⟨b9, 0, none⟩)) ∧ fq 5 = (Value.int .i64 ((x18).length : Int)) ∧ fq 6 = (Value.int .i64 (k125 : Int)) ∧ fq 7 = u148 ∧ fq 8 = (Value.int .i64 (k154 : Int)) ∧ fq 9 = u182 ∧ fq 10 = u187 ∧ fq 34 = v_a_Matrices ∧ fq 35 = (Value.int .i64 ((a_Matrices).length : Int)) ∧ fq 36 = (Value.int .i64 (k125 : Int)) ∧ fq 42 = v_a_Matrices ∧ fq 43 = (Value.int .i64 ((a_Matrices).length : Int)) ∧ fq 44 = (Value.int .i64 (k154 : Int)) ∧ fq 59 = u203 ∧ fq 60 = (Value.int .i64 ((x199).length : Int)) ∧ fq 61 = Value.int .i64 (k : Int) ∧ InR .i64 (k : Int) ∧ St wd91 wq [(Ty.sl (Ty.sl (Ty.i .i64))).at u187 s]) hres208 ⟨hf163, hf164, hf165, hf166, hf167, rfl, rfl, rfl, hf168, hf169, hf170, hf171, hf172, hf173, rfl, rfl, rfl, (inR_i64.2 (show (-9223372036854775808 : Int) ≤ 0 ∧ (0 : Int) ≤ 9223372036854775807 from by decide)), hS191⟩ ?_ ?_
                · intro k209 x210 ct211 f212 wd213 hk214 hb215 hI216 hbrk217 hret218
                  replace hI216 : f212 2 = (Value.pointer (some ⟨b1, 0, none⟩)) ∧ f212 3 = (Value.pointer (some ⟨b9, 0, none⟩)) ∧ f212 5 = (Value.int .i64 ((x18).length : Int)) ∧ f212 6 = (Value.int .i64 (k125 : Int)) ∧ f212 7 = u148 ∧ f212 8 = (Value.int .i64 (k154 : Int)) ∧ f212 9 = u182 ∧ f212 10 = u187 ∧ f212 34 = v_a_Matrices ∧ f212 35 = (Value.int .i64 ((a_Matrices).length : Int)) ∧ f212 36 = (Value.int .i64 (k125 : Int)) ∧ f212 42 = v_a_Matrices ∧ f212 43 = (Value.int .i64 ((a_Matrices).length : Int)) ∧ f212 44 = (Value.int .i64 (k154 : Int)) ∧ f212 59 = u203 ∧ f212 60 = (Value.int .i64 ((x199).length : Int)) ∧ f212 61 = Value.int .i64 (k209 : Int) ∧ InR .i64 (k209 : Int) ∧ St wd91 wd213 [(Ty.sl (Ty.sl (Ty.i .i64))).at u187 x210] := hI216
                  replace hb215 : p_impl_actionFault_L3 x199 a_Matrices k209 x210 = some ct211 := hb215
                  unfold p_impl_actionFault_L3 at hb215
                  obtain ⟨hf219, hf220, hf221, hf222, hf223, hf224, hf225, hf226, hf227, hf228, hf229, hf230, hf231, hf232, hf233, hf234, hf235, hr236, hS237⟩ := hI216
                  refine W.seq (W.region ?_)
                  refine WL.val (Value.bool (decide ((k209 : Int) < ((x199).length : Int)))) _ (op_lss hf235 hf234) rfl ?_
                  have hl238 : (k209 : Int) < ((x199).length : Int) := by omega
                  refine WL.nil ?_
                  show W _ _ _ _ _ _
                  refine W.seq ?_
                  refine W.condT (decide ((k209 : Int) < ((x199).length : Int))) rfl (decide_eq_true hl238) ?_
                  refine W.skip ?_
                  show W _ _ _ _ _ _
                  refine W.seq ?_
                  refine W.block ?_
                  refine W.seq (W.region ?_)
                  refine WL.val (Value.int .i64 (k209 : Int)) _ (op_move hf235) rfl ?_
                  obtain ⟨x240, hx243, hb215⟩ := bs hb215
                  obtain ⟨ha241, hb242, hx243⟩ := idx_some hx243
                  refine WL.val (Value.pointer (some (elA u203 ((k209 : Int)).toNat))) _ (op_idx sl_25 (Ty.lift _ (Ext.trans hE106 hS237.ext) hr205) hf233 hf235 ha241 hb242) rfl ?_
                  obtain ⟨u244, hc245, hr246⟩ := repSl.el hr205 hx243
                  obtain ⟨rfl, hr246⟩ := hr246
                  refine WL.val (Value.int .i64 x240) _ (op_load one_2 rfl (Ext.cell (Ext.trans hE106 hS237.ext) hc245)) rfl ?_
                  refine WL.val (Value.int .i64 (k209 : Int)) _ (op_assign rfl) rfl ?_
                  refine WL.val (Value.int .i64 x240) _ (op_assign rfl) rfl ?_
                  refine WL.nil ?_
                  show W _ _ _ _ _ _
                  refine W.seq (W.region ?_)
                  refine WL.val (Value.pointer (some ⟨b9, 0, none⟩)) _ (op_fieldAddr fd_42_0 hf220) rfl ?_
                  refine WL.val v_a_Matrices _ (op_load one_22 rfl (BoxAt.cell (BoxAt.lift (Ext.trans hE108 hS237.ext) hx14) rfl)) rfl ?_
                  refine WL.val (Value.int .i64 (k209 : Int)) _ (op_move rfl) rfl ?_
                  obtain ⟨x247, hx250, hb215⟩ := bs hb215
                  obtain ⟨ha248, hb249, hx250⟩ := idx_some hx250
                  refine WL.val (Value.pointer (some (elA v_a_Matrices ((k209 : Int)).toNat))) _ (op_idx sl_22 (Ty.lift _ (Ext.trans hE106 hS237.ext) r_a_Matrices) rfl rfl ha248 hb249) rfl ?_
                  obtain ⟨u251, hc252, hr253⟩ := repSl.el r_a_Matrices hx250
                  refine WL.val u251 _ (op_load one_65 rfl (Ext.cell (Ext.trans hE106 hS237.ext) hc252)) rfl ?_
                  have hr254 := inR_len (Ty.lift _ (Ext.trans hE106 hS237.ext) hr253)
                  refine WL.val (Value.int .i64 ((x247).length : Int)) _ (op_lenL sl_65 (Ty.lift _ (Ext.trans hE106 hS237.ext) hr253) rfl) rfl ?_
                  refine WL.val (Value.int .i64 (0 : Int)) _ (op_move rfl) rfl ?_
                  refine WL.nil ?_
                  show W _ _ _ _ _ _
                  obtain ⟨res255, hres256, hb215⟩ := bs hb215
                  refine W.blockLoop (fun fq wq => ∃ s, res255 = Res.fin s ∧ fq 2 = (Value.pointer (some ⟨b1, 0, none⟩)) ∧ fq 3 = (Value.pointer (some ⟨b9, 0, none⟩)) ∧ fq 5 = (Value.int .i64 ((x18).length : Int)) ∧ fq 6 = (Value.int .i64 (k125 : Int)) ∧ fq 7 = u148 ∧ fq 8 = (Value.int .i64 (k154 : Int)) ∧ fq 9 = u182 ∧ fq 10 = u187 ∧ fq 34 = v_a_Matrices ∧ fq 35 = (Value.int .i64 ((a_Matrices).length : Int)) ∧ fq 36 = (Value.int .i64 (k125 : Int)) ∧ fq 42 = v_a_Matrices ∧ fq 43 = (Value.int .i64 ((a_Matrices).length : Int)) ∧ fq 44 = (Value.int .i64 (k154 : Int)) ∧ fq 59 = u203 ∧ fq 60 = (Value.int .i64 ((x199).length : Int)) ∧ fq 61 = (Value.int .i64 (k209 : Int)) ∧ St wd91 wq [(Ty.sl (Ty.sl (Ty.i .i64))).at u187 s]) ?_ ?_
                  · refine W.forN (fun k (s : (List (List Int))) fq wq => fq 2 = (Value.pointer (some ⟨b1, 0, none⟩)) ∧ fq 3 = (Value.pointer (some ⟨b9, 0, none⟩)) ∧ fq 5 = (Value.int .i64 ((x18).length : Int)) ∧ fq 6 = (Value.int .i64 (k125 : Int)) ∧ fq 7 = u148 ∧ fq 8 = (Value.int .i64 (k154 : Int)) ∧ fq 9 = u182 ∧ fq 10 = u187 ∧ fq 12 = (Value.int .i64 x240) ∧ fq 34 = v_a_Matrices ∧ fq 35 = (Value.int .i64 ((a_Matrices).length : Int)) ∧ fq 36 = (Value.int .i64 (k125 : Int)) ∧ fq 42 = v_a_Matrices ∧ fq 43 = (Value.int .i64 ((a_Matrices).length : Int)) ∧ fq 44 = (Value.int .i64 (k154 : Int)) ∧ fq 59 = u203 ∧ fq 60 = (Value.int .i64 ((x199).length : Int)) ∧ fq 61 = (Value.int .i64 (k209 : Int)) ∧ fq 70 = u251 ∧ fq 71 = (Value.int .i64 ((x247).length : Int)) ∧ fq 72 = Value.int .i64 (k : Int) ∧ InR .i64 (k : Int) ∧ St wd91 wq [(Ty.sl (Ty.sl (Ty.i .i64))).at u187 s]) hres256 ⟨hf219, hf220, hf221, hf222, hf223, hf224, hf225, hf226, rfl, hf227, hf228, hf229, hf230, hf231, hf232, hf233, hf234, hf235, rfl, rfl, rfl, (inR_i64.2 (show (-9223372036854775808 : Int) ≤ 0 ∧ (0 : Int) ≤ 9223372036854775807 from by decide)), hS237⟩ ?_ ?_
                    · intro k257 x258 ct259 f260 wd261 hk262 hb263 hI264 hbrk265 hret266
                      replace hI264 : f260 2 = (Value.pointer (some ⟨b1, 0, none⟩)) ∧ f260 3 = (Value.pointer (some ⟨b9, 0, none⟩)) ∧ f260 5 = (Value.int .i64 ((x18).length : Int)) ∧ f260 6 = (Value.int .i64 (k125 : Int)) ∧ f260 7 = u148 ∧ f260 8 = (Value.int .i64 (k154 : Int)) ∧ f260 9 = u182 ∧ f260 10 = u187 ∧ f260 12 = (Value.int .i64 x240) ∧ f260 34 = v_a_Matrices ∧ f260 35 = (Value.int .i64 ((a_Matrices).length : Int)) ∧ f260 36 = (Value.int .i64 (k125 : Int)) ∧ f260 42 = v_a_Matrices ∧ f260 43 = (Value.int .i64 ((a_Matrices).length : Int)) ∧ f260 44 = (Value.int .i64 (k154 : Int)) ∧ f260 59 = u203 ∧ f260 60 = (Value.int .i64 ((x199).length : Int)) ∧ f260 61 = (Value.int .i64 (k209 : Int)) ∧ f260 70 = u251 ∧ f260 71 = (Value.int .i64 ((x247).length : Int)) ∧ f260 72 = Value.int .i64 (k257 : Int) ∧ InR .i64 (k257 : Int) ∧ St wd91 wd261 [(Ty.sl (Ty.sl (Ty.i .i64))).at u187 x258] := hI264
                      replace hb263 : p_impl_actionFault_L4 x247 x240 k257 x258 = some ct259 := hb263
                      unfold p_impl_actionFault_L4 at hb263
                      obtain ⟨hf267, hf268, hf269, hf270, hf271, hf272, hf273, hf274, hf275, hf276, hf277, hf278, hf279, hf280, hf281, hf282, hf283, hf284, hf285, hf286, hf287, hr288, hS289⟩ := hI264
                      refine W.seq (W.region ?_)
                      refine WL.val (Value.bool (decide ((k257 : Int) < ((x247).length : Int)))) _ (op_lss hf287 hf286) rfl ?_
                      have hl290 : (k257 : Int) < ((x247).length : Int) := by omega
                      refine WL.nil ?_
                      show W _ _ _ _ _ _
                      refine W.seq ?_
                      refine W.condT (decide ((k257 : Int) < ((x247).length : Int))) rfl (decide_eq_true hl290) ?_
                      refine W.skip ?_
                      show W _ _ _ _ _ _
                      refine W.seq ?_
                      refine W.block ?_
                      refine W.seq (W.region ?_)
                      refine WL.val (Value.int .i64 (k257 : Int)) _ (op_move hf287) rfl ?_
                      obtain ⟨x292, hx295, hb263⟩ := bs hb263
                      obtain ⟨ha293, hb294, hx295⟩ := idx_some hx295
                      refine WL.val (Value.pointer (some (elA u251 ((k257 : Int)).toNat))) _ (op_idx sl_65 (Ty.lift _ (Ext.trans hE106 hS289.ext) hr253) hf285 hf287 ha293 hb294) rfl ?_
                      obtain ⟨u296, hc297, hr298⟩ := repSl.el hr253 hx295
                      refine WL.val u296 _ (op_load one_25 rfl (Ext.cell (Ext.trans hE106 hS289.ext) hc297)) rfl ?_
                      refine WL.val (Value.int .i64 (k257 : Int)) _ (op_assign rfl) rfl ?_
                      refine WL.val u296 _ (op_assign rfl) rfl ?_
                      refine WL.nil ?_
                      show W _ _ _ _ _ _
                      refine W.seq (W.region ?_)
                      refine WL.val u296 _ (op_move rfl) rfl ?_
                      have hr299 := inR_len (Ty.lift _ (Ext.trans hE106 hS289.ext) hr298)
                      refine WL.val (Value.int .i64 ((x292).length : Int)) _ (op_lenL sl_25 (Ty.lift _ (Ext.trans hE106 hS289.ext) hr298) rfl) rfl ?_
                      refine WL.val (Value.int .i64 (0 : Int)) _ (op_move rfl) rfl ?_
                      refine WL.nil ?_
                      show W _ _ _ _ _ _
                      obtain ⟨res300, hres301, hb263⟩ := bs hb263
                      refine W.blockLoop (fun fq wq => ∃ s, res300 = Res.fin s ∧ fq 2 = (Value.pointer (some ⟨b1, 0, none⟩)) ∧ fq 3 = (Value.pointer (some ⟨b9, 0, none⟩)) ∧ fq 5 = (Value.int .i64 ((x18).length : Int)) ∧ fq 6 = (Value.int .i64 (k125 : Int)) ∧ fq 7 = u148 ∧ fq 8 = (Value.int .i64 (k154 : Int)) ∧ fq 9 = u182 ∧ fq 10 = u187 ∧ fq 12 = (Value.int .i64 x240) ∧ fq 34 = v_a_Matrices ∧ fq 35 = (Value.int .i64 ((a_Matrices).length : Int)) ∧ fq 36 = (Value.int .i64 (k125 : Int)) ∧ fq 42 = v_a_Matrices ∧ fq 43 = (Value.int .i64 ((a_Matrices).length : Int)) ∧ fq 44 = (Value.int .i64 (k154 : Int)) ∧ fq 59 = u203 ∧ fq 60 = (Value.int .i64 ((x199).length : Int)) ∧ fq 61 = (Value.int .i64 (k209 : Int)) ∧ fq 70 = u251 ∧ fq 71 = (Value.int .i64 ((x247).length : Int)) ∧ fq 72 = (Value.int .i64 (k257 : Int)) ∧ St wd91 wq [(Ty.sl (Ty.sl (Ty.i .i64))).at u187 s]) ?_ ?_
                      · refine W.forN (fun k (s : (List (List Int))) fq wq => fq 2 = (Value.pointer (some ⟨b1, 0, none⟩)) ∧ fq 3 = (Value.pointer (some ⟨b9, 0, none⟩)) ∧ fq 5 = (Value.int .i64 ((x18).length : Int)) ∧ fq 6 = (Value.int .i64 (k125 : Int)) ∧ fq 7 = u148 ∧ fq 8 = (Value.int .i64 (k154 : Int)) ∧ fq 9 = u182 ∧ fq 10 = u187 ∧ fq 12 = (Value.int .i64 x240) ∧ fq 13 = (Value.int .i64 (k257 : Int)) ∧ fq 34 = v_a_Matrices ∧ fq 35 = (Value.int .i64 ((a_Matrices).length : Int)) ∧ fq 36 = (Value.int .i64 (k125 : Int)) ∧ fq 42 = v_a_Matrices ∧ fq 43 = (Value.int .i64 ((a_Matrices).length : Int)) ∧ fq 44 = (Value.int .i64 (k154 : Int)) ∧ fq 59 = u203 ∧ fq 60 = (Value.int .i64 ((x199).length : Int)) ∧ fq 61 = (Value.int .i64 (k209 : Int)) ∧ fq 70 = u251 ∧ fq 71 = (Value.int .i64 ((x247).length : Int)) ∧ fq 72 = (Value.int .i64 (k257 : Int)) ∧ fq 77 = u296 ∧ fq 78 = (Value.int .i64 ((x292).length : Int)) ∧ fq 79 = Value.int .i64 (k : Int) ∧ InR .i64 (k : Int) ∧ St wd91 wq [(Ty.sl (Ty.sl (Ty.i .i64))).at u187 s]) hres301 ⟨hf267, hf268, hf269, hf270, hf271, hf272, hf273, hf274, hf275, rfl, hf276, hf277, hf278, hf279, hf280, hf281, hf282, hf283, hf284, hf285, hf286, hf287, rfl, rfl, rfl, (inR_i64.2 (show (-9223372036854775808 : Int) ≤ 0 ∧ (0 : Int) ≤ 9223372036854775807 from by decide)), hS289⟩ ?_ ?_
                        · intro k302 x303 ct304 f305 wd306 hk307 hb308 hI309 hbrk310 hret311
                          replace hI309 : f305 2 = (Value.pointer (some ⟨b1, 0, none⟩)) ∧ f305 3 = (Value.pointer (some ⟨b9, 0, none⟩)) ∧ f305 5 = (Value.int .i64 ((x18).length : Int)) ∧ f305 6 = (Value.int .i64 (k125 : Int)) ∧ f305 7 = u148 ∧ f305 8 = (Value.int .i64 (k154 : Int)) ∧ f305 9 = u182 ∧ f305 10 = u187 ∧ f305 12 = (Value.int .i64 x240) ∧ f305 13 = (Value.int .i64 (k257 : Int)) ∧ f305 34 = v_a_Matrices ∧ f305 35 = (Value.int .i64 ((a_Matrices).length : Int)) ∧ f305 36 = (Value.int .i64 (k125 : Int)) ∧ f305 42 = v_a_Matrices ∧ f305 43 = (Value.int .i64 ((a_Matrices).length : Int)) ∧ f305 44 = (Value.int .i64 (k154 : Int)) ∧ f305 59 = u203 ∧ f305 60 = (Value.int .i64 ((x199).length : Int)) ∧ f305 61 = (Value.int .i64 (k209 : Int)) ∧ f305 70 = u251 ∧ f305 71 = (Value.int .i64 ((x247).length : Int)) ∧ f305 72 = (Value.int .i64 (k257 : Int)) ∧ f305 77 = u296 ∧ f305 78 = (Value.int .i64 ((x292).length : Int)) ∧ f305 79 = Value.int .i64 (k302 : Int) ∧ InR .i64 (k302 : Int) ∧ St wd91 wd306 [(Ty.sl (Ty.sl (Ty.i .i64))).at u187 x303] := hI309
                          replace hb308 : p_impl_actionFault_L5 x292 k257 x240 k302 x303 = some ct304 := hb308
                          unfold p_impl_actionFault_L5 at hb308
                          obtain ⟨hf312, hf313, hf314, hf315, hf316, hf317, hf318, hf319, hf320, hf321, hf322, hf323, hf324, hf325, hf326, hf327, hf328, hf329, hf330, hf331, hf332, hf333, hf334, hf335, hf336, hr337, hS338⟩ := hI309
                          refine W.seq (W.region ?_)
                          refine WL.val (Value.bool (decide ((k302 : Int) < ((x292).length : Int)))) _ (op_lss hf336 hf335) rfl ?_
                          have hl339 : (k302 : Int) < ((x292).length : Int) := by omega
                          refine WL.nil ?_
                          show W _ _ _ _ _ _
                          refine W.seq ?_
                          refine W.condT (decide ((k302 : Int) < ((x292).length : Int))) rfl (decide_eq_true hl339) ?_
                          refine W.skip ?_
                          show W _ _ _ _ _ _
                          refine W.seq ?_
                          refine W.block ?_
                          refine W.seq (W.region ?_)
                          refine WL.val (Value.int .i64 (k302 : Int)) _ (op_move hf336) rfl ?_
                          obtain ⟨x341, hx344, hb308⟩ := bs hb308
                          obtain ⟨ha342, hb343, hx344⟩ := idx_some hx344
                          refine WL.val (Value.pointer (some (elA u296 ((k302 : Int)).toNat))) _ (op_idx sl_25 (Ty.lift _ (Ext.trans hE106 hS338.ext) hr298) hf334 hf336 ha342 hb343) rfl ?_
                          obtain ⟨u345, hc346, hr347⟩ := repSl.el hr298 hx344
                          obtain ⟨rfl, hr347⟩ := hr347
                          refine WL.val (Value.int .i64 x341) _ (op_load one_2 rfl (Ext.cell (Ext.trans hE106 hS338.ext) hc346)) rfl ?_
                          refine WL.val (Value.int .i64 (k302 : Int)) _ (op_assign rfl) rfl ?_
                          refine WL.val (Value.int .i64 x341) _ (op_assign rfl) rfl ?_
                          refine WL.nil ?_
                          show W _ _ _ _ _ _
                          refine W.region ?_
                          refine WL.val u187 _ (op_move hf319) rfl ?_
                          refine WL.val (Value.int .i64 (k257 : Int)) _ (op_move hf321) rfl ?_
                          obtain ⟨x348, hx351, hb308⟩ := bs hb308
                          obtain ⟨ha349, hb350, hx351⟩ := idx_some hx351
                          refine WL.val (Value.pointer (some (elA u187 ((k257 : Int)).toNat))) _ (op_idx sl_65 (St.rep (t := (Ty.sl (Ty.sl (Ty.i .i64)))) hS338 0 rfl) rfl rfl ha349 hb350) rfl ?_
                          obtain ⟨u352, hc353, hr354⟩ := repSl.el (St.rep (t := (Ty.sl (Ty.sl (Ty.i .i64)))) hS338 0 rfl) hx351
                          refine WL.val u352 _ (op_load one_25 rfl hc353) rfl ?_
                          refine WL.val (Value.int .i64 (k302 : Int)) _ (op_move rfl) rfl ?_
                          obtain ⟨x355, hx358, hb308⟩ := bs hb308
                          obtain ⟨ha356, hb357, hx358⟩ := idx_some hx358
                          refine WL.val (Value.pointer (some (elA u352 ((k302 : Int)).toNat))) _ (op_idx sl_25 hr354 rfl rfl ha356 hb357) rfl ?_
                          obtain ⟨u359, hc360, hr361⟩ := repSl.el hr354 hx358
                          obtain ⟨rfl, hr361⟩ := hr361
                          refine WL.val (Value.int .i64 x355) _ (op_load one_2 rfl hc360) rfl ?_
                          refine WL.val (Value.int .i64 x240) _ (op_move hf320) rfl ?_
                          refine WL.val (Value.int .i64 x341) _ (op_move rfl) rfl ?_
                          refine WL.val (Value.int .i64 (w64 (x240 * x341))) _ (op_mul rfl rfl) rfl ?_
                          refine WL.val (Value.int .i64 (w64 (x355 + (w64 (x240 * x341))))) _ (op_add rfl rfl) rfl ?_
                          refine WL.val (Value.pointer (some (elA u352 ((k302 : Int)).toNat))) _ (op_idx sl_25 hr354 rfl rfl ha356 hb357) rfl ?_
                          refine WL.storeEl2 (flat_i .i64) hS338 (k := 0) rfl sz_2 hx351 hc353 rfl rfl (lt_of_idx ha356 hb357) ⟨rfl, (inR_wrap _ _)⟩ ?_
                          intro wd362 hS363
                          replace hS363 : St wd91 wd362 [(Ty.sl (Ty.sl (Ty.i .i64))).at u187 ((x303).set ((k257 : Int)).toNat ((x348).set ((k302 : Int)).toNat (w64 (x355 + (w64 (x240 * x341))))))] := hS363
                          refine WL.nil ?_
                          show W _ _ _ _ _ _
                          refine W.region ?_
                          refine WL.val (Value.int .i64 (w64 ((k302 : Int) + (1 : Int)))) _ (op_add hf336 rfl) rfl ?_
                          refine WL.val (Value.int .i64 (w64 ((k302 : Int) + (1 : Int)))) _ (op_move rfl) rfl ?_
                          refine WL.nil ?_
                          obtain rfl := Option.some.inj hb308
                          show ∃ s, _ = Ctl.next s ∧ _
                          exact ⟨_, rfl, hf312, hf313, hf314, hf315, hf316, hf317, hf318, hf319, hf320, hf321, hf322, hf323, hf324, hf325, hf326, hf327, hf328, hf329, hf330, hf331, hf332, hf333, hf334, hf335, (ctr_next hl339 hr299), (ctr_rng hl339 hr299), hS363⟩
                        · intro x370 f365 wd366 hs367 hI368
                          replace hI368 : f365 2 = (Value.pointer (some ⟨b1, 0, none⟩)) ∧ f365 3 = (Value.pointer (some ⟨b9, 0, none⟩)) ∧ f365 5 = (Value.int .i64 ((x18).length : Int)) ∧ f365 6 = (Value.int .i64 (k125 : Int)) ∧ f365 7 = u148 ∧ f365 8 = (Value.int .i64 (k154 : Int)) ∧ f365 9 = u182 ∧ f365 10 = u187 ∧ f365 12 = (Value.int .i64 x240) ∧ f365 13 = (Value.int .i64 (k257 : Int)) ∧ f365 34 = v_a_Matrices ∧ f365 35 = (Value.int .i64 ((a_Matrices).length : Int)) ∧ f365 36 = (Value.int .i64 (k125 : Int)) ∧ f365 42 = v_a_Matrices ∧ f365 43 = (Value.int .i64 ((a_Matrices).length : Int)) ∧ f365 44 = (Value.int .i64 (k154 : Int)) ∧ f365 59 = u203 ∧ f365 60 = (Value.int .i64 ((x199).length : Int)) ∧ f365 61 = (Value.int .i64 (k209 : Int)) ∧ f365 70 = u251 ∧ f365 71 = (Value.int .i64 ((x247).length : Int)) ∧ f365 72 = (Value.int .i64 (k257 : Int)) ∧ f365 77 = u296 ∧ f365 78 = (Value.int .i64 ((x292).length : Int)) ∧ f365 79 = Value.int .i64 (((x292).length : Nat) : Int) ∧ InR .i64 (((x292).length : Nat) : Int) ∧ St wd91 wd366 [(Ty.sl (Ty.sl (Ty.i .i64))).at u187 x370] := hI368
                          obtain ⟨hf371, hf372, hf373, hf374, hf375, hf376, hf377, hf378, hf379, hf380, hf381, hf382, hf383, hf384, hf385, hf386, hf387, hf388, hf389, hf390, hf391, hf392, hf393, hf394, hf395, hr396, hS397⟩ := hI368
                          refine W.seq (W.region ?_)
                          refine WL.val (Value.bool (decide ((((x292).length : Nat) : Int) < ((x292).length : Int)))) _ (op_lss hf395 hf394) rfl ?_
                          have hl398 : ¬ (((x292).length : Nat) : Int) < ((x292).length : Int) := by omega
                          refine WL.nil ?_
                          show W _ _ _ _ _ _
                          refine W.seq ?_
                          refine W.condF (decide ((((x292).length : Nat) : Int) < ((x292).length : Int))) rfl (decide_eq_false hl398) ?_
                          refine W.exit ?_
                          show _ = _ ∧ _
                          exact ⟨rfl, _, hs367, hf371, hf372, hf373, hf374, hf375, hf376, hf377, hf378, hf379, hf381, hf382, hf383, hf384, hf385, hf386, hf387, hf388, hf389, hf390, hf391, hf392, hS397⟩
                      · rintro f399 wd400 ⟨x403, rfl, hq401⟩
                        replace hb263 := onRes_fin hb263
                        replace hq401 : f399 2 = (Value.pointer (some ⟨b1, 0, none⟩)) ∧ f399 3 = (Value.pointer (some ⟨b9, 0, none⟩)) ∧ f399 5 = (Value.int .i64 ((x18).length : Int)) ∧ f399 6 = (Value.int .i64 (k125 : Int)) ∧ f399 7 = u148 ∧ f399 8 = (Value.int .i64 (k154 : Int)) ∧ f399 9 = u182 ∧ f399 10 = u187 ∧ f399 12 = (Value.int .i64 x240) ∧ f399 34 = v_a_Matrices ∧ f399 35 = (Value.int .i64 ((a_Matrices).length : Int)) ∧ f399 36 = (Value.int .i64 (k125 : Int)) ∧ f399 42 = v_a_Matrices ∧ f399 43 = (Value.int .i64 ((a_Matrices).length : Int)) ∧ f399 44 = (Value.int .i64 (k154 : Int)) ∧ f399 59 = u203 ∧ f399 60 = (Value.int .i64 ((x199).length : Int)) ∧ f399 61 = (Value.int .i64 (k209 : Int)) ∧ f399 70 = u251 ∧ f399 71 = (Value.int .i64 ((x247).length : Int)) ∧ f399 72 = (Value.int .i64 (k257 : Int)) ∧ St wd91 wd400 [(Ty.sl (Ty.sl (Ty.i .i64))).at u187 x403] := hq401
                        obtain ⟨hf404, hf405, hf406, hf407, hf408, hf409, hf410, hf411, hf412, hf413, hf414, hf415, hf416, hf417, hf418, hf419, hf420, hf421, hf422, hf423, hf424, hS425⟩ := hq401
                        show W _ _ _ _ _ _
                        refine W.region ?_
                        refine WL.val (Value.int .i64 (w64 ((k257 : Int) + (1 : Int)))) _ (op_add hf424 rfl) rfl ?_
                        refine WL.val (Value.int .i64 (w64 ((k257 : Int) + (1 : Int)))) _ (op_move rfl) rfl ?_
                        refine WL.nil ?_
                        obtain rfl := Option.some.inj hb263
                        show ∃ s, _ = Ctl.next s ∧ _
                        exact ⟨_, rfl, hf404, hf405, hf406, hf407, hf408, hf409, hf410, hf411, hf412, hf413, hf414, hf415, hf416, hf417, hf418, hf419, hf420, hf421, hf422, hf423, (ctr_next hl290 hr254), (ctr_rng hl290 hr254), hS425⟩
                    · intro x433 f428 wd429 hs430 hI431
                      replace hI431 : f428 2 = (Value.pointer (some ⟨b1, 0, none⟩)) ∧ f428 3 = (Value.pointer (some ⟨b9, 0, none⟩)) ∧ f428 5 = (Value.int .i64 ((x18).length : Int)) ∧ f428 6 = (Value.int .i64 (k125 : Int)) ∧ f428 7 = u148 ∧ f428 8 = (Value.int .i64 (k154 : Int)) ∧ f428 9 = u182 ∧ f428 10 = u187 ∧ f428 12 = (Value.int .i64 x240) ∧ f428 34 = v_a_Matrices ∧ f428 35 = (Value.int .i64 ((a_Matrices).length : Int)) ∧ f428 36 = (Value.int .i64 (k125 : Int)) ∧ f428 42 = v_a_Matrices ∧ f428 43 = (Value.int .i64 ((a_Matrices).length : Int)) ∧ f428 44 = (Value.int .i64 (k154 : Int)) ∧ f428 59 = u203 ∧ f428 60 = (Value.int .i64 ((x199).length : Int)) ∧ f428 61 = (Value.int .i64 (k209 : Int)) ∧ f428 70 = u251 ∧ f428 71 = (Value.int .i64 ((x247).length : Int)) ∧ f428 72 = Value.int .i64 (((x247).length : Nat) : Int) ∧ InR .i64 (((x247).length : Nat) : Int) ∧ St wd91 wd429 [(Ty.sl (Ty.sl (Ty.i .i64))).at u187 x433] := hI431
                      obtain ⟨hf434, hf435, hf436, hf437, hf438, hf439, hf440, hf441, hf442, hf443, hf444, hf445, hf446, hf447, hf448, hf449, hf450, hf451, hf452, hf453, hf454, hr455, hS456⟩ := hI431
                      refine W.seq (W.region ?_)
                      refine WL.val (Value.bool (decide ((((x247).length : Nat) : Int) < ((x247).length : Int)))) _ (op_lss hf454 hf453) rfl ?_
                      have hl457 : ¬ (((x247).length : Nat) : Int) < ((x247).length : Int) := by omega
                      refine WL.nil ?_
                      show W _ _ _ _ _ _
                      refine W.seq ?_
                      refine W.condF (decide ((((x247).length : Nat) : Int) < ((x247).length : Int))) rfl (decide_eq_false hl457) ?_
                      refine W.exit ?_
                      show _ = _ ∧ _
                      exact ⟨rfl, _, hs430, hf434, hf435, hf436, hf437, hf438, hf439, hf440, hf441, hf443, hf444, hf445, hf446, hf447, hf448, hf449, hf450, hf451, hS456⟩
                  · rintro f458 wd459 ⟨x462, rfl, hq460⟩
                    replace hb215 := onRes_fin hb215
                    replace hq460 : f458 2 = (Value.pointer (some ⟨b1, 0, none⟩)) ∧ f458 3 = (Value.pointer (some ⟨b9, 0, none⟩)) ∧ f458 5 = (Value.int .i64 ((x18).length : Int)) ∧ f458 6 = (Value.int .i64 (k125 : Int)) ∧ f458 7 = u148 ∧ f458 8 = (Value.int .i64 (k154 : Int)) ∧ f458 9 = u182 ∧ f458 10 = u187 ∧ f458 34 = v_a_Matrices ∧ f458 35 = (Value.int .i64 ((a_Matrices).length : Int)) ∧ f458 36 = (Value.int .i64 (k125 : Int)) ∧ f458 42 = v_a_Matrices ∧ f458 43 = (Value.int .i64 ((a_Matrices).length : Int)) ∧ f458 44 = (Value.int .i64 (k154 : Int)) ∧ f458 59 = u203 ∧ f458 60 = (Value.int .i64 ((x199).length : Int)) ∧ f458 61 = (Value.int .i64 (k209 : Int)) ∧ St wd91 wd459 [(Ty.sl (Ty.sl (Ty.i .i64))).at u187 x462] := hq460
                    obtain ⟨hf463, hf464, hf465, hf466, hf467, hf468, hf469, hf470, hf471, hf472, hf473, hf474, hf475, hf476, hf477, hf478, hf479, hS480⟩ := hq460
                    show W _ _ _ _ _ _
                    refine W.region ?_
                    refine WL.val (Value.int .i64 (w64 ((k209 : Int) + (1 : Int)))) _ (op_add hf479 rfl) rfl ?_
                    refine WL.val (Value.int .i64 (w64 ((k209 : Int) + (1 : Int)))) _ (op_move rfl) rfl ?_
                    refine WL.nil ?_
                    obtain rfl := Option.some.inj hb215
                    show ∃ s, _ = Ctl.next s ∧ _
                    exact ⟨_, rfl, hf463, hf464, hf465, hf466, hf467, hf468, hf469, hf470, hf471, hf472, hf473, hf474, hf475, hf476, hf477, hf478, (ctr_next hl238 hr206), (ctr_rng hl238 hr206), hS480⟩
                · intro x488 f483 wd484 hs485 hI486
                  replace hI486 : f483 2 = (Value.pointer (some ⟨b1, 0, none⟩)) ∧ f483 3 = (Value.pointer (some ⟨b9, 0, none⟩)) ∧ f483 5 = (Value.int .i64 ((x18).length : Int)) ∧ f483 6 = (Value.int .i64 (k125 : Int)) ∧ f483 7 = u148 ∧ f483 8 = (Value.int .i64 (k154 : Int)) ∧ f483 9 = u182 ∧ f483 10 = u187 ∧ f483 34 = v_a_Matrices ∧ f483 35 = (Value.int .i64 ((a_Matrices).length : Int)) ∧ f483 36 = (Value.int .i64 (k125 : Int)) ∧ f483 42 = v_a_Matrices ∧ f483 43 = (Value.int .i64 ((a_Matrices).length : Int)) ∧ f483 44 = (Value.int .i64 (k154 : Int)) ∧ f483 59 = u203 ∧ f483 60 = (Value.int .i64 ((x199).length : Int)) ∧ f483 61 = Value.int .i64 (((x199).length : Nat) : Int) ∧ InR .i64 (((x199).length : Nat) : Int) ∧ St wd91 wd484 [(Ty.sl (Ty.sl (Ty.i .i64))).at u187 x488] := hI486
                  obtain ⟨hf489, hf490, hf491, hf492, hf493, hf494, hf495, hf496, hf497, hf498, hf499, hf500, hf501, hf502, hf503, hf504, hf505, hr506, hS507⟩ := hI486
                  refine W.seq (W.region ?_)
                  refine WL.val (Value.bool (decide ((((x199).length : Nat) : Int) < ((x199).length : Int)))) _ (op_lss hf505 hf504) rfl ?_
                  have hl508 : ¬ (((x199).length : Nat) : Int) < ((x199).length : Int) := by omega
                  refine WL.nil ?_
                  show W _ _ _ _ _ _
                  refine W.seq ?_
                  refine W.condF (decide ((((x199).length : Nat) : Int) < ((x199).length : Int))) rfl (decide_eq_false hl508) ?_
                  refine W.exit ?_
                  show _ = _ ∧ _
                  exact ⟨rfl, _, hs485, hf489, hf490, hf491, hf492, hf493, hf494, hf495, hf496, hf497, hf498, hf499, hf500, hf501, hf502, hS507⟩
              · rintro f509 wd510 ⟨x513, rfl, hq511⟩
                replace hb159 := onRes_fin hb159
                replace hq511 : f509 2 = (Value.pointer (some ⟨b1, 0, none⟩)) ∧ f509 3 = (Value.pointer (some ⟨b9, 0, none⟩)) ∧ f509 5 = (Value.int .i64 ((x18).length : Int)) ∧ f509 6 = (Value.int .i64 (k125 : Int)) ∧ f509 7 = u148 ∧ f509 8 = (Value.int .i64 (k154 : Int)) ∧ f509 9 = u182 ∧ f509 10 = u187 ∧ f509 34 = v_a_Matrices ∧ f509 35 = (Value.int .i64 ((a_Matrices).length : Int)) ∧ f509 36 = (Value.int .i64 (k125 : Int)) ∧ f509 42 = v_a_Matrices ∧ f509 43 = (Value.int .i64 ((a_Matrices).length : Int)) ∧ f509 44 = (Value.int .i64 (k154 : Int)) ∧ St wd91 wd510 [(Ty.sl (Ty.sl (Ty.i .i64))).at u187 x513] := hq511
                obtain ⟨hf514, hf515, hf516, hf517, hf518, hf519, hf520, hf521, hf522, hf523, hf524, hf525, hf526, hf527, hS528⟩ := hq511
                show W _ _ _ _ _ _
                refine W.seq (W.region ?_)
                refine WL.val u187 _ (op_move hf521) rfl ?_
                refine WL.val u148 _ (op_move hf518) rfl ?_
                refine WL.val u182 _ (op_move hf520) rfl ?_
                obtain ⟨x529, hx530, hb159⟩ := bs hb159
                refine WL.call _ (op_call fn_86 (args2 rfl rfl)) (c_impl_whole (Ty.lift _ (Ext.trans hE106 hS528.ext) hr150) (Ty.lift _ (Ext.trans hE106 hS528.ext) hr184) hx530) rfl ?_
                rintro u531 wd532 ⟨_, rfl, he533, hs534⟩
                have hS535 := St.join hS528 he533 hs534
                replace hS535 : St wd91 wd532 [(Ty.sl (Ty.sl (Ty.i .i64))).at u187 x513, (Ty.sl (Ty.sl (Ty.i .i64))).at u531 x529] := hS535
                obtain ⟨x536, hx537, hb159⟩ := bs hb159
                refine WL.call _ (op_call fn_85 (args2 rfl rfl)) (c_impl_equalRows (St.rep (t := (Ty.sl (Ty.sl (Ty.i .i64)))) hS535 0 rfl) (St.rep (t := (Ty.sl (Ty.sl (Ty.i .i64)))) hS535 1 rfl) hx537) rfl ?_
                rintro _ wd538 ⟨rfl, he539⟩
                have hS541 := St.extend hS535 he539
                replace hS541 : St wd91 wd538 [(Ty.sl (Ty.sl (Ty.i .i64))).at u187 x513, (Ty.sl (Ty.sl (Ty.i .i64))).at u531 x529] := hS541
                refine WL.val (Value.bool (!x536)) _ (op_not rfl) rfl ?_
                refine WL.nil ?_
                show W _ _ _ _ _ _
                refine W.cond (!x536) rfl (fun hc542 => ?_) (fun hc542 => ?_)
                · replace hb159 := ip hb159 hc542
                  refine W.seq (W.region ?_)
                  refine WL.val (Value.int .i64 (k125 : Int)) _ (op_move hf517) rfl ?_
                  refine WL.val (Value.int .i64 (k154 : Int)) _ (op_move hf519) rfl ?_
                  refine WL.litFlat (t := (Ty.i .i64)) (flat_i .i64) [(Value.int .i64 (1 : Int)), (Value.int .i64 (k125 : Int)), (Value.int .i64 (k154 : Int))] [(1 : Int), (k125 : Int), (k154 : Int)] hS541 sl_25 rfl rfl (fillL rfl ⟨rfl, rfl, rfl, rfl, rfl, rfl, rfl, rfl, rfl, trivial⟩) rfl rfl (litL ⟨⟨rfl, (inR_i64.2 (show (-9223372036854775808 : Int) ≤ 1 ∧ (1 : Int) ≤ 9223372036854775807 from by decide))⟩, ⟨rfl, hr140⟩, ⟨rfl, hr174⟩, trivial⟩) rfl ?_
                  intro u544 wd545 hS546 he547
                  replace hS546 : St wd91 wd545 [(Ty.sl (Ty.sl (Ty.i .i64))).at u187 x513, (Ty.sl (Ty.sl (Ty.i .i64))).at u531 x529, (Ty.sl (Ty.i .i64)).at u544 ([(1 : Int), (k125 : Int), (k154 : Int)] : (List Int))] := hS546
                  refine WL.val u544 _ (op_assign rfl) rfl ?_
                  refine WL.nil ?_
                  show W _ _ _ _ _ _
                  refine W.ret ?_
                  obtain rfl := Option.some.inj hb159
                  obtain rfl := hret162 _ rfl
                  replace hb130 := onRes_ret hb130
                  obtain rfl := Option.some.inj hb130
                  obtain rfl := hret133 _ rfl
                  replace h := onRes_ret h
                  obtain rfl := Option.some.inj h
                  show FinP _ _ _ _ _ _ _
                  exact FinP.ret _ (res1 rfl rfl) ⟨u544, rfl, (nil_cons), (Ext.trans hE106 hS546.ext), (St.out (St.pick hS546 [2] rfl) (hE106))⟩
                · replace hb159 := inegb hb159 hc542
                  refine W.skip ?_
                  show W _ _ _ _ _ _
                  refine W.region ?_
                  refine WL.val (Value.int .i64 (w64 ((k154 : Int) + (1 : Int)))) _ (op_add hf527 rfl) rfl ?_
                  refine WL.val (Value.int .i64 (w64 ((k154 : Int) + (1 : Int)))) _ (op_move rfl) rfl ?_
                  refine WL.nil ?_
                  obtain rfl := Option.some.inj hb159
                  show ∃ s, _ = Ctl.next s ∧ _
                  exact ⟨_, rfl, hf514, hf515, hf516, hf517, hf518, hf522, hf523, hf524, hf525, hf526, (ctr_next hl176 hr151), (ctr_rng hl176 hr151), (St.pick hS541 [] rfl)⟩
            · intro s554 f550 wd551 hs552 hI553
              obtain ⟨⟩ := s554
              replace hI553 : f550 2 = (Value.pointer (some ⟨b1, 0, none⟩)) ∧ f550 3 = (Value.pointer (some ⟨b9, 0, none⟩)) ∧ f550 5 = (Value.int .i64 ((x18).length : Int)) ∧ f550 6 = (Value.int .i64 (k125 : Int)) ∧ f550 7 = u148 ∧ f550 34 = v_a_Matrices ∧ f550 35 = (Value.int .i64 ((a_Matrices).length : Int)) ∧ f550 36 = (Value.int .i64 (k125 : Int)) ∧ f550 42 = v_a_Matrices ∧ f550 43 = (Value.int .i64 ((a_Matrices).length : Int)) ∧ f550 44 = Value.int .i64 (((a_Matrices).length : Nat) : Int) ∧ InR .i64 (((a_Matrices).length : Nat) : Int) ∧ St wd91 wd551 [] := hI553
              obtain ⟨hf555, hf556, hf557, hf558, hf559, hf560, hf561, hf562, hf563, hf564, hf565, hr566, hS567⟩ := hI553
              refine W.seq (W.region ?_)
              refine WL.val (Value.bool (decide ((((a_Matrices).length : Nat) : Int) < ((a_Matrices).length : Int)))) _ (op_lss hf565 hf564) rfl ?_
              have hl568 : ¬ (((a_Matrices).length : Nat) : Int) < ((a_Matrices).length : Int) := by omega
              refine WL.nil ?_
              show W _ _ _ _ _ _
              refine W.seq ?_
              refine W.condF (decide ((((a_Matrices).length : Nat) : Int) < ((a_Matrices).length : Int))) rfl (decide_eq_false hl568) ?_
              refine W.exit ?_
              show _ = _ ∧ _
              exact ⟨rfl, _, hs552, hf555, hf556, hf557, hf560, hf561, hf562, hS567⟩
          · rintro f569 wd570 ⟨s572, rfl, hq571⟩
            replace hb130 := onRes_fin hb130
            obtain ⟨⟩ := s572
            replace hq571 : f569 2 = (Value.pointer (some ⟨b1, 0, none⟩)) ∧ f569 3 = (Value.pointer (some ⟨b9, 0, none⟩)) ∧ f569 5 = (Value.int .i64 ((x18).length : Int)) ∧ f569 34 = v_a_Matrices ∧ f569 35 = (Value.int .i64 ((a_Matrices).length : Int)) ∧ f569 36 = (Value.int .i64 (k125 : Int)) ∧ St wd91 wd570 [] := hq571
            obtain ⟨hf573, hf574, hf575, hf576, hf577, hf578, hS579⟩ := hq571
            show W _ _ _ _ _ _
            refine W.region ?_
            refine WL.val (Value.int .i64 (w64 ((k125 : Int) + (1 : Int)))) _ (op_add hf578 rfl) rfl ?_
            refine WL.val (Value.int .i64 (w64 ((k125 : Int) + (1 : Int)))) _ (op_move rfl) rfl ?_
            refine WL.nil ?_
            obtain rfl := Option.some.inj hb130
            show ∃ s, _ = Ctl.next s ∧ _
            exact ⟨_, rfl, hf573, hf574, hf575, hf576, hf577, (ctr_next hl142 hr122), (ctr_rng hl142 hr122), hS579⟩
        · intro s586 f582 wd583 hs584 hI585
          obtain ⟨⟩ := s586
          replace hI585 : f582 2 = (Value.pointer (some ⟨b1, 0, none⟩)) ∧ f582 3 = (Value.pointer (some ⟨b9, 0, none⟩)) ∧ f582 5 = (Value.int .i64 ((x18).length : Int)) ∧ f582 34 = v_a_Matrices ∧ f582 35 = (Value.int .i64 ((a_Matrices).length : Int)) ∧ f582 36 = Value.int .i64 (((a_Matrices).length : Nat) : Int) ∧ InR .i64 (((a_Matrices).length : Nat) : Int) ∧ St wd91 wd583 [] := hI585
          obtain ⟨hf587, hf588, hf589, hf590, hf591, hf592, hr593, hS594⟩ := hI585
          refine W.seq (W.region ?_)
          refine WL.val (Value.bool (decide ((((a_Matrices).length : Nat) : Int) < ((a_Matrices).length : Int)))) _ (op_lss hf592 hf591) rfl ?_
          have hl595 : ¬ (((a_Matrices).length : Nat) : Int) < ((a_Matrices).length : Int) := by omega
          refine WL.nil ?_
          show W _ _ _ _ _ _
          refine W.seq ?_
          refine W.condF (decide ((((a_Matrices).length : Nat) : Int) < ((a_Matrices).length : Int))) rfl (decide_eq_false hl595) ?_
          refine W.exit ?_
          show _ = _ ∧ _
          exact ⟨rfl, _, hs584, hf587, hf588, hS594⟩
      · rintro f596 wd597 ⟨s599, rfl, hq598⟩
        replace h := onRes_fin h
        obtain ⟨⟩ := s599
        replace hq598 : f596 2 = (Value.pointer (some ⟨b1, 0, none⟩)) ∧ f596 3 = (Value.pointer (some ⟨b9, 0, none⟩)) ∧ St wd91 wd597 [] := hq598
        obtain ⟨hf600, hf601, hS602⟩ := hq598
        show W _ _ _ _ _ _
        refine W.seq (W.seq (W.region ?_))
        refine WL.val (Value.agg #[v_r_Table]) _ (op_loadBox st_29 hf600 (BoxAt.lift (Ext.trans hE107 hS602.ext) hx6) rfl rfl) rfl ?_
        obtain ⟨x603, hx604, h⟩ := bs h
        refine WL.call _ (op_call fn_87 (args1 rfl)) (c_impl_Ring_duals (Ty.lift _ (Ext.trans hE106 hS602.ext) r_r_Table) hx604) rfl ?_
        rintro u605 wd606 ⟨_, rfl, he607, hs608⟩
        have hS609 := St.join hS602 he607 hs608
        replace hS609 : St wd91 wd606 [(Ty.sl (Ty.i .i64)).at u605 x603] := hS609
        have hb610 := St.rep (t := (Ty.sl (Ty.i .i64))) hS609 0 rfl
        have hE611 : Ext w wd606 := (Ext.trans hE106 hS609.ext)
        have hE612 : Ext wd2 wd606 := (Ext.trans hE107 hS609.ext)
        have hE613 : Ext wd10 wd606 := (Ext.trans hE108 hS609.ext)
        have hE614 : Ext wd91 wd606 := hS609.ext
        have hS615 : St wd606 wd606 [] := St.start wd606
        have hr616 := inR_len (Ty.lift _ hS615.ext hb610)
        refine WL.val (Value.int .i64 ((x603).length : Int)) _ (op_lenL sl_88 (Ty.lift _ hS615.ext hb610) rfl) rfl ?_
        refine WL.val (Value.int .i64 (0 : Int)) _ (op_move rfl) rfl ?_
        refine WL.nil ?_
        show W _ _ _ _ _ _
        obtain ⟨res617, hres618, h⟩ := bs h
        refine W.blockLoop (fun fq wq => ∃ s, res617 = Res.fin s ∧ St wd606 wq []) ?_ ?_
        · refine W.forN (fun k (s : Unit) fq wq => fq 3 = (Value.pointer (some ⟨b9, 0, none⟩)) ∧ fq 111 = u605 ∧ fq 112 = (Value.int .i64 ((x603).length : Int)) ∧ fq 113 = Value.int .i64 (k : Int) ∧ InR .i64 (k : Int) ∧ St wd606 wq []) hres618 ⟨hf601, rfl, rfl, rfl, (inR_i64.2 (show (-9223372036854775808 : Int) ≤ 0 ∧ (0 : Int) ≤ 9223372036854775807 from by decide)), hS615⟩ ?_ ?_
          · intro k619 s807 ct620 f621 wd622 hk623 hb624 hI625 hbrk626 hret627
            obtain ⟨⟩ := s807
            replace hI625 : f621 3 = (Value.pointer (some ⟨b9, 0, none⟩)) ∧ f621 111 = u605 ∧ f621 112 = (Value.int .i64 ((x603).length : Int)) ∧ f621 113 = Value.int .i64 (k619 : Int) ∧ InR .i64 (k619 : Int) ∧ St wd606 wd622 [] := hI625
            replace hb624 : p_impl_actionFault_L6 x603 a_Matrices k619  = some ct620 := hb624
            unfold p_impl_actionFault_L6 at hb624
            obtain ⟨hf628, hf629, hf630, hf631, hr632, hS633⟩ := hI625
            refine W.seq (W.region ?_)
            refine WL.val (Value.bool (decide ((k619 : Int) < ((x603).length : Int)))) _ (op_lss hf631 hf630) rfl ?_
            have hl634 : (k619 : Int) < ((x603).length : Int) := by omega
            refine WL.nil ?_
            show W _ _ _ _ _ _
            refine W.seq ?_
            refine W.condT (decide ((k619 : Int) < ((x603).length : Int))) rfl (decide_eq_true hl634) ?_
            refine W.skip ?_
            show W _ _ _ _ _ _
            refine W.seq ?_
            refine W.block ?_
            refine W.seq (W.region ?_)
            refine WL.val (Value.int .i64 (k619 : Int)) _ (op_move hf631) rfl ?_
            obtain ⟨x636, hx639, hb624⟩ := bs hb624
            obtain ⟨ha637, hb638, hx639⟩ := idx_some hx639
            refine WL.val (Value.pointer (some (elA u605 ((k619 : Int)).toNat))) _ (op_idx sl_88 (Ty.lift _ hS633.ext hb610) hf629 hf631 ha637 hb638) rfl ?_
            obtain ⟨u640, hc641, hr642⟩ := repSl.el hb610 hx639
            obtain ⟨rfl, hr642⟩ := hr642
            refine WL.val (Value.int .i64 x636) _ (op_load one_3 rfl (Ext.cell hS633.ext hc641)) rfl ?_
            refine WL.val (Value.int .i64 (k619 : Int)) _ (op_assign rfl) rfl ?_
            refine WL.val (Value.int .i64 x636) _ (op_assign rfl) rfl ?_
            refine WL.nil ?_
            show W _ _ _ _ _ _
            refine W.seq ?_
            obtain ⟨x682, hx685, hb624⟩ := bs hb624
            obtain ⟨ha683, hb684, hx685⟩ := idx_some hx685
            obtain ⟨u696, hc697, hr698⟩ := repSl.el r_a_Matrices hx685
            obtain ⟨x738, hx741, hb624⟩ := bs hb624
            obtain ⟨ha739, hb740, hx741⟩ := idx_some hx741
            obtain ⟨u752, hc753, hr754⟩ := repSl.el r_a_Matrices hx741
            obtain ⟨x765, hx766, hb624⟩ := bs hb624
            refine W.drawR mixo 11 [] [fun _ v _ _ => v = (Value.pointer (some ⟨b9, 0, none⟩)), fun _ v _ _ => v = v_a_Matrices, fun _ v _ _ => v = (Value.int .i64 x636) ∧ InR .i64 x636, fun _ v _ _ => v = (Value.pointer (some (elA v_a_Matrices (x636).toNat))), fun _ v _ _ => v = u696, fun _ v _ _ => v = (Value.pointer (some ⟨b9, 0, none⟩)), fun _ v _ _ => v = v_a_Matrices, fun _ v _ _ => v = (Value.int .i64 (k619 : Int)) ∧ InR .i64 (k619 : Int), fun _ v _ _ => v = (Value.pointer (some (elA v_a_Matrices ((k619 : Int)).toNat))), fun _ v _ _ => v = u752, fun _ v S w' => SepS S w' [(Ty.sl (Ty.sl (Ty.i .i64))).at v x765]] (by kernel_rfl) (by kernel_rfl) ⟨⟨fun _ _ _ _ _ _ h => h, fun _ _ _ _ _ _ h => h⟩, ⟨fun _ _ _ _ _ _ h => h, fun _ _ _ _ _ _ h => h⟩, ⟨fun _ _ _ _ _ _ h => h, fun _ _ _ _ _ _ h => h⟩, ⟨fun _ _ _ _ _ _ h => h, fun _ _ _ _ _ _ h => h⟩, ⟨fun _ _ _ _ _ _ h => h, fun _ _ _ _ _ _ h => h⟩, ⟨fun _ _ _ _ _ _ h => h, fun _ _ _ _ _ _ h => h⟩, ⟨fun _ _ _ _ _ _ h => h, fun _ _ _ _ _ _ h => h⟩, ⟨fun _ _ _ _ _ _ h => h, fun _ _ _ _ _ _ h => h⟩, ⟨fun _ _ _ _ _ _ h => h, fun _ _ _ _ _ _ h => h⟩, ⟨fun _ _ _ _ _ _ h => h, fun _ _ _ _ _ _ h => h⟩, ⟨fun _ _ _ _ _ he h => SepS.extend he h, fun _ _ _ _ _ _ h => h⟩, trivial⟩ ⟨?_, ?_, ?_, ?_, ?_, ?_, ?_, ?_, ?_, ?_, ?_, trivial⟩ ?_
            · refine ObX.op rfl ?_
              intro f643 wd644 he645 hout646 hphi647
              have hS648 : St wd606 wd644 [] := St.extend hS633 he645
              have e649 : f643 3 = (Value.pointer (some ⟨b9, 0, none⟩)) := (hout646 3 rfl).trans hf628
              exact OpX.val (Value.pointer (some ⟨b9, 0, none⟩)) wd644 rfl (op_fieldAddr fd_42_0 e649) (Ext.refl _) rfl
            · refine ObX.op rfl ?_
              intro f650 wd651 he652 hout653 hphi654
              have hS655 : St wd606 wd651 [] := St.extend hS633 he652
              obtain ⟨S656, hS657, hf658⟩ := hphi654 0 118 _ rfl rfl rfl
              have e659 : f650 118 = (Value.pointer (some ⟨b9, 0, none⟩)) := hf658
              exact OpX.val v_a_Matrices wd651 rfl (op_load one_22 e659 (BoxAt.cell (BoxAt.lift (Ext.trans hE613 hS655.ext) hx14) rfl)) (Ext.refl _) rfl
            · refine ObX.op rfl ?_
              intro f660 wd661 he662 hout663 hphi664
              have hS665 : St wd606 wd661 [] := St.extend hS633 he662
              have e666 : f660 18 = (Value.int .i64 x636) := (hout663 18 rfl).trans rfl
              exact OpX.val (Value.int .i64 x636) wd661 rfl (op_move e666) (Ext.refl _) ⟨rfl, hr642⟩
            · refine ObX.op rfl ?_
              intro f667 wd668 he669 hout670 hphi671
              have hS672 : St wd606 wd668 [] := St.extend hS633 he669
              obtain ⟨S673, hS674, hf675⟩ := hphi671 1 119 _ rfl rfl rfl
              have e676 : f667 119 = v_a_Matrices := hf675
              obtain ⟨S677, hS678, hf679⟩ := hphi671 2 120 _ rfl rfl rfl
              obtain ⟨e680, hr681⟩ : f667 120 = (Value.int .i64 x636) ∧ InR .i64 x636 := hf679
              exact OpX.val (Value.pointer (some (elA v_a_Matrices (x636).toNat))) wd668 rfl (op_idx sl_22 (Ty.lift _ (Ext.trans hE611 hS672.ext) r_a_Matrices) e676 e680 ha683 hb684) (Ext.refl _) rfl
            · refine ObX.op rfl ?_
              intro f686 wd687 he688 hout689 hphi690
              have hS691 : St wd606 wd687 [] := St.extend hS633 he688
              obtain ⟨S692, hS693, hf694⟩ := hphi690 3 121 _ rfl rfl rfl
              have e695 : f686 121 = (Value.pointer (some (elA v_a_Matrices (x636).toNat))) := hf694
              exact OpX.val u696 wd687 rfl (op_load one_65 e695 (Ext.cell (Ext.trans hE611 hS691.ext) hc697)) (Ext.refl _) rfl
            · refine ObX.op rfl ?_
              intro f699 wd700 he701 hout702 hphi703
              have hS704 : St wd606 wd700 [] := St.extend hS633 he701
              have e705 : f699 3 = (Value.pointer (some ⟨b9, 0, none⟩)) := (hout702 3 rfl).trans hf628
              exact OpX.val (Value.pointer (some ⟨b9, 0, none⟩)) wd700 rfl (op_fieldAddr fd_42_0 e705) (Ext.refl _) rfl
            · refine ObX.op rfl ?_
              intro f706 wd707 he708 hout709 hphi710
              have hS711 : St wd606 wd707 [] := St.extend hS633 he708
              obtain ⟨S712, hS713, hf714⟩ := hphi710 5 123 _ rfl rfl rfl
              have e715 : f706 123 = (Value.pointer (some ⟨b9, 0, none⟩)) := hf714
              exact OpX.val v_a_Matrices wd707 rfl (op_load one_22 e715 (BoxAt.cell (BoxAt.lift (Ext.trans hE613 hS711.ext) hx14) rfl)) (Ext.refl _) rfl
            · refine ObX.op rfl ?_
              intro f716 wd717 he718 hout719 hphi720
              have hS721 : St wd606 wd717 [] := St.extend hS633 he718
              have e722 : f716 17 = (Value.int .i64 (k619 : Int)) := (hout719 17 rfl).trans rfl
              exact OpX.val (Value.int .i64 (k619 : Int)) wd717 rfl (op_move e722) (Ext.refl _) ⟨rfl, hr632⟩
            · refine ObX.op rfl ?_
              intro f723 wd724 he725 hout726 hphi727
              have hS728 : St wd606 wd724 [] := St.extend hS633 he725
              obtain ⟨S729, hS730, hf731⟩ := hphi727 6 124 _ rfl rfl rfl
              have e732 : f723 124 = v_a_Matrices := hf731
              obtain ⟨S733, hS734, hf735⟩ := hphi727 7 125 _ rfl rfl rfl
              obtain ⟨e736, hr737⟩ : f723 125 = (Value.int .i64 (k619 : Int)) ∧ InR .i64 (k619 : Int) := hf735
              exact OpX.val (Value.pointer (some (elA v_a_Matrices ((k619 : Int)).toNat))) wd724 rfl (op_idx sl_22 (Ty.lift _ (Ext.trans hE611 hS728.ext) r_a_Matrices) e732 e736 ha739 hb740) (Ext.refl _) rfl
            · refine ObX.op rfl ?_
              intro f742 wd743 he744 hout745 hphi746
              have hS747 : St wd606 wd743 [] := St.extend hS633 he744
              obtain ⟨S748, hS749, hf750⟩ := hphi746 8 126 _ rfl rfl rfl
              have e751 : f742 126 = (Value.pointer (some (elA v_a_Matrices ((k619 : Int)).toNat))) := hf750
              exact OpX.val u752 wd743 rfl (op_load one_65 e751 (Ext.cell (Ext.trans hE611 hS747.ext) hc753)) (Ext.refl _) rfl
            · refine ObX.op rfl ?_
              intro f755 wd756 he757 hout758 hphi759
              have hS760 : St wd606 wd756 [] := St.extend hS633 he757
              obtain ⟨S761, hS762, hf763⟩ := hphi759 9 127 _ rfl rfl rfl
              have e764 : f755 127 = u752 := hf763
              refine OpX.call rfl (op_call fn_55 (args1 e764)) (Ret.mono (c_impl_transpose (Ty.lift _ (Ext.trans hE611 hS760.ext) hr754) hx766) ?_)
              rintro u767 wd768 ⟨_, rfl, he769, hs770⟩
              exact ⟨he769, _, newS _ _, (Sep.new hs770)⟩
            · intro f771 wd772 Ss773 he774 hout775 hSn776 hSd777 hphi778
              show WL _ _ _ _ _ _ _
              have hS779 : St wd606 wd772 [] := St.extend hS633 he774
              have e780 : f771 122 = u696 := hphi778 4 122 _ (by decide) rfl rfl
              have e781 : SepS (Ss773 10) wd772 [(Ty.sl (Ty.sl (Ty.i .i64))).at (f771 128) x765] := hphi778 10 128 _ (by decide) rfl rfl
              have e782 : f771 3 = (Value.pointer (some ⟨b9, 0, none⟩)) := (hout775 3 rfl).trans hf628
              have e783 : f771 17 = (Value.int .i64 (k619 : Int)) := (hout775 17 rfl).trans rfl
              have e784 : f771 111 = u605 := (hout775 111 rfl).trans hf629
              have e785 : f771 112 = (Value.int .i64 ((x603).length : Int)) := (hout775 112 rfl).trans hf630
              have e786 : f771 113 = (Value.int .i64 (k619 : Int)) := (hout775 113 rfl).trans hf631
              have hS787 := St.joinS hS633 he774 hSn776 (SepS.consS hSd777 rfl e781 SepS.nilS)
              replace hS787 : St wd606 wd772 [(Ty.sl (Ty.sl (Ty.i .i64))).at (f771 128) x765] := hS787
              have hb788 := St.rep (t := (Ty.sl (Ty.sl (Ty.i .i64)))) hS787 0 rfl
              have hE789 : Ext w wd772 := (Ext.trans hE611 hS787.ext)
              have hE790 : Ext wd2 wd772 := (Ext.trans hE612 hS787.ext)
              have hE791 : Ext wd10 wd772 := (Ext.trans hE613 hS787.ext)
              have hE792 : Ext wd91 wd772 := (Ext.trans hE614 hS787.ext)
              have hE793 : Ext wd606 wd772 := hS787.ext
              have hS794 : St wd772 wd772 [] := St.start wd772
              obtain ⟨x795, hx796, hb624⟩ := bs hb624
              refine WL.call _ (op_call fn_85 (args2 e780 rfl)) (c_impl_equalRows (Ty.lift _ (Ext.trans hE789 hS794.ext) hr698) (Ty.lift _ hS794.ext hb788) hx796) rfl ?_
              rintro _ wd797 ⟨rfl, he798⟩
              have hS800 := St.extend hS794 he798
              replace hS800 : St wd772 wd797 [] := hS800
              refine WL.val (Value.bool (!x795)) _ (op_not rfl) rfl ?_
              refine WL.nil ?_
              show W _ _ _ _ _ _
              refine W.cond (!x795) rfl (fun hc801 => ?_) (fun hc801 => ?_)
              · replace hb624 := ip hb624 hc801
                refine W.seq (W.region ?_)
                refine WL.val (Value.int .i64 (k619 : Int)) _ (op_move e783) rfl ?_
                refine WL.litFlat (t := (Ty.i .i64)) (flat_i .i64) [(Value.int .i64 (2 : Int)), (Value.int .i64 (k619 : Int))] [(2 : Int), (k619 : Int)] hS800 sl_25 rfl rfl (fillL rfl ⟨rfl, rfl, rfl, rfl, rfl, rfl, trivial⟩) rfl rfl (litL ⟨⟨rfl, (inR_i64.2 (show (-9223372036854775808 : Int) ≤ 2 ∧ (2 : Int) ≤ 9223372036854775807 from by decide))⟩, ⟨rfl, hr632⟩, trivial⟩) rfl ?_
                intro u803 wd804 hS805 he806
                replace hS805 : St wd772 wd804 [(Ty.sl (Ty.i .i64)).at u803 ([(2 : Int), (k619 : Int)] : (List Int))] := hS805
                refine WL.val u803 _ (op_assign rfl) rfl ?_
                refine WL.nil ?_
                show W _ _ _ _ _ _
                refine W.ret ?_
                obtain rfl := Option.some.inj hb624
                obtain rfl := hret627 _ rfl
                replace h := onRes_ret h
                obtain rfl := Option.some.inj h
                show FinP _ _ _ _ _ _ _
                exact FinP.ret _ (res1 rfl rfl) ⟨u803, rfl, (nil_cons), (Ext.trans hE789 hS805.ext), (St.out (St.pick hS805 [0] rfl) (hE789))⟩
              · replace hb624 := inegb hb624 hc801
                refine W.skip ?_
                show W _ _ _ _ _ _
                refine W.region ?_
                refine WL.val (Value.int .i64 (w64 ((k619 : Int) + (1 : Int)))) _ (op_add e786 rfl) rfl ?_
                refine WL.val (Value.int .i64 (w64 ((k619 : Int) + (1 : Int)))) _ (op_move rfl) rfl ?_
                refine WL.nil ?_
                obtain rfl := Option.some.inj hb624
                show ∃ s, _ = Ctl.next s ∧ _
                exact ⟨_, rfl, e782, e784, e785, (ctr_next hl634 hr616), (ctr_rng hl634 hr616), (St.ofExt (Ext.trans hE793 hS800.ext))⟩
          · intro s812 f808 wd809 hs810 hI811
            obtain ⟨⟩ := s812
            replace hI811 : f808 3 = (Value.pointer (some ⟨b9, 0, none⟩)) ∧ f808 111 = u605 ∧ f808 112 = (Value.int .i64 ((x603).length : Int)) ∧ f808 113 = Value.int .i64 (((x603).length : Nat) : Int) ∧ InR .i64 (((x603).length : Nat) : Int) ∧ St wd606 wd809 [] := hI811
            obtain ⟨hf813, hf814, hf815, hf816, hr817, hS818⟩ := hI811
            refine W.seq (W.region ?_)
            refine WL.val (Value.bool (decide ((((x603).length : Nat) : Int) < ((x603).length : Int)))) _ (op_lss hf816 hf815) rfl ?_
            have hl819 : ¬ (((x603).length : Nat) : Int) < ((x603).length : Int) := by omega
            refine WL.nil ?_
            show W _ _ _ _ _ _
            refine W.seq ?_
            refine W.condF (decide ((((x603).length : Nat) : Int) < ((x603).length : Int))) rfl (decide_eq_false hl819) ?_
            refine W.exit ?_
            show _ = _ ∧ _
            exact ⟨rfl, _, hs810, hS818⟩
        · rintro f820 wd821 ⟨s823, rfl, hq822⟩
          replace h := onRes_fin h
          obtain ⟨⟩ := s823
          replace hq822 : St wd606 wd821 [] := hq822
          have hS824 := hq822
          show W _ _ _ _ _ _
          refine W.seq (W.region ?_)
          refine WL.val (Value.slice none 0 0) _ (op_assign rfl) rfl ?_
          refine WL.nil ?_
          show W _ _ _ _ _ _
          refine W.ret ?_
          obtain rfl := Option.some.inj h
          show FinP _ _ _ _ _ _ _
          exact FinP.ret _ (res1 rfl rfl) ⟨(Value.slice none 0 0), rfl, (fun _ => ⟨0, 0, rfl⟩), (Ext.trans hE611 hS824.ext), (St.out (St.pick (St.addNil (Ty.i .i64) hS824) [0] rfl) (hE611))⟩

theorem c_impl_IsAction {w : World} {r_Table : (List (List (List Int)))} {v_r_Table : Value} {a_Matrices : (List (List (List Int)))} {v_a_Matrices : Value} (r_r_Table : (Ty.sl (Ty.sl (Ty.sl (Ty.i .i64)))).rep w v_r_Table r_Table) (r_a_Matrices : (Ty.sl (Ty.sl (Ty.sl (Ty.i .i64)))).rep w v_a_Matrices a_Matrices) {res : Bool} (h : p_impl_IsAction r_Table a_Matrices  = some res) :
    Ret Try.prog 24 #[(Value.agg #[v_r_Table]), (Value.agg #[v_a_Matrices])] w (fun v w' => v = Value.bool res ∧ Ext w w') := by
  unfold p_impl_IsAction at h
  have hS0 : St w w [] := St.start w
  refine Ret.start (fn := Try.f24) Try.func24 rfl 18 rfl rfl ?_
  refine W.seq (W.region ?_)
  refine WL.box hS0 rfl (cs := [v_r_Table]) rfl rfl ?_
  intro b1 wd2 hS3 he4 hx5
  replace hS3 : St w wd2 [bx b1 [v_r_Table]] := hS3
  have hx6 := St.boxAt hS3 0 rfl
  have hE7 : Ext w wd2 := hS3.ext
  have hS8 : St wd2 wd2 [] := St.start wd2
  refine WL.box hS8 rfl (cs := [v_a_Matrices]) rfl rfl ?_
  intro b9 wd10 hS11 he12 hx13
  replace hS11 : St wd2 wd10 [bx b9 [v_a_Matrices]] := hS11
  have hx14 := St.boxAt hS11 0 rfl
  have hE15 : Ext w wd10 := (Ext.trans hE7 hS11.ext)
  have hE16 : Ext wd2 wd10 := hS11.ext
  have hS17 : St wd10 wd10 [] := St.start wd10
  refine WL.val (Value.bool false) _ (op_assign rfl) rfl ?_
  refine WL.nil ?_
  show W _ _ _ _ _ _
  refine W.seq (W.region ?_)
  refine WL.val (Value.agg #[v_r_Table]) _ (op_loadBox st_29 rfl (BoxAt.lift (Ext.trans hE16 hS17.ext) hx6) rfl rfl) rfl ?_
  obtain ⟨x18, hx19, h⟩ := bs h
  refine WL.call _ (op_call fn_57 (args1 rfl)) (c_impl_IsRing (Ty.lift _ (Ext.trans hE15 hS17.ext) r_r_Table) hx19) rfl ?_
  rintro _ wd20 ⟨rfl, he21⟩
  have hS23 := St.extend hS17 he21
  replace hS23 : St wd10 wd20 [] := hS23
  refine WL.val (Value.bool x18) _ (op_move rfl) rfl ?_
  obtain ⟨x25, hj26, h⟩ := bs h
  refine WL.cut 4 (fun fq wq => fq 2 = (Value.pointer (some ⟨b1, 0, none⟩)) ∧ fq 3 = (Value.pointer (some ⟨b9, 0, none⟩)) ∧ fq 11 = Value.bool x25 ∧ St wd10 wq []) ?_ ?_
  · rcases Bool.eq_false_or_eq_true x18 with hc24 | hc24
    · replace hj26 := ip hj26 hc24
      refine WL.grun rfl (bool_of rfl hc24) ?_
      refine WL.val (Value.agg #[v_r_Table]) _ (op_loadBox st_29 rfl (BoxAt.lift (Ext.trans hE16 hS23.ext) hx6) rfl rfl) rfl ?_
      refine WL.grun rfl (bool_of rfl hc24) ?_
      refine WL.val (Value.agg #[v_a_Matrices]) _ (op_loadBox st_42 rfl (BoxAt.lift hS23.ext hx14) rfl rfl) rfl ?_
      refine WL.grun rfl (bool_of rfl hc24) ?_
      obtain ⟨x30, hx31, hj26⟩ := bs hj26
      refine WL.call _ (op_call fn_58 (args2 rfl rfl)) (c_impl_isFamily (Ty.lift _ (Ext.trans hE15 hS23.ext) r_r_Table) (Ty.lift _ (Ext.trans hE15 hS23.ext) r_a_Matrices) hx31) rfl ?_
      rintro _ wd32 ⟨rfl, he33⟩
      have hS35 := St.extend hS23 he33
      replace hS35 : St wd10 wd32 [] := hS35
      refine WL.val (Value.bool x30) _ (op_pick_t (evb_of rfl hc24) rfl) rfl ?_
      refine WL.nil ?_
      obtain rfl := Option.some.inj hj26
      exact ⟨rfl, rfl, rfl, rfl, hS35⟩
    · replace hj26 := inegb hj26 hc24
      refine WL.gskip rfl (bool_of rfl hc24) rfl ?_
      refine WL.gskip rfl (bool_of rfl hc24) rfl ?_
      refine WL.gskip rfl (bool_of rfl hc24) rfl ?_
      refine WL.val (Value.bool false) _ (op_pick_f (evb_of rfl hc24) rfl) rfl ?_
      refine WL.nil ?_
      obtain rfl := Option.some.inj hj26
      exact ⟨rfl, rfl, rfl, rfl, hS23⟩
  · intro f27 wd28 hq29
    obtain ⟨hf36, hf37, hf38, hS39⟩ := hq29
    refine WL.val (Value.bool x25) _ (op_move hf38) rfl ?_
    obtain ⟨x41, hj42, h⟩ := bs h
    refine WL.cut 5 (fun fq wq => fq 17 = Value.bool x41 ∧ St wd10 wq []) ?_ ?_
    · rcases Bool.eq_false_or_eq_true x25 with hc40 | hc40
      · replace hj42 := ip hj42 hc40
        refine WL.grun rfl (bool_of rfl hc40) ?_
        refine WL.val (Value.agg #[v_r_Table]) _ (op_loadBox st_29 hf36 (BoxAt.lift (Ext.trans hE16 hS39.ext) hx6) rfl rfl) rfl ?_
        refine WL.grun rfl (bool_of rfl hc40) ?_
        refine WL.val (Value.agg #[v_a_Matrices]) _ (op_loadBox st_42 hf37 (BoxAt.lift hS39.ext hx14) rfl rfl) rfl ?_
        refine WL.grun rfl (bool_of rfl hc40) ?_
        obtain ⟨x46, hx47, hj42⟩ := bs hj42
        refine WL.call _ (op_call fn_59 (args2 rfl rfl)) (c_impl_actionFault (Ty.lift _ (Ext.trans hE15 hS39.ext) r_r_Table) (Ty.lift _ (Ext.trans hE15 hS39.ext) r_a_Matrices) hx47) rfl ?_
        rintro u48 wd50 ⟨_, rfl, hn49, he51, hs52⟩
        have hS53 := St.join hS39 he51 hs52
        replace hS53 : St wd10 wd50 [(Ty.sl (Ty.i .i64)).at u48 x46] := hS53
        refine WL.grun rfl (bool_of rfl hc40) ?_
        refine WL.val (Value.bool (x46).isEmpty) _ (op_eqlNilL sl_25 (St.rep (t := (Ty.sl (Ty.i .i64))) hS53 0 rfl) hn49 rfl rfl) rfl ?_
        refine WL.val (Value.bool (x46).isEmpty) _ (op_pick_t (evb_of rfl hc40) rfl) rfl ?_
        refine WL.nil ?_
        obtain rfl := Option.some.inj hj42
        exact ⟨rfl, rfl, (St.pick hS53 [] rfl)⟩
      · replace hj42 := inegb hj42 hc40
        refine WL.gskip rfl (bool_of rfl hc40) rfl ?_
        refine WL.gskip rfl (bool_of rfl hc40) rfl ?_
        refine WL.gskip rfl (bool_of rfl hc40) rfl ?_
        refine WL.gskip rfl (bool_of rfl hc40) rfl ?_
        refine WL.val (Value.bool false) _ (op_pick_f (evb_of rfl hc40) rfl) rfl ?_
        refine WL.nil ?_
        obtain rfl := Option.some.inj hj42
        exact ⟨rfl, rfl, hS39⟩
    · intro f43 wd44 hq45
      obtain ⟨hf54, hS55⟩ := hq45
      refine WL.val (Value.bool x41) _ (op_assign hf54) rfl ?_
      refine WL.nil ?_
      show W _ _ _ _ _ _
      refine W.ret ?_
      obtain rfl := Option.some.inj h
      show FinP _ _ _ _ _ _ _
      exact FinP.ret _ (res1 rfl rfl) ⟨rfl, (Ext.trans hE15 hS55.ext)⟩

theorem c_impl_Ring_isLabel {w : World} {r_Table : (List (List (List Int)))} {v_r_Table : Value} {i : Int} (r_r_Table : (Ty.sl (Ty.sl (Ty.sl (Ty.i .i64)))).rep w v_r_Table r_Table) (r_i : InR .i64 i) {res : Bool} (h : p_impl_Ring_isLabel r_Table i  = some res) :
    Ret Try.prog 52 #[(Value.agg #[v_r_Table]), (Value.int .i64 i)] w (fun v w' => v = Value.bool res ∧ Ext w w') := by
  unfold p_impl_Ring_isLabel at h
  have hS0 : St w w [] := St.start w
  refine Ret.start (fn := Try.f52) Try.func52 rfl 11 rfl rfl ?_
  refine W.seq (W.region ?_)
  refine WL.box hS0 rfl (cs := [v_r_Table]) rfl rfl ?_
  intro b1 wd2 hS3 he4 hx5
  replace hS3 : St w wd2 [bx b1 [v_r_Table]] := hS3
  have hx6 := St.boxAt hS3 0 rfl
  have hE7 : Ext w wd2 := hS3.ext
  have hS8 : St wd2 wd2 [] := St.start wd2
  refine WL.val (Value.bool false) _ (op_assign rfl) rfl ?_
  refine WL.nil ?_
  show W _ _ _ _ _ _
  refine W.seq (W.region ?_)
  refine WL.val (Value.int .i64 i) _ (op_move rfl) rfl ?_
  refine WL.val (Value.pointer (some ⟨b1, 0, none⟩)) _ (op_fieldAddr fd_29_0 rfl) rfl ?_
  refine WL.val v_r_Table _ (op_load one_22 rfl (BoxAt.cell (BoxAt.lift hS8.ext hx6) rfl)) rfl ?_
  have hr9 := inR_len (Ty.lift _ (Ext.trans hE7 hS8.ext) r_r_Table)
  refine WL.val (Value.int .i64 ((r_Table).length : Int)) _ (op_lenL sl_22 (Ty.lift _ (Ext.trans hE7 hS8.ext) r_r_Table) rfl) rfl ?_
  refine WL.val (Value.int .i64 (w64 (((r_Table).length : Int) - (1 : Int)))) _ (op_sub rfl rfl) rfl ?_
  obtain ⟨x10, hx11, h⟩ := bs h
  refine WL.call _ (op_call fn_79 (args3 rfl rfl rfl)) (c_impl_within r_i (inR_i64.2 (show (-9223372036854775808 : Int) ≤ 0 ∧ (0 : Int) ≤ 9223372036854775807 from by decide)) (inR_wrap _ _) hx11) rfl ?_
  rintro _ wd12 ⟨rfl, he13⟩
  have hS15 := St.extend hS8 he13
  replace hS15 : St wd2 wd12 [] := hS15
  refine WL.val (Value.bool x10) _ (op_assign rfl) rfl ?_
  refine WL.nil ?_
  show W _ _ _ _ _ _
  refine W.ret ?_
  obtain rfl := Option.some.inj h
  show FinP _ _ _ _ _ _ _
  exact FinP.ret _ (res1 rfl rfl) ⟨rfl, (Ext.trans hE7 hS15.ext)⟩

theorem c_impl_Action_points {w : World} {a_Matrices : (List (List (List Int)))} {v_a_Matrices : Value} (r_a_Matrices : (Ty.sl (Ty.sl (Ty.sl (Ty.i .i64)))).rep w v_a_Matrices a_Matrices) {res : Int} (h : p_impl_Action_points a_Matrices  = some res) :
    Ret Try.prog 54 #[(Value.agg #[v_a_Matrices])] w (fun v w' => v = Value.int .i64 res ∧ InR .i64 res ∧ Ext w w') := by
  unfold p_impl_Action_points at h
  have hS0 : St w w [] := St.start w
  refine Ret.start (fn := Try.f54) Try.func54 rfl 8 rfl rfl ?_
  refine W.seq (W.region ?_)
  refine WL.box hS0 rfl (cs := [v_a_Matrices]) rfl rfl ?_
  intro b1 wd2 hS3 he4 hx5
  replace hS3 : St w wd2 [bx b1 [v_a_Matrices]] := hS3
  have hx6 := St.boxAt hS3 0 rfl
  have hE7 : Ext w wd2 := hS3.ext
  have hS8 : St wd2 wd2 [] := St.start wd2
  refine WL.val (Value.int .i64 (0 : Int)) _ (op_assign rfl) rfl ?_
  refine WL.nil ?_
  show W _ _ _ _ _ _
  refine W.seq (W.region ?_)
  refine WL.val (Value.pointer (some ⟨b1, 0, none⟩)) _ (op_fieldAddr fd_42_0 rfl) rfl ?_
  refine WL.val v_a_Matrices _ (op_load one_22 rfl (BoxAt.cell (BoxAt.lift hS8.ext hx6) rfl)) rfl ?_
  obtain ⟨x9, hx12, h⟩ := bs h
  obtain ⟨ha10, hb11, hx12⟩ := idx_some hx12
  refine WL.val (Value.pointer (some (elA v_a_Matrices ((0 : Int)).toNat))) _ (op_idx sl_22 (Ty.lift _ (Ext.trans hE7 hS8.ext) r_a_Matrices) rfl rfl ha10 hb11) rfl ?_
  obtain ⟨u13, hc14, hr15⟩ := repSl.el r_a_Matrices hx12
  refine WL.val u13 _ (op_load one_65 rfl (Ext.cell (Ext.trans hE7 hS8.ext) hc14)) rfl ?_
  have hr16 := inR_len (Ty.lift _ (Ext.trans hE7 hS8.ext) hr15)
  refine WL.val (Value.int .i64 ((x9).length : Int)) _ (op_lenL sl_65 (Ty.lift _ (Ext.trans hE7 hS8.ext) hr15) rfl) rfl ?_
  refine WL.val (Value.int .i64 ((x9).length : Int)) _ (op_assign rfl) rfl ?_
  refine WL.nil ?_
  show W _ _ _ _ _ _
  refine W.ret ?_
  obtain rfl := Option.some.inj h
  show FinP _ _ _ _ _ _ _
  exact FinP.ret _ (res1 rfl rfl) ⟨rfl, hr16, (Ext.trans hE7 hS8.ext)⟩

theorem c_impl_CountFixedPoints {w : World} {r_Table : (List (List (List Int)))} {v_r_Table : Value} {a_Matrices : (List (List (List Int)))} {v_a_Matrices : Value} {i : Int} (r_r_Table : (Ty.sl (Ty.sl (Ty.sl (Ty.i .i64)))).rep w v_r_Table r_Table) (r_a_Matrices : (Ty.sl (Ty.sl (Ty.sl (Ty.i .i64)))).rep w v_a_Matrices a_Matrices) (r_i : InR .i64 i) {res : Int × Int} (h : p_impl_CountFixedPoints r_Table a_Matrices i  = some res) :
    Ret Try.prog 21 #[(Value.agg #[v_r_Table]), (Value.agg #[v_a_Matrices]), (Value.int .i64 i)] w (fun v w' => v = (Value.tuple #[Value.int .i64 res.1, Value.int .i64 res.2]) ∧ InR .i64 res.1 ∧ InR .i64 res.2 ∧ Ext w w') := by
  unfold p_impl_CountFixedPoints at h
  have hS0 : St w w [] := St.start w
  refine Ret.start (fn := Try.f21) Try.func21 rfl 45 rfl rfl ?_
  refine W.seq (W.region ?_)
  refine WL.box hS0 rfl (cs := [v_r_Table]) rfl rfl ?_
  intro b1 wd2 hS3 he4 hx5
  replace hS3 : St w wd2 [bx b1 [v_r_Table]] := hS3
  have hx6 := St.boxAt hS3 0 rfl
  have hE7 : Ext w wd2 := hS3.ext
  have hS8 : St wd2 wd2 [] := St.start wd2
  refine WL.box hS8 rfl (cs := [v_a_Matrices]) rfl rfl ?_
  intro b9 wd10 hS11 he12 hx13
  replace hS11 : St wd2 wd10 [bx b9 [v_a_Matrices]] := hS11
  have hx14 := St.boxAt hS11 0 rfl
  have hE15 : Ext w wd10 := (Ext.trans hE7 hS11.ext)
  have hE16 : Ext wd2 wd10 := hS11.ext
  have hS17 : St wd10 wd10 [] := St.start wd10
  refine WL.val (Value.int .i64 (0 : Int)) _ (op_assign rfl) rfl ?_
  refine WL.val (Value.int .i64 (0 : Int)) _ (op_assign rfl) rfl ?_
  refine WL.nil ?_
  show W _ _ _ _ _ _
  refine W.seq (W.seq (W.region ?_))
  refine WL.val (Value.agg #[v_r_Table]) _ (op_loadBox st_29 rfl (BoxAt.lift (Ext.trans hE16 hS17.ext) hx6) rfl rfl) rfl ?_
  refine WL.val (Value.agg #[v_a_Matrices]) _ (op_loadBox st_42 rfl (BoxAt.lift hS17.ext hx14) rfl rfl) rfl ?_
  obtain ⟨x18, hx19, h⟩ := bs h
  refine WL.call _ (op_call fn_24 (args2 rfl rfl)) (c_impl_IsAction (Ty.lift _ (Ext.trans hE15 hS17.ext) r_r_Table) (Ty.lift _ (Ext.trans hE15 hS17.ext) r_a_Matrices) hx19) rfl ?_
  rintro _ wd20 ⟨rfl, he21⟩
  have hS23 := St.extend hS17 he21
  replace hS23 : St wd10 wd20 [] := hS23
  refine WL.val (Value.bool (!x18)) _ (op_not rfl) rfl ?_
  refine WL.nil ?_
  show W _ _ _ _ _ _
  refine W.cond (!x18) rfl (fun hc24 => ?_) (fun hc24 => ?_)
  · replace h := ip h hc24
    refine W.seq (W.region ?_)
    refine WL.val (Value.int .i64 (0 : Int)) _ (op_assign rfl) rfl ?_
    refine WL.val (Value.int .i64 (1 : Int)) _ (op_assign rfl) rfl ?_
    refine WL.nil ?_
    show W _ _ _ _ _ _
    refine W.ret ?_
    obtain rfl := Option.some.inj h
    show FinP _ _ _ _ _ _ _
    exact FinP.ret _ (res2 rfl rfl rfl) ⟨rfl, (inR_i64.2 (show (-9223372036854775808 : Int) ≤ 0 ∧ (0 : Int) ≤ 9223372036854775807 from by decide)), (inR_i64.2 (show (-9223372036854775808 : Int) ≤ 1 ∧ (1 : Int) ≤ 9223372036854775807 from by decide)), (Ext.trans hE15 hS23.ext)⟩
  · replace h := inegb h hc24
    refine W.skip ?_
    show W _ _ _ _ _ _
    refine W.seq (W.seq (W.region ?_))
    refine WL.val (Value.agg #[v_r_Table]) _ (op_loadBox st_29 rfl (BoxAt.lift (Ext.trans hE16 hS23.ext) hx6) rfl rfl) rfl ?_
    refine WL.val (Value.int .i64 i) _ (op_move rfl) rfl ?_
    obtain ⟨x26, hx27, h⟩ := bs h
    refine WL.call _ (op_call fn_52 (args2 rfl rfl)) (c_impl_Ring_isLabel (Ty.lift _ (Ext.trans hE15 hS23.ext) r_r_Table) r_i hx27) rfl ?_
    rintro _ wd28 ⟨rfl, he29⟩
    have hS31 := St.extend hS23 he29
    replace hS31 : St wd10 wd28 [] := hS31
    refine WL.val (Value.bool (!x26)) _ (op_not rfl) rfl ?_
    refine WL.nil ?_
    show W _ _ _ _ _ _
    refine W.cond (!x26) rfl (fun hc32 => ?_) (fun hc32 => ?_)
    · replace h := ip h hc32
      refine W.seq (W.region ?_)
      refine WL.val (Value.int .i64 (0 : Int)) _ (op_assign rfl) rfl ?_
      refine WL.val (Value.int .i64 (2 : Int)) _ (op_assign rfl) rfl ?_
      refine WL.nil ?_
      show W _ _ _ _ _ _
      refine W.ret ?_
      obtain rfl := Option.some.inj h
      show FinP _ _ _ _ _ _ _
      exact FinP.ret _ (res2 rfl rfl rfl) ⟨rfl, (inR_i64.2 (show (-9223372036854775808 : Int) ≤ 0 ∧ (0 : Int) ≤ 9223372036854775807 from by decide)), (inR_i64.2 (show (-9223372036854775808 : Int) ≤ 2 ∧ (2 : Int) ≤ 9223372036854775807 from by decide)), (Ext.trans hE15 hS31.ext)⟩
    · replace h := inegb h hc32
      refine W.skip ?_
      show W _ _ _ _ _ _
      refine W.seq (W.region ?_)
      refine WL.val (Value.int .i64 (0 : Int)) _ (op_assign rfl) rfl ?_
      refine WL.nil ?_
      show W _ _ _ _ _ _
      refine W.seq (W.region ?_)
      refine WL.val (Value.agg #[v_a_Matrices]) _ (op_loadBox st_42 rfl (BoxAt.lift hS31.ext hx14) rfl rfl) rfl ?_
      obtain ⟨x34, hx35, h⟩ := bs h
      refine WL.call _ (op_call fn_54 (args1 rfl)) (c_impl_Action_points (Ty.lift _ (Ext.trans hE15 hS31.ext) r_a_Matrices) hx35) rfl ?_
      rintro _ wd37 ⟨rfl, hr36, he38⟩
      have hS40 := St.extend hS31 he38
      replace hS40 : St wd10 wd37 [] := hS40
      obtain ⟨x41, hx42, h⟩ := bs h
      refine WL.call _ (op_call fn_53 (args2 rfl rfl)) (c_impl_unitMatrix hr36 (inR_i64.2 (show (-9223372036854775808 : Int) ≤ 1 ∧ (1 : Int) ≤ 9223372036854775807 from by decide)) hx42) rfl ?_
      rintro u43 wd44 ⟨_, rfl, he45, hs46⟩
      have hS47 := St.join hS40 he45 hs46
      replace hS47 : St wd10 wd44 [(Ty.sl (Ty.sl (Ty.i .i64))).at u43 x41] := hS47
      have hb48 := St.rep (t := (Ty.sl (Ty.sl (Ty.i .i64)))) hS47 0 rfl
      have hE49 : Ext w wd44 := (Ext.trans hE15 hS47.ext)
      have hE50 : Ext wd2 wd44 := (Ext.trans hE16 hS47.ext)
      have hE51 : Ext wd10 wd44 := hS47.ext
      have hS52 : St wd44 wd44 [] := St.start wd44
      refine WL.val u43 _ (op_assign rfl) rfl ?_
      refine WL.nil ?_
      show W _ _ _ _ _ _
      refine W.seq (W.seq (W.region ?_))
      refine WL.val (Value.pointer (some ⟨b9, 0, none⟩)) _ (op_fieldAddr fd_42_0 rfl) rfl ?_
      refine WL.val v_a_Matrices _ (op_load one_22 rfl (BoxAt.cell (BoxAt.lift (Ext.trans hE51 hS52.ext) hx14) rfl)) rfl ?_
      refine WL.val (Value.int .i64 i) _ (op_move rfl) rfl ?_
      obtain ⟨x53, hx56, h⟩ := bs h
      obtain ⟨ha54, hb55, hx56⟩ := idx_some hx56
      refine WL.val (Value.pointer (some (elA v_a_Matrices (i).toNat))) _ (op_idx sl_22 (Ty.lift _ (Ext.trans hE49 hS52.ext) r_a_Matrices) rfl rfl ha54 hb55) rfl ?_
      obtain ⟨u57, hc58, hr59⟩ := repSl.el r_a_Matrices hx56
      refine WL.val u57 _ (op_load one_65 rfl (Ext.cell (Ext.trans hE49 hS52.ext) hc58)) rfl ?_
      obtain ⟨x60, hx61, h⟩ := bs h
      refine WL.call _ (op_call fn_55 (args1 rfl)) (c_impl_transpose (Ty.lift _ (Ext.trans hE49 hS52.ext) hr59) hx61) rfl ?_
      rintro u62 wd63 ⟨_, rfl, he64, hs65⟩
      have hS66 := St.join hS52 he64 hs65
      replace hS66 : St wd44 wd63 [(Ty.sl (Ty.sl (Ty.i .i64))).at u62 x60] := hS66
      have hb67 := St.rep (t := (Ty.sl (Ty.sl (Ty.i .i64)))) hS66 0 rfl
      have hE68 : Ext w wd63 := (Ext.trans hE49 hS66.ext)
      have hE69 : Ext wd2 wd63 := (Ext.trans hE50 hS66.ext)
      have hE70 : Ext wd10 wd63 := (Ext.trans hE51 hS66.ext)
      have hE71 : Ext wd44 wd63 := hS66.ext
      have hS72 : St wd63 wd63 [] := St.start wd63
      have hr73 := inR_len (Ty.lift _ hS72.ext hb67)
      refine WL.val (Value.int .i64 ((x60).length : Int)) _ (op_lenL sl_65 (Ty.lift _ hS72.ext hb67) rfl) rfl ?_
      refine WL.val (Value.int .i64 (0 : Int)) _ (op_move rfl) rfl ?_
      refine WL.nil ?_
      show W _ _ _ _ _ _
      obtain ⟨res74, hres75, h⟩ := bs h
      refine W.blockLoop (fun fq wq => ∃ s, res74 = Res.fin s ∧ fq 8 = Value.int .i64 s ∧ InR .i64 s ∧ St wd63 wq []) ?_ ?_
      · refine W.forN (fun k (s : Int) fq wq => fq 8 = Value.int .i64 s ∧ InR .i64 s ∧ fq 9 = u43 ∧ fq 28 = u62 ∧ fq 29 = (Value.int .i64 ((x60).length : Int)) ∧ fq 30 = Value.int .i64 (k : Int) ∧ InR .i64 (k : Int) ∧ St wd63 wq []) hres75 ⟨rfl, (inR_i64.2 (show (-9223372036854775808 : Int) ≤ 0 ∧ (0 : Int) ≤ 9223372036854775807 from by decide)), rfl, rfl, rfl, rfl, (inR_i64.2 (show (-9223372036854775808 : Int) ≤ 0 ∧ (0 : Int) ≤ 9223372036854775807 from by decide)), hS72⟩ ?_ ?_
        · intro k76 x77 ct78 f79 wd80 hk81 hb82 hI83 hbrk84 hret85
          replace hI83 : f79 8 = Value.int .i64 x77 ∧ InR .i64 x77 ∧ f79 9 = u43 ∧ f79 28 = u62 ∧ f79 29 = (Value.int .i64 ((x60).length : Int)) ∧ f79 30 = Value.int .i64 (k76 : Int) ∧ InR .i64 (k76 : Int) ∧ St wd63 wd80 [] := hI83
          replace hb82 : p_impl_CountFixedPoints_L1 x60 x41 k76 x77 = some ct78 := hb82
          unfold p_impl_CountFixedPoints_L1 at hb82
          obtain ⟨hf86, hr87, hf88, hf89, hf90, hf91, hr92, hS93⟩ := hI83
          refine W.seq (W.region ?_)
          refine WL.val (Value.bool (decide ((k76 : Int) < ((x60).length : Int)))) _ (op_lss hf91 hf90) rfl ?_
          have hl94 : (k76 : Int) < ((x60).length : Int) := by omega
          refine WL.nil ?_
          show W _ _ _ _ _ _
          refine W.seq ?_
          refine W.condT (decide ((k76 : Int) < ((x60).length : Int))) rfl (decide_eq_true hl94) ?_
          refine W.skip ?_
          show W _ _ _ _ _ _
          refine W.seq ?_
          refine W.block ?_
          refine W.seq (W.region ?_)
          refine WL.val (Value.int .i64 (k76 : Int)) _ (op_move hf91) rfl ?_
          obtain ⟨x96, hx99, hb82⟩ := bs hb82
          obtain ⟨ha97, hb98, hx99⟩ := idx_some hx99
          refine WL.val (Value.pointer (some (elA u62 ((k76 : Int)).toNat))) _ (op_idx sl_65 (Ty.lift _ hS93.ext hb67) hf89 hf91 ha97 hb98) rfl ?_
          obtain ⟨u100, hc101, hr102⟩ := repSl.el hb67 hx99
          refine WL.val u100 _ (op_load one_25 rfl (Ext.cell hS93.ext hc101)) rfl ?_
          refine WL.val (Value.int .i64 (k76 : Int)) _ (op_assign rfl) rfl ?_
          refine WL.val u100 _ (op_assign rfl) rfl ?_
          refine WL.nil ?_
          show W _ _ _ _ _ _
          refine W.seq (W.region ?_)
          refine WL.val u100 _ (op_move rfl) rfl ?_
          refine WL.val u43 _ (op_move hf88) rfl ?_
          refine WL.val (Value.int .i64 (k76 : Int)) _ (op_move rfl) rfl ?_
          obtain ⟨x103, hx106, hb82⟩ := bs hb82
          obtain ⟨ha104, hb105, hx106⟩ := idx_some hx106
          refine WL.val (Value.pointer (some (elA u43 ((k76 : Int)).toNat))) _ (op_idx sl_65 (Ty.lift _ (Ext.trans hE71 hS93.ext) hb48) rfl rfl ha104 hb105) rfl ?_
          obtain ⟨u107, hc108, hr109⟩ := repSl.el hb48 hx106
          refine WL.val u107 _ (op_load one_25 rfl (Ext.cell (Ext.trans hE71 hS93.ext) hc108)) rfl ?_
          obtain ⟨x110, hx111, hb82⟩ := bs hb82
          refine WL.call _ (op_call fn_56 (args2 rfl rfl)) (c_slices_Equal_Lint64_int64 (Ty.lift _ hS93.ext hr102) (Ty.lift _ (Ext.trans hE71 hS93.ext) hr109) hx111) rfl ?_
          rintro _ wd112 ⟨rfl, he113⟩
          have hS115 := St.extend hS93 he113
          replace hS115 : St wd63 wd112 [] := hS115
          refine WL.nil ?_
          show W _ _ _ _ _ _
          obtain ⟨x116, hj117, hb82⟩ := bs hb82
          refine W.cutCode (fun fq wq => fq 8 = Value.int .i64 x116 ∧ InR .i64 x116 ∧ fq 9 = u43 ∧ fq 28 = u62 ∧ fq 29 = (Value.int .i64 ((x60).length : Int)) ∧ fq 30 = (Value.int .i64 (k76 : Int)) ∧ St wd63 wq []) ?_ ?_
          · refine W.cond x110 rfl (fun hc118 => ?_) (fun hc118 => ?_)
            · replace hj117 := ip hj117 hc118
              refine W.region ?_
              refine WL.val (Value.int .i64 x77) _ (op_move hf86) rfl ?_
              refine WL.val (Value.int .i64 (w64 (x77 + (1 : Int)))) _ (op_add rfl rfl) rfl ?_
              refine WL.val (Value.int .i64 (w64 (x77 + (1 : Int)))) _ (op_assign rfl) rfl ?_
              refine WL.nil ?_
              obtain rfl := Option.some.inj hj117
              exact ⟨rfl, (inR_wrap _ _), hf88, hf89, hf90, hf91, hS115⟩
            · replace hj117 := inegb hj117 hc118
              refine W.skip ?_
              obtain rfl := Option.some.inj hj117
              exact ⟨hf86, hr87, hf88, hf89, hf90, hf91, hS115⟩
          · intro f119 wd120 hq121
            obtain ⟨hf122, hr123, hf124, hf125, hf126, hf127, hS128⟩ := hq121
            show W _ _ _ _ _ _
            refine W.region ?_
            refine WL.val (Value.int .i64 (w64 ((k76 : Int) + (1 : Int)))) _ (op_add hf127 rfl) rfl ?_
            refine WL.val (Value.int .i64 (w64 ((k76 : Int) + (1 : Int)))) _ (op_move rfl) rfl ?_
            refine WL.nil ?_
            obtain rfl := Option.some.inj hb82
            show ∃ s, _ = Ctl.next s ∧ _
            exact ⟨_, rfl, hf122, hr123, hf124, hf125, hf126, (ctr_next hl94 hr73), (ctr_rng hl94 hr73), hS128⟩
        · intro x135 f130 wd131 hs132 hI133
          replace hI133 : f130 8 = Value.int .i64 x135 ∧ InR .i64 x135 ∧ f130 9 = u43 ∧ f130 28 = u62 ∧ f130 29 = (Value.int .i64 ((x60).length : Int)) ∧ f130 30 = Value.int .i64 (((x60).length : Nat) : Int) ∧ InR .i64 (((x60).length : Nat) : Int) ∧ St wd63 wd131 [] := hI133
          obtain ⟨hf136, hr137, hf138, hf139, hf140, hf141, hr142, hS143⟩ := hI133
          refine W.seq (W.region ?_)
          refine WL.val (Value.bool (decide ((((x60).length : Nat) : Int) < ((x60).length : Int)))) _ (op_lss hf141 hf140) rfl ?_
          have hl144 : ¬ (((x60).length : Nat) : Int) < ((x60).length : Int) := by omega
          refine WL.nil ?_
          show W _ _ _ _ _ _
          refine W.seq ?_
          refine W.condF (decide ((((x60).length : Nat) : Int) < ((x60).length : Int))) rfl (decide_eq_false hl144) ?_
          refine W.exit ?_
          show _ = _ ∧ _
          exact ⟨rfl, _, hs132, hf136, hr137, hS143⟩
      · rintro f145 wd146 ⟨x149, rfl, hq147⟩
        replace h := onRes_fin h
        replace hq147 : f145 8 = Value.int .i64 x149 ∧ InR .i64 x149 ∧ St wd63 wd146 [] := hq147
        obtain ⟨hf150, hr151, hS152⟩ := hq147
        show W _ _ _ _ _ _
        refine W.seq (W.region ?_)
        refine WL.val (Value.int .i64 x149) _ (op_move hf150) rfl ?_
        refine WL.val (Value.int .i64 x149) _ (op_assign rfl) rfl ?_
        refine WL.val (Value.int .i64 (0 : Int)) _ (op_assign rfl) rfl ?_
        refine WL.nil ?_
        show W _ _ _ _ _ _
        refine W.ret ?_
        obtain rfl := Option.some.inj h
        show FinP _ _ _ _ _ _ _
        exact FinP.ret _ (res2 rfl rfl rfl) ⟨rfl, hr151, (inR_i64.2 (show (-9223372036854775808 : Int) ≤ 0 ∧ (0 : Int) ≤ 9223372036854775807 from by decide)), (Ext.trans hE68 hS152.ext)⟩

theorem c_laws_eqAction {w : World} {a_Matrices : (List (List (List Int)))} {v_a_Matrices : Value} {b_Matrices : (List (List (List Int)))} {v_b_Matrices : Value} (r_a_Matrices : (Ty.sl (Ty.sl (Ty.sl (Ty.i .i64)))).rep w v_a_Matrices a_Matrices) (r_b_Matrices : (Ty.sl (Ty.sl (Ty.sl (Ty.i .i64)))).rep w v_b_Matrices b_Matrices) {res : Bool} (h : p_laws_eqAction a_Matrices b_Matrices  = some res) :
    Ret Try.prog 22 #[(Value.agg #[v_a_Matrices]), (Value.agg #[v_b_Matrices])] w (fun v w' => v = Value.bool res ∧ Ext w w') := by
  unfold p_laws_eqAction at h
  have hS0 : St w w [] := St.start w
  refine Ret.start (fn := Try.f22) Try.func22 rfl 11 rfl rfl ?_
  refine W.seq (W.region ?_)
  refine WL.box hS0 rfl (cs := [v_a_Matrices]) rfl rfl ?_
  intro b1 wd2 hS3 he4 hx5
  replace hS3 : St w wd2 [bx b1 [v_a_Matrices]] := hS3
  have hx6 := St.boxAt hS3 0 rfl
  have hE7 : Ext w wd2 := hS3.ext
  have hS8 : St wd2 wd2 [] := St.start wd2
  refine WL.box hS8 rfl (cs := [v_b_Matrices]) rfl rfl ?_
  intro b9 wd10 hS11 he12 hx13
  replace hS11 : St wd2 wd10 [bx b9 [v_b_Matrices]] := hS11
  have hx14 := St.boxAt hS11 0 rfl
  have hE15 : Ext w wd10 := (Ext.trans hE7 hS11.ext)
  have hE16 : Ext wd2 wd10 := hS11.ext
  have hS17 : St wd10 wd10 [] := St.start wd10
  refine WL.val (Value.bool false) _ (op_assign rfl) rfl ?_
  refine WL.nil ?_
  show W _ _ _ _ _ _
  refine W.seq (W.seq (W.region ?_))
  refine WL.val (Value.pointer (some ⟨b1, 0, none⟩)) _ (op_fieldAddr fd_42_0 rfl) rfl ?_
  refine WL.val v_a_Matrices _ (op_load one_22 rfl (BoxAt.cell (BoxAt.lift (Ext.trans hE16 hS17.ext) hx6) rfl)) rfl ?_
  refine WL.val (Value.pointer (some ⟨b9, 0, none⟩)) _ (op_fieldAddr fd_42_0 rfl) rfl ?_
  refine WL.val v_b_Matrices _ (op_load one_22 rfl (BoxAt.cell (BoxAt.lift hS17.ext hx14) rfl)) rfl ?_
  obtain ⟨x18, hx19, h⟩ := bs h
  refine WL.call _ (op_call fn_41 (args2 rfl rfl)) (c_laws_eqInt64SSS (Ty.lift _ (Ext.trans hE15 hS17.ext) r_a_Matrices) (Ty.lift _ (Ext.trans hE15 hS17.ext) r_b_Matrices) hx19) rfl ?_
  rintro _ wd20 ⟨rfl, he21⟩
  have hS23 := St.extend hS17 he21
  replace hS23 : St wd10 wd20 [] := hS23
  refine WL.val (Value.bool (!x18)) _ (op_not rfl) rfl ?_
  refine WL.nil ?_
  show W _ _ _ _ _ _
  refine W.cond (!x18) rfl (fun hc24 => ?_) (fun hc24 => ?_)
  · replace h := ip h hc24
    refine W.seq (W.region ?_)
    refine WL.val (Value.bool false) _ (op_assign rfl) rfl ?_
    refine WL.nil ?_
    show W _ _ _ _ _ _
    refine W.ret ?_
    obtain rfl := Option.some.inj h
    show FinP _ _ _ _ _ _ _
    exact FinP.ret _ (res1 rfl rfl) ⟨rfl, (Ext.trans hE15 hS23.ext)⟩
  · replace h := inegb h hc24
    refine W.skip ?_
    show W _ _ _ _ _ _
    refine W.seq (W.region ?_)
    refine WL.val (Value.bool true) _ (op_assign rfl) rfl ?_
    refine WL.nil ?_
    show W _ _ _ _ _ _
    refine W.ret ?_
    obtain rfl := Option.some.inj h
    show FinP _ _ _ _ _ _ _
    exact FinP.ret _ (res1 rfl rfl) ⟨rfl, (Ext.trans hE15 hS23.ext)⟩

theorem c_laws_FnExactCountFixedPoints {w : World} {aR_Table : (List (List (List Int)))} {v_aR_Table : Value} {aA_Matrices : (List (List (List Int)))} {v_aA_Matrices : Value} {aI : Int} (r_aR_Table : (Ty.sl (Ty.sl (Ty.sl (Ty.i .i64)))).rep w v_aR_Table aR_Table) (r_aA_Matrices : (Ty.sl (Ty.sl (Ty.sl (Ty.i .i64)))).rep w v_aA_Matrices aA_Matrices) (r_aI : InR .i64 aI) {res : Bool} (h : p_laws_FnExactCountFixedPoints aR_Table aA_Matrices aI  = some res) :
    Ret Try.prog 5 #[(Value.agg #[v_aR_Table]), (Value.agg #[v_aA_Matrices]), (Value.int .i64 aI)] w (fun v w' => v = Value.bool res ∧ Ext w w') := by
  unfold p_laws_FnExactCountFixedPoints at h
  have hS0 : St w w [] := St.start w
  refine Ret.start (fn := Try.f5) Try.func5 rfl 62 rfl rfl ?_
  refine W.seq (W.region ?_)
  refine WL.box hS0 rfl (cs := [v_aR_Table]) rfl rfl ?_
  intro b1 wd2 hS3 he4 hx5
  replace hS3 : St w wd2 [bx b1 [v_aR_Table]] := hS3
  have hx6 := St.boxAt hS3 0 rfl
  have hE7 : Ext w wd2 := hS3.ext
  have hS8 : St wd2 wd2 [] := St.start wd2
  refine WL.box hS8 rfl (cs := [v_aA_Matrices]) rfl rfl ?_
  intro b9 wd10 hS11 he12 hx13
  replace hS11 : St wd2 wd10 [bx b9 [v_aA_Matrices]] := hS11
  have hx14 := St.boxAt hS11 0 rfl
  have hE15 : Ext w wd10 := (Ext.trans hE7 hS11.ext)
  have hE16 : Ext wd2 wd10 := hS11.ext
  have hS17 : St wd10 wd10 [] := St.start wd10
  refine WL.val (Value.bool false) _ (op_assign rfl) rfl ?_
  refine WL.nil ?_
  show W _ _ _ _ _ _
  refine W.seq (W.region ?_)
  refine WL.val (Value.int .i64 (1048576 : Int)) _ (op_assign rfl) rfl ?_
  refine WL.nil ?_
  show W _ _ _ _ _ _
  refine W.seq (W.region ?_)
  refine WL.val (Value.agg #[v_aR_Table]) _ (op_loadBox st_24 rfl (BoxAt.lift (Ext.trans hE16 hS17.ext) hx6) rfl rfl) rfl ?_
  refine WL.val (Value.int .i64 (1048576 : Int)) _ (op_move rfl) rfl ?_
  obtain ⟨x18, hx19, h⟩ := bs h
  refine WL.call _ (op_call fn_9 (args2 rfl rfl)) (c_laws_szRing (Ty.lift _ (Ext.trans hE15 hS17.ext) r_aR_Table) (inR_i64.2 (show (-9223372036854775808 : Int) ≤ 1048576 ∧ (1048576 : Int) ≤ 9223372036854775807 from by decide)) hx19) rfl ?_
  rintro _ wd21 ⟨rfl, hr20, he22⟩
  have hS24 := St.extend hS17 he22
  replace hS24 : St wd10 wd21 [] := hS24
  refine WL.val (Value.int .i64 x18) _ (op_assign rfl) rfl ?_
  refine WL.nil ?_
  show W _ _ _ _ _ _
  refine W.seq (W.seq (W.region ?_))
  refine WL.val (Value.int .i64 x18) _ (op_move rfl) rfl ?_
  refine WL.val (Value.bool (decide (x18 < (0 : Int)))) _ (op_lss rfl rfl) rfl ?_
  refine WL.nil ?_
  show W _ _ _ _ _ _
  refine W.cond (decide (x18 < (0 : Int))) rfl (fun hc25 => ?_) (fun hc25 => ?_)
  · replace h := ip h hc25
    refine W.seq (W.region ?_)
    refine WL.val (Value.bool true) _ (op_assign rfl) rfl ?_
    refine WL.nil ?_
    show W _ _ _ _ _ _
    refine W.ret ?_
    obtain rfl := Option.some.inj h
    show FinP _ _ _ _ _ _ _
    exact FinP.ret _ (res1 rfl rfl) ⟨rfl, (Ext.trans hE15 hS24.ext)⟩
  · replace h := inegb h hc25
    refine W.skip ?_
    show W _ _ _ _ _ _
    refine W.seq (W.region ?_)
    refine WL.val (Value.agg #[v_aA_Matrices]) _ (op_loadBox st_39 rfl (BoxAt.lift hS24.ext hx14) rfl rfl) rfl ?_
    refine WL.val (Value.int .i64 x18) _ (op_move rfl) rfl ?_
    obtain ⟨x27, hx28, h⟩ := bs h
    refine WL.call _ (op_call fn_18 (args2 rfl rfl)) (c_laws_szAction (Ty.lift _ (Ext.trans hE15 hS24.ext) r_aA_Matrices) hr20 hx28) rfl ?_
    rintro _ wd30 ⟨rfl, hr29, he31⟩
    have hS33 := St.extend hS24 he31
    replace hS33 : St wd10 wd30 [] := hS33
    refine WL.val (Value.int .i64 x27) _ (op_assign rfl) rfl ?_
    refine WL.nil ?_
    show W _ _ _ _ _ _
    refine W.seq (W.seq (W.region ?_))
    refine WL.val (Value.int .i64 x27) _ (op_move rfl) rfl ?_
    refine WL.val (Value.bool (decide (x27 < (0 : Int)))) _ (op_lss rfl rfl) rfl ?_
    refine WL.nil ?_
    show W _ _ _ _ _ _
    refine W.cond (decide (x27 < (0 : Int))) rfl (fun hc34 => ?_) (fun hc34 => ?_)
    · replace h := ip h hc34
      refine W.seq (W.region ?_)
      refine WL.val (Value.bool true) _ (op_assign rfl) rfl ?_
      refine WL.nil ?_
      show W _ _ _ _ _ _
      refine W.ret ?_
      obtain rfl := Option.some.inj h
      show FinP _ _ _ _ _ _ _
      exact FinP.ret _ (res1 rfl rfl) ⟨rfl, (Ext.trans hE15 hS33.ext)⟩
    · replace h := inegb h hc34
      refine W.skip ?_
      show W _ _ _ _ _ _
      refine W.seq ?_
      obtain ⟨x55, hx56, h⟩ := bs h
      obtain ⟨x80, hx81, h⟩ := bs h
      obtain ⟨x114, hx115, h⟩ := bs h
      refine W.drawR mixo 10 [] [fun _ v S w' => ∃ (uu0 : Value), v = (Value.agg #[uu0]) ∧ (Ty.sl (Ty.sl (Ty.sl (Ty.i .i64)))).rep w' uu0 aR_Table, fun _ v S w' => ∃ (uu0 : Value), v = (Value.agg #[uu0]) ∧ SepS S w' [(Ty.sl (Ty.sl (Ty.sl (Ty.i .i64)))).at uu0 x55], fun _ v S w' => ∃ (uu0 : Value), v = (Value.agg #[uu0]) ∧ (Ty.sl (Ty.sl (Ty.sl (Ty.i .i64)))).rep w' uu0 aA_Matrices, fun _ v S w' => ∃ (uu0 : Value), v = (Value.agg #[uu0]) ∧ SepS S w' [(Ty.sl (Ty.sl (Ty.sl (Ty.i .i64)))).at uu0 x80], fun _ v _ _ => v = (Value.int .i64 aI) ∧ InR .i64 aI, fun _ v S w' => v = (Value.tuple #[(Value.int .i64 x114.1), (Value.int .i64 x114.2)]) ∧ InR .i64 x114.1 ∧ InR .i64 x114.2, fun _ v S w' => v = (Value.tuple #[(Value.int .i64 x114.1), (Value.int .i64 x114.2)]) ∧ InR .i64 x114.1 ∧ InR .i64 x114.2, fun _ v _ _ => v = (Value.int .i64 x114.1) ∧ InR .i64 x114.1, fun _ v _ _ => v = (Value.int .i64 x114.2) ∧ InR .i64 x114.2, fun _ v _ _ => v = (Value.int .i64 x114.1) ∧ InR .i64 x114.1] (by kernel_rfl) (by kernel_rfl) ⟨⟨fun _ _ _ _ _ he ⟨uu0, h0, r0⟩ => ⟨uu0, h0, Ty.lift _ he r0⟩, fun _ _ _ _ _ _ h => h⟩, ⟨fun _ _ _ _ _ he ⟨uu0, h0, r0⟩ => ⟨uu0, h0, SepS.extend he r0⟩, fun _ _ _ _ _ _ h => h⟩, ⟨fun _ _ _ _ _ he ⟨uu0, h0, r0⟩ => ⟨uu0, h0, Ty.lift _ he r0⟩, fun _ _ _ _ _ _ h => h⟩, ⟨fun _ _ _ _ _ he ⟨uu0, h0, r0⟩ => ⟨uu0, h0, SepS.extend he r0⟩, fun _ _ _ _ _ _ h => h⟩, ⟨fun _ _ _ _ _ _ h => h, fun _ _ _ _ _ _ h => h⟩, ⟨fun _ _ _ _ _ he ⟨h0, h1, h2⟩ => ⟨h0, h1, h2⟩, fun _ _ _ _ _ _ h => h⟩, ⟨fun _ _ _ _ _ he ⟨h0, h1, h2⟩ => ⟨h0, h1, h2⟩, fun _ _ _ _ _ _ h => h⟩, ⟨fun _ _ _ _ _ _ h => h, fun _ _ _ _ _ _ h => h⟩, ⟨fun _ _ _ _ _ _ h => h, fun _ _ _ _ _ _ h => h⟩, ⟨fun _ _ _ _ _ _ h => h, fun _ _ _ _ _ _ h => h⟩, trivial⟩ ⟨?_, ?_, ?_, ?_, ?_, ?_, ?_, ?_, ?_, ?_, trivial⟩ ?_
      · refine ObX.op rfl ?_
        intro f36 wd37 he38 hout39 hphi40
        have hS41 : St wd10 wd37 [] := St.extend hS33 he38
        have e42 : f36 3 = (Value.pointer (some ⟨b1, 0, none⟩)) := (hout39 3 rfl).trans rfl
        exact OpX.val (Value.agg #[v_aR_Table]) wd37 rfl (op_loadBox st_24 e42 (BoxAt.lift (Ext.trans hE16 hS41.ext) hx6) rfl rfl) (Ext.refl _) ⟨v_aR_Table, rfl, (Ty.lift _ (Ext.trans hE15 hS41.ext) r_aR_Table)⟩
      · refine ObX.op rfl ?_
        intro f43 wd44 he45 hout46 hphi47
        have hS48 : St wd10 wd44 [] := St.extend hS33 he45
        obtain ⟨S49, hS50, hf51⟩ := hphi47 0 25 _ rfl rfl rfl
        obtain ⟨u53, e52, hr54⟩ := hf51
        refine OpX.call rfl (op_call fn_11 (args1 e52)) (Ret.mono (c_laws_toRing hr54 hx56) ?_)
        rintro _ wd58 ⟨u57, rfl, he59, hs60⟩
        exact ⟨he59, _, newS _ _, ⟨u57, rfl, (Sep.new hs60)⟩⟩
      · refine ObX.op rfl ?_
        intro f61 wd62 he63 hout64 hphi65
        have hS66 : St wd10 wd62 [] := St.extend hS33 he63
        have e67 : f61 4 = (Value.pointer (some ⟨b9, 0, none⟩)) := (hout64 4 rfl).trans rfl
        exact OpX.val (Value.agg #[v_aA_Matrices]) wd62 rfl (op_loadBox st_39 e67 (BoxAt.lift hS66.ext hx14) rfl rfl) (Ext.refl _) ⟨v_aA_Matrices, rfl, (Ty.lift _ (Ext.trans hE15 hS66.ext) r_aA_Matrices)⟩
      · refine ObX.op rfl ?_
        intro f68 wd69 he70 hout71 hphi72
        have hS73 : St wd10 wd69 [] := St.extend hS33 he70
        obtain ⟨S74, hS75, hf76⟩ := hphi72 2 27 _ rfl rfl rfl
        obtain ⟨u78, e77, hr79⟩ := hf76
        refine OpX.call rfl (op_call fn_20 (args1 e77)) (Ret.mono (c_laws_toAction hr79 hx81) ?_)
        rintro _ wd83 ⟨u82, rfl, he84, hs85⟩
        exact ⟨he84, _, newS _ _, ⟨u82, rfl, (Sep.new hs85)⟩⟩
      · refine ObX.op rfl ?_
        intro f86 wd87 he88 hout89 hphi90
        have hS91 : St wd10 wd87 [] := St.extend hS33 he88
        have e92 : f86 2 = (Value.int .i64 aI) := (hout89 2 rfl).trans rfl
        exact OpX.val (Value.int .i64 aI) wd87 rfl (op_move e92) (Ext.refl _) ⟨rfl, r_aI⟩
      · refine ObX.op rfl ?_
        intro f93 wd94 he95 hout96 hphi97
        have hS98 : St wd10 wd94 [] := St.extend hS33 he95
        obtain ⟨S99, hS100, hf101⟩ := hphi97 1 26 _ rfl rfl rfl
        obtain ⟨u103, e102, e102s⟩ := hf101
        obtain ⟨S104, hS105, hf106⟩ := hphi97 3 28 _ rfl rfl rfl
        obtain ⟨u108, e107, e107s⟩ := hf106
        obtain ⟨S109, hS110, hf111⟩ := hphi97 4 29 _ rfl rfl rfl
        obtain ⟨e112, hr113⟩ : f93 29 = (Value.int .i64 aI) ∧ InR .i64 aI := hf111
        refine OpX.call rfl (op_call fn_19 (args3 e102 e107 e112)) (Ret.mono (c_spec_CountFixedPoints (SepS.rep (t := (Ty.sl (Ty.sl (Ty.sl (Ty.i .i64))))) e102s 0 rfl) (SepS.rep (t := (Ty.sl (Ty.sl (Ty.sl (Ty.i .i64))))) e107s 0 rfl) hr113 hx115) ?_)
        rintro _ wd118 ⟨rfl, hr116, hr117, he119⟩
        exact ⟨he119, _, noS _ _, ⟨rfl, hr116, hr117⟩⟩
      · refine ObX.op rfl ?_
        intro f121 wd122 he123 hout124 hphi125
        have hS126 : St wd10 wd122 [] := St.extend hS33 he123
        obtain ⟨S127, hS128, hf129⟩ := hphi125 5 30 _ rfl rfl rfl
        obtain ⟨e130, hr131, hr132⟩ := hf129
        exact OpX.val (Value.tuple #[(Value.int .i64 x114.1), (Value.int .i64 x114.2)]) wd122 rfl (op_move e130) (Ext.refl _) ⟨rfl, hr131, hr132⟩
      · refine ObX.op rfl ?_
        intro f133 wd134 he135 hout136 hphi137
        have hS138 : St wd10 wd134 [] := St.extend hS33 he135
        obtain ⟨S139, hS140, hf141⟩ := hphi137 6 24 _ rfl rfl rfl
        obtain ⟨e142, hr143, hr144⟩ := hf141
        exact OpX.val (Value.int .i64 x114.1) wd134 rfl (op_extract e142 rfl) (Ext.refl _) ⟨rfl, hr143⟩
      · refine ObX.op rfl ?_
        intro f145 wd146 he147 hout148 hphi149
        have hS150 : St wd10 wd146 [] := St.extend hS33 he147
        obtain ⟨S151, hS152, hf153⟩ := hphi149 6 24 _ rfl rfl rfl
        obtain ⟨e154, hr155, hr156⟩ := hf153
        exact OpX.val (Value.int .i64 x114.2) wd146 rfl (op_extract e154 rfl) (Ext.refl _) ⟨rfl, hr156⟩
      · refine ObX.op rfl ?_
        intro f157 wd158 he159 hout160 hphi161
        have hS162 : St wd10 wd158 [] := St.extend hS33 he159
        obtain ⟨S163, hS164, hf165⟩ := hphi161 7 31 _ rfl rfl rfl
        obtain ⟨e166, hr167⟩ : f157 31 = (Value.int .i64 x114.1) ∧ InR .i64 x114.1 := hf165
        exact OpX.val (Value.int .i64 x114.1) wd158 rfl (op_assign e166) (Ext.refl _) ⟨rfl, hr167⟩
      · intro f168 wd169 Ss170 he171 hout172 hSn173 hSd174 hphi175
        show WL _ _ _ _ _ _ _
        have hS176 : St wd10 wd169 [] := St.extend hS33 he171
        obtain ⟨e177, hr178⟩ : f168 32 = (Value.int .i64 x114.2) ∧ InR .i64 x114.2 := hphi175 8 32 _ (by decide) rfl rfl
        obtain ⟨e179, hr180⟩ : f168 8 = (Value.int .i64 x114.1) ∧ InR .i64 x114.1 := hphi175 9 8 _ (by decide) rfl rfl
        have e181 : f168 2 = (Value.int .i64 aI) := (hout172 2 rfl).trans rfl
        have e182 : f168 3 = (Value.pointer (some ⟨b1, 0, none⟩)) := (hout172 3 rfl).trans rfl
        have e183 : f168 4 = (Value.pointer (some ⟨b9, 0, none⟩)) := (hout172 4 rfl).trans rfl
        refine WL.val (Value.int .i64 x114.2) _ (op_assign e177) rfl ?_
        refine WL.nil ?_
        show W _ _ _ _ _ _
        refine W.seq (W.region ?_)
        refine WL.val (Value.agg #[v_aR_Table]) _ (op_loadBox st_24 e182 (BoxAt.lift (Ext.trans hE16 hS176.ext) hx6) rfl rfl) rfl ?_
        obtain ⟨x184, hx185, h⟩ := bs h
        refine WL.call _ (op_call fn_11 (args1 rfl)) (c_laws_toRing (Ty.lift _ (Ext.trans hE15 hS176.ext) r_aR_Table) hx185) rfl ?_
        rintro _ wd187 ⟨u186, rfl, he188, hs189⟩
        have hS190 := St.join hS176 he188 hs189
        replace hS190 : St wd10 wd187 [(Ty.sl (Ty.sl (Ty.sl (Ty.i .i64)))).at u186 x184] := hS190
        refine WL.alloc hS190 ze_29 (cs := [(Value.slice none 0 0)]) rfl rfl ?_
        intro b191 wd192 hS193 he194
        replace hS193 : St wd10 wd192 [(Ty.sl (Ty.sl (Ty.sl (Ty.i .i64)))).at u186 x184, bx b191 [(Value.slice none 0 0)]] := hS193
        refine WL.storeBox [u186] hS193 (k := 1) rfl rfl rfl (us := [u186]) rfl sz_29 rfl rfl (all_rep (St.rep (t := (Ty.sl (Ty.sl (Ty.sl (Ty.i .i64))))) hS193 0 rfl) all_nil) rfl ?_
        intro wd195 hS196
        replace hS196 : St wd10 wd195 [(Ty.sl (Ty.sl (Ty.sl (Ty.i .i64)))).at u186 x184, bx b191 [u186]] := hS196
        refine WL.nil ?_
        show W _ _ _ _ _ _
        refine W.seq (W.region ?_)
        refine WL.val (Value.agg #[v_aA_Matrices]) _ (op_loadBox st_39 e183 (BoxAt.lift hS196.ext hx14) rfl rfl) rfl ?_
        obtain ⟨x197, hx198, h⟩ := bs h
        refine WL.call _ (op_call fn_20 (args1 rfl)) (c_laws_toAction (Ty.lift _ (Ext.trans hE15 hS196.ext) r_aA_Matrices) hx198) rfl ?_
        rintro _ wd200 ⟨u199, rfl, he201, hs202⟩
        have hS203 := St.join hS196 he201 hs202
        replace hS203 : St wd10 wd200 [(Ty.sl (Ty.sl (Ty.sl (Ty.i .i64)))).at u186 x184, bx b191 [u186], (Ty.sl (Ty.sl (Ty.sl (Ty.i .i64)))).at u199 x197] := hS203
        refine WL.alloc hS203 ze_42 (cs := [(Value.slice none 0 0)]) rfl rfl ?_
        intro b204 wd205 hS206 he207
        replace hS206 : St wd10 wd205 [(Ty.sl (Ty.sl (Ty.sl (Ty.i .i64)))).at u186 x184, bx b191 [u186], (Ty.sl (Ty.sl (Ty.sl (Ty.i .i64)))).at u199 x197, bx b204 [(Value.slice none 0 0)]] := hS206
        refine WL.storeBox [u199] hS206 (k := 3) rfl rfl rfl (us := [u199]) rfl sz_42 rfl rfl (all_rep (St.rep (t := (Ty.sl (Ty.sl (Ty.sl (Ty.i .i64))))) hS206 2 rfl) all_nil) rfl ?_
        intro wd208 hS209
        replace hS209 : St wd10 wd208 [(Ty.sl (Ty.sl (Ty.sl (Ty.i .i64)))).at u186 x184, bx b191 [u186], (Ty.sl (Ty.sl (Ty.sl (Ty.i .i64)))).at u199 x197, bx b204 [u199]] := hS209
        refine WL.nil ?_
        show W _ _ _ _ _ _
        refine W.seq (W.region ?_)
        refine WL.val (Value.agg #[u186]) _ (op_loadBox st_29 rfl (St.boxAt hS209 1 rfl) rfl rfl) rfl ?_
        refine WL.val (Value.agg #[u199]) _ (op_loadBox st_42 rfl (St.boxAt hS209 3 rfl) rfl rfl) rfl ?_
        refine WL.val (Value.int .i64 aI) _ (op_move e181) rfl ?_
        obtain ⟨x210, hx211, h⟩ := bs h
        refine WL.call _ (op_call fn_21 (args3 rfl rfl rfl)) (c_impl_CountFixedPoints (St.rep (t := (Ty.sl (Ty.sl (Ty.sl (Ty.i .i64))))) hS209 0 rfl) (St.rep (t := (Ty.sl (Ty.sl (Ty.sl (Ty.i .i64))))) hS209 2 rfl) r_aI hx211) rfl ?_
        rintro _ wd214 ⟨rfl, hr212, hr213, he215⟩
        have hS217 := St.extend hS209 he215
        replace hS217 : St wd10 wd214 [(Ty.sl (Ty.sl (Ty.sl (Ty.i .i64)))).at u186 x184, bx b191 [u186], (Ty.sl (Ty.sl (Ty.sl (Ty.i .i64)))).at u199 x197, bx b204 [u199]] := hS217
        refine WL.val (Value.tuple #[(Value.int .i64 x210.1), (Value.int .i64 x210.2)]) _ (op_move rfl) rfl ?_
        refine WL.val (Value.int .i64 x210.1) _ (op_extract rfl rfl) rfl ?_
        refine WL.val (Value.int .i64 x210.2) _ (op_extract rfl rfl) rfl ?_
        refine WL.val (Value.int .i64 x210.1) _ (op_assign rfl) rfl ?_
        refine WL.val (Value.int .i64 x210.2) _ (op_assign rfl) rfl ?_
        refine WL.nil ?_
        show W _ _ _ _ _ _
        refine W.seq (W.seq (W.region ?_))
        refine WL.val (Value.int .i64 x210.1) _ (op_move rfl) rfl ?_
        refine WL.val (Value.int .i64 x114.1) _ (op_move e179) rfl ?_
        refine WL.val (Value.bool (x210.1 != x114.1)) _ (op_neq rfl rfl) rfl ?_
        refine WL.val (Value.bool (x210.1 != x114.1)) _ (op_move rfl) rfl ?_
        refine WL.cut 4 (fun fq wq => fq 3 = (Value.pointer (some ⟨b1, 0, none⟩)) ∧ fq 4 = (Value.pointer (some ⟨b9, 0, none⟩)) ∧ fq 10 = (Value.pointer (some ⟨b191, 0, none⟩)) ∧ fq 11 = (Value.pointer (some ⟨b204, 0, none⟩)) ∧ fq 51 = (Value.bool ((x210.1 != x114.1) || (x210.2 != x114.2))) ∧ St wd10 wq [(Ty.sl (Ty.sl (Ty.sl (Ty.i .i64)))).at u186 x184, bx b191 [u186], (Ty.sl (Ty.sl (Ty.sl (Ty.i .i64)))).at u199 x197, bx b204 [u199]]) ?_ ?_
        · rcases Bool.eq_false_or_eq_true (x210.1 != x114.1) with hc218 | hc218
          · refine WL.gskip rfl (bool_of rfl hc218) rfl ?_
            refine WL.gskip rfl (bool_of rfl hc218) rfl ?_
            refine WL.gskip rfl (bool_of rfl hc218) rfl ?_
            refine WL.val (Value.bool true) _ (op_pick_t (evb_of rfl hc218) rfl) rfl ?_
            refine WL.nil ?_
            exact ⟨rfl, e182, e183, rfl, rfl, (orT hc218), hS217⟩
          · refine WL.grun rfl (bool_of rfl hc218) ?_
            refine WL.val (Value.int .i64 x210.2) _ (op_move rfl) rfl ?_
            refine WL.grun rfl (bool_of rfl hc218) ?_
            refine WL.val (Value.int .i64 x114.2) _ (op_move rfl) rfl ?_
            refine WL.grun rfl (bool_of rfl hc218) ?_
            refine WL.val (Value.bool (x210.2 != x114.2)) _ (op_neq rfl rfl) rfl ?_
            refine WL.val (Value.bool (x210.2 != x114.2)) _ (op_pick_f (evb_of rfl hc218) rfl) rfl ?_
            refine WL.nil ?_
            exact ⟨rfl, e182, e183, rfl, rfl, (orF hc218), hS217⟩
        · intro f219 wd220 hq221
          obtain ⟨hf222, hf223, hf224, hf225, hf226, hS227⟩ := hq221
          refine WL.nil ?_
          show W _ _ _ _ _ _
          refine W.cond ((x210.1 != x114.1) || (x210.2 != x114.2)) hf226 (fun hc228 => ?_) (fun hc228 => ?_)
          · replace h := ip h hc228
            refine W.seq (W.region ?_)
            refine WL.val (Value.bool false) _ (op_assign rfl) rfl ?_
            refine WL.nil ?_
            show W _ _ _ _ _ _
            refine W.ret ?_
            obtain rfl := Option.some.inj h
            show FinP _ _ _ _ _ _ _
            exact FinP.ret _ (res1 rfl rfl) ⟨rfl, (Ext.trans hE15 hS227.ext)⟩
          · replace h := inegb h hc228
            refine W.skip ?_
            show W _ _ _ _ _ _
            refine W.seq (W.seq ?_)
            obtain ⟨x256, hx257, h⟩ := bs h
            refine W.drawR mixo 3 [] [fun _ v S w' => ∃ (uu0 : Value), v = (Value.agg #[uu0]) ∧ (Ty.sl (Ty.sl (Ty.sl (Ty.i .i64)))).rep w' uu0 x184, fun _ v S w' => ∃ (uu0 : Value), v = (Value.agg #[uu0]) ∧ (Ty.sl (Ty.sl (Ty.sl (Ty.i .i64)))).rep w' uu0 aR_Table, fun _ v S w' => ∃ (uu0 : Value), v = (Value.agg #[uu0]) ∧ SepS S w' [(Ty.sl (Ty.sl (Ty.sl (Ty.i .i64)))).at uu0 x256]] (by kernel_rfl) (by kernel_rfl) ⟨⟨fun _ _ _ _ _ he ⟨uu0, h0, r0⟩ => ⟨uu0, h0, Ty.lift _ he r0⟩, fun _ _ _ _ _ _ h => h⟩, ⟨fun _ _ _ _ _ he ⟨uu0, h0, r0⟩ => ⟨uu0, h0, Ty.lift _ he r0⟩, fun _ _ _ _ _ _ h => h⟩, ⟨fun _ _ _ _ _ he ⟨uu0, h0, r0⟩ => ⟨uu0, h0, SepS.extend he r0⟩, fun _ _ _ _ _ _ h => h⟩, trivial⟩ ⟨?_, ?_, ?_, trivial⟩ ?_
            · refine ObX.op rfl ?_
              intro f230 wd231 he232 hout233 hphi234
              have hS235 : St wd10 wd231 [(Ty.sl (Ty.sl (Ty.sl (Ty.i .i64)))).at u186 x184, bx b191 [u186], (Ty.sl (Ty.sl (Ty.sl (Ty.i .i64)))).at u199 x197, bx b204 [u199]] := St.extend hS227 he232
              have e236 : f230 10 = (Value.pointer (some ⟨b191, 0, none⟩)) := (hout233 10 rfl).trans hf224
              exact OpX.val (Value.agg #[u186]) wd231 rfl (op_loadBox st_29 e236 (St.boxAt hS235 1 rfl) rfl rfl) (Ext.refl _) ⟨u186, rfl, (St.rep (t := (Ty.sl (Ty.sl (Ty.sl (Ty.i .i64))))) hS235 0 rfl)⟩
            · refine ObX.op rfl ?_
              intro f237 wd238 he239 hout240 hphi241
              have hS242 : St wd10 wd238 [(Ty.sl (Ty.sl (Ty.sl (Ty.i .i64)))).at u186 x184, bx b191 [u186], (Ty.sl (Ty.sl (Ty.sl (Ty.i .i64)))).at u199 x197, bx b204 [u199]] := St.extend hS227 he239
              have e243 : f237 3 = (Value.pointer (some ⟨b1, 0, none⟩)) := (hout240 3 rfl).trans hf222
              exact OpX.val (Value.agg #[v_aR_Table]) wd238 rfl (op_loadBox st_24 e243 (BoxAt.lift (Ext.trans hE16 hS242.ext) hx6) rfl rfl) (Ext.refl _) ⟨v_aR_Table, rfl, (Ty.lift _ (Ext.trans hE15 hS242.ext) r_aR_Table)⟩
            · refine ObX.op rfl ?_
              intro f244 wd245 he246 hout247 hphi248
              have hS249 : St wd10 wd245 [(Ty.sl (Ty.sl (Ty.sl (Ty.i .i64)))).at u186 x184, bx b191 [u186], (Ty.sl (Ty.sl (Ty.sl (Ty.i .i64)))).at u199 x197, bx b204 [u199]] := St.extend hS227 he246
              obtain ⟨S250, hS251, hf252⟩ := hphi248 1 53 _ rfl rfl rfl
              obtain ⟨u254, e253, hr255⟩ := hf252
              refine OpX.call rfl (op_call fn_11 (args1 e253)) (Ret.mono (c_laws_toRing hr255 hx257) ?_)
              rintro _ wd259 ⟨u258, rfl, he260, hs261⟩
              exact ⟨he260, _, newS _ _, ⟨u258, rfl, (Sep.new hs261)⟩⟩
            · intro f262 wd263 Ss264 he265 hout266 hSn267 hSd268 hphi269
              show WL _ _ _ _ _ _ _
              have hS270 : St wd10 wd263 [(Ty.sl (Ty.sl (Ty.sl (Ty.i .i64)))).at u186 x184, bx b191 [u186], (Ty.sl (Ty.sl (Ty.sl (Ty.i .i64)))).at u199 x197, bx b204 [u199]] := St.extend hS227 he265
              obtain ⟨u272, e271, hr273⟩ := hphi269 0 52 _ (by decide) rfl rfl
              obtain ⟨u275, e274, e274s⟩ := hphi269 2 54 _ (by decide) rfl rfl
              have e276 : f262 4 = (Value.pointer (some ⟨b9, 0, none⟩)) := (hout266 4 rfl).trans hf223
              have e277 : f262 11 = (Value.pointer (some ⟨b204, 0, none⟩)) := (hout266 11 rfl).trans hf225
              have hS278 := St.joinS hS227 he265 hSn267 (SepS.consS hSd268 rfl e274s SepS.nilS)
              replace hS278 : St wd10 wd263 [(Ty.sl (Ty.sl (Ty.sl (Ty.i .i64)))).at u186 x184, bx b191 [u186], (Ty.sl (Ty.sl (Ty.sl (Ty.i .i64)))).at u199 x197, bx b204 [u199], (Ty.sl (Ty.sl (Ty.sl (Ty.i .i64)))).at u275 x256] := hS278
              obtain ⟨x279, hx280, h⟩ := bs h
              refine WL.call _ (op_call fn_14 (args2 e271 e274)) (c_laws_eqRing hr273 (St.rep (t := (Ty.sl (Ty.sl (Ty.sl (Ty.i .i64))))) hS278 4 rfl) hx280) rfl ?_
              rintro _ wd281 ⟨rfl, he282⟩
              have hS284 := St.extend hS278 he282
              replace hS284 : St wd10 wd281 [(Ty.sl (Ty.sl (Ty.sl (Ty.i .i64)))).at u186 x184, bx b191 [u186], (Ty.sl (Ty.sl (Ty.sl (Ty.i .i64)))).at u199 x197, bx b204 [u199], (Ty.sl (Ty.sl (Ty.sl (Ty.i .i64)))).at u275 x256] := hS284
              refine WL.val (Value.bool (!x279)) _ (op_not rfl) rfl ?_
              refine WL.nil ?_
              show W _ _ _ _ _ _
              refine W.cond (!x279) rfl (fun hc285 => ?_) (fun hc285 => ?_)
              · replace h := ip h hc285
                refine W.seq (W.region ?_)
                refine WL.val (Value.bool false) _ (op_assign rfl) rfl ?_
                refine WL.nil ?_
                show W _ _ _ _ _ _
                refine W.ret ?_
                obtain rfl := Option.some.inj h
                show FinP _ _ _ _ _ _ _
                exact FinP.ret _ (res1 rfl rfl) ⟨rfl, (Ext.trans hE15 hS284.ext)⟩
              · replace h := inegb h hc285
                refine W.skip ?_
                show W _ _ _ _ _ _
                refine W.seq (W.seq ?_)
                obtain ⟨x313, hx314, h⟩ := bs h
                refine W.drawR mixo 3 [] [fun _ v S w' => ∃ (uu0 : Value), v = (Value.agg #[uu0]) ∧ (Ty.sl (Ty.sl (Ty.sl (Ty.i .i64)))).rep w' uu0 x197, fun _ v S w' => ∃ (uu0 : Value), v = (Value.agg #[uu0]) ∧ (Ty.sl (Ty.sl (Ty.sl (Ty.i .i64)))).rep w' uu0 aA_Matrices, fun _ v S w' => ∃ (uu0 : Value), v = (Value.agg #[uu0]) ∧ SepS S w' [(Ty.sl (Ty.sl (Ty.sl (Ty.i .i64)))).at uu0 x313]] (by kernel_rfl) (by kernel_rfl) ⟨⟨fun _ _ _ _ _ he ⟨uu0, h0, r0⟩ => ⟨uu0, h0, Ty.lift _ he r0⟩, fun _ _ _ _ _ _ h => h⟩, ⟨fun _ _ _ _ _ he ⟨uu0, h0, r0⟩ => ⟨uu0, h0, Ty.lift _ he r0⟩, fun _ _ _ _ _ _ h => h⟩, ⟨fun _ _ _ _ _ he ⟨uu0, h0, r0⟩ => ⟨uu0, h0, SepS.extend he r0⟩, fun _ _ _ _ _ _ h => h⟩, trivial⟩ ⟨?_, ?_, ?_, trivial⟩ ?_
                · refine ObX.op rfl ?_
                  intro f287 wd288 he289 hout290 hphi291
                  have hS292 : St wd10 wd288 [(Ty.sl (Ty.sl (Ty.sl (Ty.i .i64)))).at u186 x184, bx b191 [u186], (Ty.sl (Ty.sl (Ty.sl (Ty.i .i64)))).at u199 x197, bx b204 [u199], (Ty.sl (Ty.sl (Ty.sl (Ty.i .i64)))).at u275 x256] := St.extend hS284 he289
                  have e293 : f287 11 = (Value.pointer (some ⟨b204, 0, none⟩)) := (hout290 11 rfl).trans e277
                  exact OpX.val (Value.agg #[u199]) wd288 rfl (op_loadBox st_42 e293 (St.boxAt hS292 3 rfl) rfl rfl) (Ext.refl _) ⟨u199, rfl, (St.rep (t := (Ty.sl (Ty.sl (Ty.sl (Ty.i .i64))))) hS292 2 rfl)⟩
                · refine ObX.op rfl ?_
                  intro f294 wd295 he296 hout297 hphi298
                  have hS299 : St wd10 wd295 [(Ty.sl (Ty.sl (Ty.sl (Ty.i .i64)))).at u186 x184, bx b191 [u186], (Ty.sl (Ty.sl (Ty.sl (Ty.i .i64)))).at u199 x197, bx b204 [u199], (Ty.sl (Ty.sl (Ty.sl (Ty.i .i64)))).at u275 x256] := St.extend hS284 he296
                  have e300 : f294 4 = (Value.pointer (some ⟨b9, 0, none⟩)) := (hout297 4 rfl).trans e276
                  exact OpX.val (Value.agg #[v_aA_Matrices]) wd295 rfl (op_loadBox st_39 e300 (BoxAt.lift hS299.ext hx14) rfl rfl) (Ext.refl _) ⟨v_aA_Matrices, rfl, (Ty.lift _ (Ext.trans hE15 hS299.ext) r_aA_Matrices)⟩
                · refine ObX.op rfl ?_
                  intro f301 wd302 he303 hout304 hphi305
                  have hS306 : St wd10 wd302 [(Ty.sl (Ty.sl (Ty.sl (Ty.i .i64)))).at u186 x184, bx b191 [u186], (Ty.sl (Ty.sl (Ty.sl (Ty.i .i64)))).at u199 x197, bx b204 [u199], (Ty.sl (Ty.sl (Ty.sl (Ty.i .i64)))).at u275 x256] := St.extend hS284 he303
                  obtain ⟨S307, hS308, hf309⟩ := hphi305 1 58 _ rfl rfl rfl
                  obtain ⟨u311, e310, hr312⟩ := hf309
                  refine OpX.call rfl (op_call fn_20 (args1 e310)) (Ret.mono (c_laws_toAction hr312 hx314) ?_)
                  rintro _ wd316 ⟨u315, rfl, he317, hs318⟩
                  exact ⟨he317, _, newS _ _, ⟨u315, rfl, (Sep.new hs318)⟩⟩
                · intro f319 wd320 Ss321 he322 hout323 hSn324 hSd325 hphi326
                  show WL _ _ _ _ _ _ _
                  have hS327 : St wd10 wd320 [(Ty.sl (Ty.sl (Ty.sl (Ty.i .i64)))).at u186 x184, bx b191 [u186], (Ty.sl (Ty.sl (Ty.sl (Ty.i .i64)))).at u199 x197, bx b204 [u199], (Ty.sl (Ty.sl (Ty.sl (Ty.i .i64)))).at u275 x256] := St.extend hS284 he322
                  obtain ⟨u329, e328, hr330⟩ := hphi326 0 57 _ (by decide) rfl rfl
                  obtain ⟨u332, e331, e331s⟩ := hphi326 2 59 _ (by decide) rfl rfl
                  have hS333 := St.joinS hS284 he322 hSn324 (SepS.consS hSd325 rfl e331s SepS.nilS)
                  replace hS333 : St wd10 wd320 [(Ty.sl (Ty.sl (Ty.sl (Ty.i .i64)))).at u186 x184, bx b191 [u186], (Ty.sl (Ty.sl (Ty.sl (Ty.i .i64)))).at u199 x197, bx b204 [u199], (Ty.sl (Ty.sl (Ty.sl (Ty.i .i64)))).at u275 x256, (Ty.sl (Ty.sl (Ty.sl (Ty.i .i64)))).at u332 x313] := hS333
                  obtain ⟨x334, hx335, h⟩ := bs h
                  refine WL.call _ (op_call fn_22 (args2 e328 e331)) (c_laws_eqAction hr330 (St.rep (t := (Ty.sl (Ty.sl (Ty.sl (Ty.i .i64))))) hS333 5 rfl) hx335) rfl ?_
                  rintro _ wd336 ⟨rfl, he337⟩
                  have hS339 := St.extend hS333 he337
                  replace hS339 : St wd10 wd336 [(Ty.sl (Ty.sl (Ty.sl (Ty.i .i64)))).at u186 x184, bx b191 [u186], (Ty.sl (Ty.sl (Ty.sl (Ty.i .i64)))).at u199 x197, bx b204 [u199], (Ty.sl (Ty.sl (Ty.sl (Ty.i .i64)))).at u275 x256, (Ty.sl (Ty.sl (Ty.sl (Ty.i .i64)))).at u332 x313] := hS339
                  refine WL.val (Value.bool (!x334)) _ (op_not rfl) rfl ?_
                  refine WL.nil ?_
                  show W _ _ _ _ _ _
                  refine W.cond (!x334) rfl (fun hc340 => ?_) (fun hc340 => ?_)
                  · replace h := ip h hc340
                    refine W.seq (W.region ?_)
                    refine WL.val (Value.bool false) _ (op_assign rfl) rfl ?_
                    refine WL.nil ?_
                    show W _ _ _ _ _ _
                    refine W.ret ?_
                    obtain rfl := Option.some.inj h
                    show FinP _ _ _ _ _ _ _
                    exact FinP.ret _ (res1 rfl rfl) ⟨rfl, (Ext.trans hE15 hS339.ext)⟩
                  · replace h := inegb h hc340
                    refine W.skip ?_
                    show W _ _ _ _ _ _
                    refine W.seq (W.region ?_)
                    refine WL.val (Value.bool true) _ (op_assign rfl) rfl ?_
                    refine WL.nil ?_
                    show W _ _ _ _ _ _
                    refine W.ret ?_
                    obtain rfl := Option.some.inj h
                    show FinP _ _ _ _ _ _ _
                    exact FinP.ret _ (res1 rfl rfl) ⟨rfl, (Ext.trans hE15 hS339.ext)⟩

end Go.VG
