/- The walks, part 4: each Go function returns what its plain twin returns. No condition beyond what each names. -/
import Derived.Test.YtlcedidbkhedjaaGWalk3
set_option linter.all false
namespace Go.VG
open Go.Proofs
attribute [local irreducible] W WL Sep FinP

theorem c_impl_Ring_boundsOf {w : World} {r_Table : (List (List (List Int)))} {v_r_Table : Value} {i : Int} {w1 : (List Int)} {v_w1 : Value} (r_r_Table : (Ty.sl (Ty.sl (Ty.sl (Ty.i .i64)))).rep w v_r_Table r_Table) (r_i : InR .i64 i) (r_w1 : (Ty.sl (Ty.i .i64)).rep w v_w1 w1) {res : Int × Int × Int × Int} (h : p_impl_Ring_boundsOf r_Table i w1  = some res) :
    Ret Try.prog 54 #[(Value.agg #[v_r_Table]), (Value.int .i64 i), v_w1] w (fun v w' => v = (Value.agg #[Value.int .i64 res.1, Value.int .i64 res.2.1, Value.int .i64 res.2.2.1, Value.int .i64 res.2.2.2]) ∧ InR .i64 res.1 ∧ InR .i64 res.2.1 ∧ InR .i64 res.2.2.1 ∧ InR .i64 res.2.2.2 ∧ Ext w w') := by
  unfold p_impl_Ring_boundsOf at h
  have hS0 : St w w [] := St.start w
  refine Ret.start (fn := Try.f54) Try.func54 rfl 89 rfl rfl ?_
  refine W.seq (W.region ?_)
  refine WL.box hS0 rfl (cs := [v_r_Table]) rfl rfl ?_
  intro b1 wd2 hS3 he4 hx5
  replace hS3 : St w wd2 [bx b1 [v_r_Table]] := hS3
  have hx6 := St.boxAt hS3 0 rfl
  have hE7 : Ext w wd2 := hS3.ext
  have hS8 : St wd2 wd2 [] := St.start wd2
  refine WL.alloc hS8 ze_42 (cs := [(Value.int .i64 (0 : Int)), (Value.int .i64 (0 : Int)), (Value.int .i64 (0 : Int)), (Value.int .i64 (0 : Int))]) rfl rfl ?_
  intro b9 wd10 hS11 he12
  replace hS11 : St wd2 wd10 [bx b9 [(Value.int .i64 (0 : Int)), (Value.int .i64 (0 : Int)), (Value.int .i64 (0 : Int)), (Value.int .i64 (0 : Int))]] := hS11
  refine WL.nil ?_
  show W _ _ _ _ _ _
  refine W.seq (W.region ?_)
  refine WL.val (Value.agg #[(Value.int .i64 (0 : Int)), (Value.int .i64 (0 : Int)), (Value.int .i64 (0 : Int)), (Value.int .i64 (0 : Int))]) _ (op_build bd_42 (parts := []) (partsL trivial) trivial rfl) rfl ?_
  refine WL.alloc hS11 ze_42 (cs := [(Value.int .i64 (0 : Int)), (Value.int .i64 (0 : Int)), (Value.int .i64 (0 : Int)), (Value.int .i64 (0 : Int))]) rfl rfl ?_
  intro b13 wd14 hS15 he16
  replace hS15 : St wd2 wd14 [bx b9 [(Value.int .i64 (0 : Int)), (Value.int .i64 (0 : Int)), (Value.int .i64 (0 : Int)), (Value.int .i64 (0 : Int))], bx b13 [(Value.int .i64 (0 : Int)), (Value.int .i64 (0 : Int)), (Value.int .i64 (0 : Int)), (Value.int .i64 (0 : Int))]] := hS15
  refine WL.storeBox [(Value.int .i64 (0 : Int)), (Value.int .i64 (0 : Int)), (Value.int .i64 (0 : Int)), (Value.int .i64 (0 : Int))] hS15 (k := 1) rfl rfl rfl (us := [(Value.int .i64 (0 : Int)), (Value.int .i64 (0 : Int)), (Value.int .i64 (0 : Int)), (Value.int .i64 (0 : Int))]) rfl sz_42 rfl rfl (all_cons rfl (all_cons rfl (all_cons rfl (all_cons rfl all_nil)))) rfl ?_
  intro wd17 hS18
  replace hS18 : St wd2 wd17 [bx b9 [(Value.int .i64 (0 : Int)), (Value.int .i64 (0 : Int)), (Value.int .i64 (0 : Int)), (Value.int .i64 (0 : Int))], bx b13 [(Value.int .i64 (0 : Int)), (Value.int .i64 (0 : Int)), (Value.int .i64 (0 : Int)), (Value.int .i64 (0 : Int))]] := hS18
  refine WL.nil ?_
  show W _ _ _ _ _ _
  refine W.seq (W.seq (W.region ?_))
  refine WL.val (Value.pointer (some ⟨b1, 0, none⟩)) _ (op_fieldAddr fd_26_0 rfl) rfl ?_
  refine WL.val v_r_Table _ (op_load one_22 rfl (BoxAt.cell (BoxAt.lift hS18.ext hx6) rfl)) rfl ?_
  refine WL.val (Value.int .i64 i) _ (op_move rfl) rfl ?_
  obtain ⟨x19, hx22, h⟩ := bs h
  obtain ⟨ha20, hb21, hx22⟩ := idx_some hx22
  refine WL.val (Value.pointer (some (elA v_r_Table (i).toNat))) _ (op_idx sl_22 (Ty.lift _ (Ext.trans hE7 hS18.ext) r_r_Table) rfl rfl ha20 hb21) rfl ?_
  obtain ⟨u23, hc24, hr25⟩ := repSl.el r_r_Table hx22
  refine WL.val u23 _ (op_load one_57 rfl (Ext.cell (Ext.trans hE7 hS18.ext) hc24)) rfl ?_
  have hr26 := inR_len (Ty.lift _ (Ext.trans hE7 hS18.ext) hr25)
  refine WL.val (Value.int .i64 ((x19).length : Int)) _ (op_lenL sl_57 (Ty.lift _ (Ext.trans hE7 hS18.ext) hr25) rfl) rfl ?_
  refine WL.val (Value.int .i64 (0 : Int)) _ (op_move rfl) rfl ?_
  refine WL.nil ?_
  show W _ _ _ _ _ _
  obtain ⟨res27, hres28, h⟩ := bs h
  refine W.blockLoop (fun fq wq => ∃ s, res27 = Res.fin s ∧ fq 6 = (Value.pointer (some ⟨b9, 0, none⟩)) ∧ fq 7 = (Value.pointer (some ⟨b13, 0, none⟩)) ∧ InR .i64 s.1 ∧ InR .i64 s.2.1 ∧ InR .i64 s.2.2.1 ∧ InR .i64 s.2.2.2 ∧ St wd2 wq [bx b9 [(Value.int .i64 (0 : Int)), (Value.int .i64 (0 : Int)), (Value.int .i64 (0 : Int)), (Value.int .i64 (0 : Int))], bx b13 [(Value.int .i64 s.1), (Value.int .i64 s.2.1), (Value.int .i64 s.2.2.1), (Value.int .i64 s.2.2.2)]]) ?_ ?_
  · refine W.forN (fun k (s : Int × Int × Int × Int) fq wq => fq 2 = v_w1 ∧ fq 6 = (Value.pointer (some ⟨b9, 0, none⟩)) ∧ fq 7 = (Value.pointer (some ⟨b13, 0, none⟩)) ∧ fq 18 = u23 ∧ fq 19 = (Value.int .i64 ((x19).length : Int)) ∧ fq 20 = Value.int .i64 (k : Int) ∧ InR .i64 (k : Int) ∧ InR .i64 s.1 ∧ InR .i64 s.2.1 ∧ InR .i64 s.2.2.1 ∧ InR .i64 s.2.2.2 ∧ St wd2 wq [bx b9 [(Value.int .i64 (0 : Int)), (Value.int .i64 (0 : Int)), (Value.int .i64 (0 : Int)), (Value.int .i64 (0 : Int))], bx b13 [(Value.int .i64 s.1), (Value.int .i64 s.2.1), (Value.int .i64 s.2.2.1), (Value.int .i64 s.2.2.2)]]) hres28 ⟨rfl, rfl, rfl, rfl, rfl, rfl, (inR_i64.2 (show (-9223372036854775808 : Int) ≤ 0 ∧ (0 : Int) ≤ 9223372036854775807 from by decide)), (inR_i64.2 (show (-9223372036854775808 : Int) ≤ 0 ∧ (0 : Int) ≤ 9223372036854775807 from by decide)), (inR_i64.2 (show (-9223372036854775808 : Int) ≤ 0 ∧ (0 : Int) ≤ 9223372036854775807 from by decide)), (inR_i64.2 (show (-9223372036854775808 : Int) ≤ 0 ∧ (0 : Int) ≤ 9223372036854775807 from by decide)), (inR_i64.2 (show (-9223372036854775808 : Int) ≤ 0 ∧ (0 : Int) ≤ 9223372036854775807 from by decide)), hS18⟩ ?_ ?_
    · intro k29 s988 ct34 f35 wd36 hk37 hb38 hI39 hbrk40 hret41
      obtain ⟨x30, x31, x32, x33⟩ := s988
      replace hI39 : f35 2 = v_w1 ∧ f35 6 = (Value.pointer (some ⟨b9, 0, none⟩)) ∧ f35 7 = (Value.pointer (some ⟨b13, 0, none⟩)) ∧ f35 18 = u23 ∧ f35 19 = (Value.int .i64 ((x19).length : Int)) ∧ f35 20 = Value.int .i64 (k29 : Int) ∧ InR .i64 (k29 : Int) ∧ InR .i64 x30 ∧ InR .i64 x31 ∧ InR .i64 x32 ∧ InR .i64 x33 ∧ St wd2 wd36 [bx b9 [(Value.int .i64 (0 : Int)), (Value.int .i64 (0 : Int)), (Value.int .i64 (0 : Int)), (Value.int .i64 (0 : Int))], bx b13 [(Value.int .i64 x30), (Value.int .i64 x31), (Value.int .i64 x32), (Value.int .i64 x33)]] := hI39
      replace hb38 : p_impl_Ring_boundsOf_L1 x19 w1 k29 x30 x31 x32 x33 = some ct34 := hb38
      unfold p_impl_Ring_boundsOf_L1 at hb38
      obtain ⟨hf42, hf43, hf44, hf45, hf46, hf47, hr48, hr49, hr50, hr51, hr52, hS53⟩ := hI39
      refine W.seq (W.region ?_)
      refine WL.val (Value.bool (decide ((k29 : Int) < ((x19).length : Int)))) _ (op_lss hf47 hf46) rfl ?_
      have hl54 : (k29 : Int) < ((x19).length : Int) := by omega
      refine WL.nil ?_
      show W _ _ _ _ _ _
      refine W.seq ?_
      refine W.condT (decide ((k29 : Int) < ((x19).length : Int))) rfl (decide_eq_true hl54) ?_
      refine W.skip ?_
      show W _ _ _ _ _ _
      refine W.seq ?_
      refine W.block ?_
      refine W.seq (W.region ?_)
      refine WL.val (Value.int .i64 (k29 : Int)) _ (op_move hf47) rfl ?_
      obtain ⟨x56, hx59, hb38⟩ := bs hb38
      obtain ⟨ha57, hb58, hx59⟩ := idx_some hx59
      refine WL.val (Value.pointer (some (elA u23 ((k29 : Int)).toNat))) _ (op_idx sl_57 (Ty.lift _ (Ext.trans hE7 hS53.ext) hr25) hf45 hf47 ha57 hb58) rfl ?_
      obtain ⟨u60, hc61, hr62⟩ := repSl.el hr25 hx59
      refine WL.val u60 _ (op_load one_35 rfl (Ext.cell (Ext.trans hE7 hS53.ext) hc61)) rfl ?_
      refine WL.val (Value.int .i64 (k29 : Int)) _ (op_assign rfl) rfl ?_
      refine WL.val u60 _ (op_assign rfl) rfl ?_
      refine WL.nil ?_
      show W _ _ _ _ _ _
      refine W.seq (W.region ?_)
      refine WL.val (Value.int .i64 (0 : Int)) _ (op_assign rfl) rfl ?_
      refine WL.nil ?_
      show W _ _ _ _ _ _
      refine W.seq (W.seq (W.region ?_))
      refine WL.val u60 _ (op_move rfl) rfl ?_
      have hr63 := inR_len (Ty.lift _ (Ext.trans hE7 hS53.ext) hr62)
      refine WL.val (Value.int .i64 ((x56).length : Int)) _ (op_lenL sl_35 (Ty.lift _ (Ext.trans hE7 hS53.ext) hr62) rfl) rfl ?_
      refine WL.val (Value.int .i64 (0 : Int)) _ (op_move rfl) rfl ?_
      refine WL.nil ?_
      show W _ _ _ _ _ _
      obtain ⟨res64, hres65, hb38⟩ := bs hb38
      refine W.blockLoop (fun fq wq => ∃ s, res64 = Res.fin s ∧ fq 2 = v_w1 ∧ fq 6 = (Value.pointer (some ⟨b9, 0, none⟩)) ∧ fq 7 = (Value.pointer (some ⟨b13, 0, none⟩)) ∧ fq 8 = (Value.int .i64 (k29 : Int)) ∧ fq 10 = Value.int .i64 s ∧ InR .i64 s ∧ fq 18 = u23 ∧ fq 19 = (Value.int .i64 ((x19).length : Int)) ∧ fq 20 = (Value.int .i64 (k29 : Int)) ∧ St wd2 wq [bx b9 [(Value.int .i64 (0 : Int)), (Value.int .i64 (0 : Int)), (Value.int .i64 (0 : Int)), (Value.int .i64 (0 : Int))], bx b13 [(Value.int .i64 x30), (Value.int .i64 x31), (Value.int .i64 x32), (Value.int .i64 x33)]]) ?_ ?_
      · refine W.forN (fun k (s : Int) fq wq => fq 2 = v_w1 ∧ fq 6 = (Value.pointer (some ⟨b9, 0, none⟩)) ∧ fq 7 = (Value.pointer (some ⟨b13, 0, none⟩)) ∧ fq 8 = (Value.int .i64 (k29 : Int)) ∧ fq 10 = Value.int .i64 s ∧ InR .i64 s ∧ fq 18 = u23 ∧ fq 19 = (Value.int .i64 ((x19).length : Int)) ∧ fq 20 = (Value.int .i64 (k29 : Int)) ∧ fq 25 = u60 ∧ fq 26 = (Value.int .i64 ((x56).length : Int)) ∧ fq 27 = Value.int .i64 (k : Int) ∧ InR .i64 (k : Int) ∧ St wd2 wq [bx b9 [(Value.int .i64 (0 : Int)), (Value.int .i64 (0 : Int)), (Value.int .i64 (0 : Int)), (Value.int .i64 (0 : Int))], bx b13 [(Value.int .i64 x30), (Value.int .i64 x31), (Value.int .i64 x32), (Value.int .i64 x33)]]) hres65 ⟨hf42, hf43, hf44, rfl, rfl, (inR_i64.2 (show (-9223372036854775808 : Int) ≤ 0 ∧ (0 : Int) ≤ 9223372036854775807 from by decide)), hf45, hf46, hf47, rfl, rfl, rfl, (inR_i64.2 (show (-9223372036854775808 : Int) ≤ 0 ∧ (0 : Int) ≤ 9223372036854775807 from by decide)), hS53⟩ ?_ ?_
        · intro k66 x67 ct68 f69 wd70 hk71 hb72 hI73 hbrk74 hret75
          replace hI73 : f69 2 = v_w1 ∧ f69 6 = (Value.pointer (some ⟨b9, 0, none⟩)) ∧ f69 7 = (Value.pointer (some ⟨b13, 0, none⟩)) ∧ f69 8 = (Value.int .i64 (k29 : Int)) ∧ f69 10 = Value.int .i64 x67 ∧ InR .i64 x67 ∧ f69 18 = u23 ∧ f69 19 = (Value.int .i64 ((x19).length : Int)) ∧ f69 20 = (Value.int .i64 (k29 : Int)) ∧ f69 25 = u60 ∧ f69 26 = (Value.int .i64 ((x56).length : Int)) ∧ f69 27 = Value.int .i64 (k66 : Int) ∧ InR .i64 (k66 : Int) ∧ St wd2 wd70 [bx b9 [(Value.int .i64 (0 : Int)), (Value.int .i64 (0 : Int)), (Value.int .i64 (0 : Int)), (Value.int .i64 (0 : Int))], bx b13 [(Value.int .i64 x30), (Value.int .i64 x31), (Value.int .i64 x32), (Value.int .i64 x33)]] := hI73
          replace hb72 : p_impl_Ring_boundsOf_L2 x56 w1 k66 x67 = some ct68 := hb72
          unfold p_impl_Ring_boundsOf_L2 at hb72
          obtain ⟨hf76, hf77, hf78, hf79, hf80, hr81, hf82, hf83, hf84, hf85, hf86, hf87, hr88, hS89⟩ := hI73
          refine W.seq (W.region ?_)
          refine WL.val (Value.bool (decide ((k66 : Int) < ((x56).length : Int)))) _ (op_lss hf87 hf86) rfl ?_
          have hl90 : (k66 : Int) < ((x56).length : Int) := by omega
          refine WL.nil ?_
          show W _ _ _ _ _ _
          refine W.seq ?_
          refine W.condT (decide ((k66 : Int) < ((x56).length : Int))) rfl (decide_eq_true hl90) ?_
          refine W.skip ?_
          show W _ _ _ _ _ _
          refine W.seq ?_
          refine W.block ?_
          refine W.seq (W.region ?_)
          refine WL.val (Value.int .i64 (k66 : Int)) _ (op_move hf87) rfl ?_
          obtain ⟨x92, hx95, hb72⟩ := bs hb72
          obtain ⟨ha93, hb94, hx95⟩ := idx_some hx95
          refine WL.val (Value.pointer (some (elA u60 ((k66 : Int)).toNat))) _ (op_idx sl_35 (Ty.lift _ (Ext.trans hE7 hS89.ext) hr62) hf85 hf87 ha93 hb94) rfl ?_
          obtain ⟨u96, hc97, hr98⟩ := repSl.el hr62 hx95
          obtain ⟨rfl, hr98⟩ := hr98
          refine WL.val (Value.int .i64 x92) _ (op_load one_2 rfl (Ext.cell (Ext.trans hE7 hS89.ext) hc97)) rfl ?_
          refine WL.val (Value.int .i64 (k66 : Int)) _ (op_assign rfl) rfl ?_
          refine WL.val (Value.int .i64 x92) _ (op_assign rfl) rfl ?_
          refine WL.nil ?_
          show W _ _ _ _ _ _
          refine W.region ?_
          refine WL.val (Value.int .i64 x67) _ (op_move hf80) rfl ?_
          refine WL.val (Value.int .i64 x92) _ (op_move rfl) rfl ?_
          refine WL.val v_w1 _ (op_move hf76) rfl ?_
          refine WL.val (Value.int .i64 (k66 : Int)) _ (op_move rfl) rfl ?_
          obtain ⟨x99, hx102, hb72⟩ := bs hb72
          obtain ⟨ha100, hb101, hx102⟩ := idx_some hx102
          refine WL.val (Value.pointer (some (elA v_w1 ((k66 : Int)).toNat))) _ (op_idx sl_35 (Ty.lift _ (Ext.trans hE7 hS89.ext) r_w1) rfl rfl ha100 hb101) rfl ?_
          obtain ⟨u103, hc104, hr105⟩ := repSl.el r_w1 hx102
          obtain ⟨rfl, hr105⟩ := hr105
          refine WL.val (Value.int .i64 x99) _ (op_load one_2 rfl (Ext.cell (Ext.trans hE7 hS89.ext) hc104)) rfl ?_
          refine WL.val (Value.int .i64 (w64 (x92 * x99))) _ (op_mul rfl rfl) rfl ?_
          refine WL.val (Value.int .i64 (w64 (x67 + (w64 (x92 * x99))))) _ (op_add rfl rfl) rfl ?_
          refine WL.val (Value.int .i64 (w64 (x67 + (w64 (x92 * x99))))) _ (op_assign rfl) rfl ?_
          refine WL.nil ?_
          show W _ _ _ _ _ _
          refine W.region ?_
          refine WL.val (Value.int .i64 (w64 ((k66 : Int) + (1 : Int)))) _ (op_add hf87 rfl) rfl ?_
          refine WL.val (Value.int .i64 (w64 ((k66 : Int) + (1 : Int)))) _ (op_move rfl) rfl ?_
          refine WL.nil ?_
          obtain rfl := Option.some.inj hb72
          show ∃ s, _ = Ctl.next s ∧ _
          exact ⟨_, rfl, hf76, hf77, hf78, hf79, rfl, (inR_wrap _ _), hf82, hf83, hf84, hf85, hf86, (ctr_next hl90 hr63), (ctr_rng hl90 hr63), hS89⟩
        · intro x112 f107 wd108 hs109 hI110
          replace hI110 : f107 2 = v_w1 ∧ f107 6 = (Value.pointer (some ⟨b9, 0, none⟩)) ∧ f107 7 = (Value.pointer (some ⟨b13, 0, none⟩)) ∧ f107 8 = (Value.int .i64 (k29 : Int)) ∧ f107 10 = Value.int .i64 x112 ∧ InR .i64 x112 ∧ f107 18 = u23 ∧ f107 19 = (Value.int .i64 ((x19).length : Int)) ∧ f107 20 = (Value.int .i64 (k29 : Int)) ∧ f107 25 = u60 ∧ f107 26 = (Value.int .i64 ((x56).length : Int)) ∧ f107 27 = Value.int .i64 (((x56).length : Nat) : Int) ∧ InR .i64 (((x56).length : Nat) : Int) ∧ St wd2 wd108 [bx b9 [(Value.int .i64 (0 : Int)), (Value.int .i64 (0 : Int)), (Value.int .i64 (0 : Int)), (Value.int .i64 (0 : Int))], bx b13 [(Value.int .i64 x30), (Value.int .i64 x31), (Value.int .i64 x32), (Value.int .i64 x33)]] := hI110
          obtain ⟨hf113, hf114, hf115, hf116, hf117, hr118, hf119, hf120, hf121, hf122, hf123, hf124, hr125, hS126⟩ := hI110
          refine W.seq (W.region ?_)
          refine WL.val (Value.bool (decide ((((x56).length : Nat) : Int) < ((x56).length : Int)))) _ (op_lss hf124 hf123) rfl ?_
          have hl127 : ¬ (((x56).length : Nat) : Int) < ((x56).length : Int) := by omega
          refine WL.nil ?_
          show W _ _ _ _ _ _
          refine W.seq ?_
          refine W.condF (decide ((((x56).length : Nat) : Int) < ((x56).length : Int))) rfl (decide_eq_false hl127) ?_
          refine W.exit ?_
          show _ = _ ∧ _
          exact ⟨rfl, _, hs109, hf113, hf114, hf115, hf116, hf117, hr118, hf119, hf120, hf121, hS126⟩
      · rintro f128 wd129 ⟨x132, rfl, hq130⟩
        replace hb38 := onRes_fin hb38
        replace hq130 : f128 2 = v_w1 ∧ f128 6 = (Value.pointer (some ⟨b9, 0, none⟩)) ∧ f128 7 = (Value.pointer (some ⟨b13, 0, none⟩)) ∧ f128 8 = (Value.int .i64 (k29 : Int)) ∧ f128 10 = Value.int .i64 x132 ∧ InR .i64 x132 ∧ f128 18 = u23 ∧ f128 19 = (Value.int .i64 ((x19).length : Int)) ∧ f128 20 = (Value.int .i64 (k29 : Int)) ∧ St wd2 wd129 [bx b9 [(Value.int .i64 (0 : Int)), (Value.int .i64 (0 : Int)), (Value.int .i64 (0 : Int)), (Value.int .i64 (0 : Int))], bx b13 [(Value.int .i64 x30), (Value.int .i64 x31), (Value.int .i64 x32), (Value.int .i64 x33)]] := hq130
        obtain ⟨hf133, hf134, hf135, hf136, hf137, hr138, hf139, hf140, hf141, hS142⟩ := hq130
        show W _ _ _ _ _ _
        refine W.seq (W.seq ?_)
        obtain ⟨x171, hj172, hb38⟩ := bs hb38
        refine W.cutCode (fun fq wq => fq 2 = v_w1 ∧ fq 6 = (Value.pointer (some ⟨b9, 0, none⟩)) ∧ fq 7 = (Value.pointer (some ⟨b13, 0, none⟩)) ∧ fq 8 = (Value.int .i64 (k29 : Int)) ∧ fq 10 = (Value.int .i64 x132) ∧ fq 18 = u23 ∧ fq 19 = (Value.int .i64 ((x19).length : Int)) ∧ fq 20 = (Value.int .i64 (k29 : Int)) ∧ fq 56 = Value.bool x171 ∧ St wd2 wq [bx b9 [(Value.int .i64 (0 : Int)), (Value.int .i64 (0 : Int)), (Value.int .i64 (0 : Int)), (Value.int .i64 (0 : Int))], bx b13 [(Value.int .i64 x30), (Value.int .i64 x31), (Value.int .i64 x32), (Value.int .i64 x33)]]) ?_ ?_
        · rcases Bool.eq_false_or_eq_true ((k29 : Int) == (0 : Int)) with hc173 | hc173
          · replace hj172 := ip hj172 hc173
            refine W.drawR mixo 14 [] [fun _ v _ _ => v = (Value.int .i64 (k29 : Int)) ∧ InR .i64 (k29 : Int), fun _ v _ _ => v = (Value.bool ((k29 : Int) == (0 : Int))), fun _ v _ _ => v = (Value.bool ((k29 : Int) == (0 : Int))), fun _ v _ _ => v = undef, fun _ v _ _ => v = undef, fun _ v _ _ => v = undef, fun _ v _ _ => v = undef, fun _ v _ _ => v = undef, fun _ v _ _ => v = undef, fun _ v _ _ => v = undef, fun _ v _ _ => v = undef, fun _ v _ _ => v = undef, fun _ v _ _ => v = undef, fun _ v _ _ => v = undef] (by kernel_rfl) (by kernel_rfl) ⟨⟨fun _ _ _ _ _ _ h => h, fun _ _ _ _ _ _ h => h⟩, ⟨fun _ _ _ _ _ _ h => h, fun _ _ _ _ _ _ h => h⟩, ⟨fun _ _ _ _ _ _ h => h, fun _ _ _ _ _ _ h => h⟩, ⟨fun _ _ _ _ _ _ h => h, fun _ _ _ _ _ _ h => h⟩, ⟨fun _ _ _ _ _ _ h => h, fun _ _ _ _ _ _ h => h⟩, ⟨fun _ _ _ _ _ _ h => h, fun _ _ _ _ _ _ h => h⟩, ⟨fun _ _ _ _ _ _ h => h, fun _ _ _ _ _ _ h => h⟩, ⟨fun _ _ _ _ _ _ h => h, fun _ _ _ _ _ _ h => h⟩, ⟨fun _ _ _ _ _ _ h => h, fun _ _ _ _ _ _ h => h⟩, ⟨fun _ _ _ _ _ _ h => h, fun _ _ _ _ _ _ h => h⟩, ⟨fun _ _ _ _ _ _ h => h, fun _ _ _ _ _ _ h => h⟩, ⟨fun _ _ _ _ _ _ h => h, fun _ _ _ _ _ _ h => h⟩, ⟨fun _ _ _ _ _ _ h => h, fun _ _ _ _ _ _ h => h⟩, ⟨fun _ _ _ _ _ _ h => h, fun _ _ _ _ _ _ h => h⟩, trivial⟩ ⟨?_, ?_, ?_, ?_, ?_, ?_, ?_, ?_, ?_, ?_, ?_, ?_, ?_, ?_, trivial⟩ ?_
            · refine ObX.op rfl ?_
              intro f143 wd144 he145 hout146 hphi147
              have hS148 : St wd2 wd144 [bx b9 [(Value.int .i64 (0 : Int)), (Value.int .i64 (0 : Int)), (Value.int .i64 (0 : Int)), (Value.int .i64 (0 : Int))], bx b13 [(Value.int .i64 x30), (Value.int .i64 x31), (Value.int .i64 x32), (Value.int .i64 x33)]] := St.extend hS142 he145
              have e149 : f143 8 = (Value.int .i64 (k29 : Int)) := (hout146 8 rfl).trans hf136
              exact OpX.val (Value.int .i64 (k29 : Int)) wd144 rfl (op_move e149) (Ext.refl _) ⟨rfl, hr48⟩
            · refine ObX.op rfl ?_
              intro f150 wd151 he152 hout153 hphi154
              have hS155 : St wd2 wd151 [bx b9 [(Value.int .i64 (0 : Int)), (Value.int .i64 (0 : Int)), (Value.int .i64 (0 : Int)), (Value.int .i64 (0 : Int))], bx b13 [(Value.int .i64 x30), (Value.int .i64 x31), (Value.int .i64 x32), (Value.int .i64 x33)]] := St.extend hS142 he152
              obtain ⟨S156, hS157, hf158⟩ := hphi154 0 41 _ rfl rfl rfl
              obtain ⟨e159, hr160⟩ : f150 41 = (Value.int .i64 (k29 : Int)) ∧ InR .i64 (k29 : Int) := hf158
              exact OpX.val (Value.bool ((k29 : Int) == (0 : Int))) wd151 rfl (op_eql e159 rfl) (Ext.refl _) rfl
            · refine ObX.op rfl ?_
              intro f161 wd162 he163 hout164 hphi165
              have hS166 : St wd2 wd162 [bx b9 [(Value.int .i64 (0 : Int)), (Value.int .i64 (0 : Int)), (Value.int .i64 (0 : Int)), (Value.int .i64 (0 : Int))], bx b13 [(Value.int .i64 x30), (Value.int .i64 x31), (Value.int .i64 x32), (Value.int .i64 x33)]] := St.extend hS142 he163
              obtain ⟨S167, hS168, hf169⟩ := hphi165 1 42 _ rfl rfl rfl
              have e170 : f161 42 = (Value.bool ((k29 : Int) == (0 : Int))) := hf169
              exact OpX.val (Value.bool ((k29 : Int) == (0 : Int))) wd162 rfl (op_move e170) (Ext.refl _) rfl
            · refine ObX.op rfl ?_
              intro f174 wd175 he176 hout177 hphi178
              obtain ⟨S179, hS180, hf181⟩ := hphi178 2 43 _ rfl rfl rfl
              have e182 : f174 43 = (Value.bool ((k29 : Int) == (0 : Int))) := hf181
              exact OpX.skip (wanted_skip rfl rfl e182 hc173) rfl
            · refine ObX.op rfl ?_
              intro f183 wd184 he185 hout186 hphi187
              obtain ⟨S188, hS189, hf190⟩ := hphi187 2 43 _ rfl rfl rfl
              have e191 : f183 43 = (Value.bool ((k29 : Int) == (0 : Int))) := hf190
              exact OpX.skip (wanted_skip rfl rfl e191 hc173) rfl
            · refine ObX.op rfl ?_
              intro f192 wd193 he194 hout195 hphi196
              obtain ⟨S197, hS198, hf199⟩ := hphi196 2 43 _ rfl rfl rfl
              have e200 : f192 43 = (Value.bool ((k29 : Int) == (0 : Int))) := hf199
              exact OpX.skip (wanted_skip rfl rfl e200 hc173) rfl
            · refine ObX.op rfl ?_
              intro f201 wd202 he203 hout204 hphi205
              obtain ⟨S206, hS207, hf208⟩ := hphi205 2 43 _ rfl rfl rfl
              have e209 : f201 43 = (Value.bool ((k29 : Int) == (0 : Int))) := hf208
              exact OpX.skip (wanted_skip rfl rfl e209 hc173) rfl
            · refine ObX.op rfl ?_
              intro f210 wd211 he212 hout213 hphi214
              obtain ⟨S215, hS216, hf217⟩ := hphi214 2 43 _ rfl rfl rfl
              have e218 : f210 43 = (Value.bool ((k29 : Int) == (0 : Int))) := hf217
              exact OpX.skip (wanted_skip rfl rfl e218 hc173) rfl
            · refine ObX.op rfl ?_
              intro f219 wd220 he221 hout222 hphi223
              obtain ⟨S224, hS225, hf226⟩ := hphi223 2 43 _ rfl rfl rfl
              have e227 : f219 43 = (Value.bool ((k29 : Int) == (0 : Int))) := hf226
              exact OpX.skip (wanted_skip rfl rfl e227 hc173) rfl
            · refine ObX.op rfl ?_
              intro f228 wd229 he230 hout231 hphi232
              obtain ⟨S233, hS234, hf235⟩ := hphi232 2 43 _ rfl rfl rfl
              have e236 : f228 43 = (Value.bool ((k29 : Int) == (0 : Int))) := hf235
              exact OpX.skip (wanted_skip rfl rfl e236 hc173) rfl
            · refine ObX.op rfl ?_
              intro f237 wd238 he239 hout240 hphi241
              obtain ⟨S242, hS243, hf244⟩ := hphi241 2 43 _ rfl rfl rfl
              have e245 : f237 43 = (Value.bool ((k29 : Int) == (0 : Int))) := hf244
              exact OpX.skip (wanted_skip rfl rfl e245 hc173) rfl
            · refine ObX.op rfl ?_
              intro f246 wd247 he248 hout249 hphi250
              obtain ⟨S251, hS252, hf253⟩ := hphi250 2 43 _ rfl rfl rfl
              have e254 : f246 43 = (Value.bool ((k29 : Int) == (0 : Int))) := hf253
              exact OpX.skip (wanted_skip rfl rfl e254 hc173) rfl
            · refine ObX.op rfl ?_
              intro f255 wd256 he257 hout258 hphi259
              obtain ⟨S260, hS261, hf262⟩ := hphi259 2 43 _ rfl rfl rfl
              have e263 : f255 43 = (Value.bool ((k29 : Int) == (0 : Int))) := hf262
              exact OpX.skip (wanted_skip rfl rfl e263 hc173) rfl
            · refine ObX.op rfl ?_
              intro f264 wd265 he266 hout267 hphi268
              obtain ⟨S269, hS270, hf271⟩ := hphi268 2 43 _ rfl rfl rfl
              have e272 : f264 43 = (Value.bool ((k29 : Int) == (0 : Int))) := hf271
              exact OpX.skip (wanted_skip rfl rfl e272 hc173) rfl
            · intro f273 wd274 Ss275 he276 hout277 hSn278 hSd279 hphi280
              show WL _ _ _ _ _ _ _
              have hS281 : St wd2 wd274 [bx b9 [(Value.int .i64 (0 : Int)), (Value.int .i64 (0 : Int)), (Value.int .i64 (0 : Int)), (Value.int .i64 (0 : Int))], bx b13 [(Value.int .i64 x30), (Value.int .i64 x31), (Value.int .i64 x32), (Value.int .i64 x33)]] := St.extend hS142 he276
              have e282 : f273 43 = (Value.bool ((k29 : Int) == (0 : Int))) := hphi280 2 43 _ (by decide) rfl rfl
              have e283 : f273 44 = undef := hphi280 3 44 _ (by decide) rfl rfl
              have e284 : f273 45 = undef := hphi280 4 45 _ (by decide) rfl rfl
              have e285 : f273 46 = undef := hphi280 5 46 _ (by decide) rfl rfl
              have e286 : f273 47 = undef := hphi280 6 47 _ (by decide) rfl rfl
              have e287 : f273 48 = undef := hphi280 7 48 _ (by decide) rfl rfl
              have e288 : f273 49 = undef := hphi280 8 49 _ (by decide) rfl rfl
              have e289 : f273 50 = undef := hphi280 9 50 _ (by decide) rfl rfl
              have e290 : f273 51 = undef := hphi280 10 51 _ (by decide) rfl rfl
              have e291 : f273 52 = undef := hphi280 11 52 _ (by decide) rfl rfl
              have e292 : f273 53 = undef := hphi280 12 53 _ (by decide) rfl rfl
              have e293 : f273 54 = undef := hphi280 13 54 _ (by decide) rfl rfl
              have e294 : f273 2 = v_w1 := (hout277 2 rfl).trans hf133
              have e295 : f273 6 = (Value.pointer (some ⟨b9, 0, none⟩)) := (hout277 6 rfl).trans hf134
              have e296 : f273 7 = (Value.pointer (some ⟨b13, 0, none⟩)) := (hout277 7 rfl).trans hf135
              have e297 : f273 8 = (Value.int .i64 (k29 : Int)) := (hout277 8 rfl).trans hf136
              have e298 : f273 10 = (Value.int .i64 x132) := (hout277 10 rfl).trans hf137
              have e299 : f273 18 = u23 := (hout277 18 rfl).trans hf139
              have e300 : f273 19 = (Value.int .i64 ((x19).length : Int)) := (hout277 19 rfl).trans hf140
              have e301 : f273 20 = (Value.int .i64 (k29 : Int)) := (hout277 20 rfl).trans hf141
              refine WL.gskip rfl (bool_of e282 hc173) rfl ?_
              refine WL.val (Value.bool true) _ (op_pick_t (evb_of e282 hc173) rfl) rfl ?_
              refine WL.nil ?_
              obtain rfl := Option.some.inj hj172
              exact ⟨e294, e295, e296, e297, e298, e299, e300, e301, rfl, hS281⟩
          · replace hj172 := inegb hj172 hc173
            obtain ⟨x424, hx427, hj172⟩ := bs hj172
            obtain ⟨ha425, hb426, hx427⟩ := idx_some hx427
            obtain ⟨u442, hc443, hr444⟩ := repSl.el r_w1 hx427
            obtain ⟨rfl, hr444⟩ := hr444
            refine W.drawR mixo 14 [] [fun _ v _ _ => v = (Value.int .i64 (k29 : Int)) ∧ InR .i64 (k29 : Int), fun _ v _ _ => v = (Value.bool ((k29 : Int) == (0 : Int))), fun _ v _ _ => v = (Value.bool ((k29 : Int) == (0 : Int))), fun _ v _ _ => v = (Value.int .i64 x132) ∧ InR .i64 x132, fun _ v _ _ => v = (Value.pointer (some ⟨b13, 1, none⟩)), fun _ v _ _ => v = (Value.int .i64 x31) ∧ InR .i64 x31, fun _ v _ _ => v = (Value.int .i64 (w64 (x132 * x31))) ∧ InR .i64 (w64 (x132 * x31)), fun _ v _ _ => v = (Value.pointer (some ⟨b13, 0, none⟩)), fun _ v _ _ => v = (Value.int .i64 x30) ∧ InR .i64 x30, fun _ v _ _ => v = v_w1, fun _ v _ _ => v = (Value.int .i64 (k29 : Int)) ∧ InR .i64 (k29 : Int), fun _ v _ _ => v = (Value.pointer (some (elA v_w1 ((k29 : Int)).toNat))), fun _ v _ _ => v = (Value.int .i64 x424) ∧ InR .i64 x424, fun _ v _ _ => v = (Value.int .i64 (w64 (x30 * x424))) ∧ InR .i64 (w64 (x30 * x424))] (by kernel_rfl) (by kernel_rfl) ⟨⟨fun _ _ _ _ _ _ h => h, fun _ _ _ _ _ _ h => h⟩, ⟨fun _ _ _ _ _ _ h => h, fun _ _ _ _ _ _ h => h⟩, ⟨fun _ _ _ _ _ _ h => h, fun _ _ _ _ _ _ h => h⟩, ⟨fun _ _ _ _ _ _ h => h, fun _ _ _ _ _ _ h => h⟩, ⟨fun _ _ _ _ _ _ h => h, fun _ _ _ _ _ _ h => h⟩, ⟨fun _ _ _ _ _ _ h => h, fun _ _ _ _ _ _ h => h⟩, ⟨fun _ _ _ _ _ _ h => h, fun _ _ _ _ _ _ h => h⟩, ⟨fun _ _ _ _ _ _ h => h, fun _ _ _ _ _ _ h => h⟩, ⟨fun _ _ _ _ _ _ h => h, fun _ _ _ _ _ _ h => h⟩, ⟨fun _ _ _ _ _ _ h => h, fun _ _ _ _ _ _ h => h⟩, ⟨fun _ _ _ _ _ _ h => h, fun _ _ _ _ _ _ h => h⟩, ⟨fun _ _ _ _ _ _ h => h, fun _ _ _ _ _ _ h => h⟩, ⟨fun _ _ _ _ _ _ h => h, fun _ _ _ _ _ _ h => h⟩, ⟨fun _ _ _ _ _ _ h => h, fun _ _ _ _ _ _ h => h⟩, trivial⟩ ⟨?_, ?_, ?_, ?_, ?_, ?_, ?_, ?_, ?_, ?_, ?_, ?_, ?_, ?_, trivial⟩ ?_
            · refine ObX.op rfl ?_
              intro f143 wd144 he145 hout146 hphi147
              have hS148 : St wd2 wd144 [bx b9 [(Value.int .i64 (0 : Int)), (Value.int .i64 (0 : Int)), (Value.int .i64 (0 : Int)), (Value.int .i64 (0 : Int))], bx b13 [(Value.int .i64 x30), (Value.int .i64 x31), (Value.int .i64 x32), (Value.int .i64 x33)]] := St.extend hS142 he145
              have e149 : f143 8 = (Value.int .i64 (k29 : Int)) := (hout146 8 rfl).trans hf136
              exact OpX.val (Value.int .i64 (k29 : Int)) wd144 rfl (op_move e149) (Ext.refl _) ⟨rfl, hr48⟩
            · refine ObX.op rfl ?_
              intro f150 wd151 he152 hout153 hphi154
              have hS155 : St wd2 wd151 [bx b9 [(Value.int .i64 (0 : Int)), (Value.int .i64 (0 : Int)), (Value.int .i64 (0 : Int)), (Value.int .i64 (0 : Int))], bx b13 [(Value.int .i64 x30), (Value.int .i64 x31), (Value.int .i64 x32), (Value.int .i64 x33)]] := St.extend hS142 he152
              obtain ⟨S156, hS157, hf158⟩ := hphi154 0 41 _ rfl rfl rfl
              obtain ⟨e159, hr160⟩ : f150 41 = (Value.int .i64 (k29 : Int)) ∧ InR .i64 (k29 : Int) := hf158
              exact OpX.val (Value.bool ((k29 : Int) == (0 : Int))) wd151 rfl (op_eql e159 rfl) (Ext.refl _) rfl
            · refine ObX.op rfl ?_
              intro f161 wd162 he163 hout164 hphi165
              have hS166 : St wd2 wd162 [bx b9 [(Value.int .i64 (0 : Int)), (Value.int .i64 (0 : Int)), (Value.int .i64 (0 : Int)), (Value.int .i64 (0 : Int))], bx b13 [(Value.int .i64 x30), (Value.int .i64 x31), (Value.int .i64 x32), (Value.int .i64 x33)]] := St.extend hS142 he163
              obtain ⟨S167, hS168, hf169⟩ := hphi165 1 42 _ rfl rfl rfl
              have e170 : f161 42 = (Value.bool ((k29 : Int) == (0 : Int))) := hf169
              exact OpX.val (Value.bool ((k29 : Int) == (0 : Int))) wd162 rfl (op_move e170) (Ext.refl _) rfl
            · refine ObX.op rfl ?_
              intro f302 wd303 he304 hout305 hphi306
              have hS307 : St wd2 wd303 [bx b9 [(Value.int .i64 (0 : Int)), (Value.int .i64 (0 : Int)), (Value.int .i64 (0 : Int)), (Value.int .i64 (0 : Int))], bx b13 [(Value.int .i64 x30), (Value.int .i64 x31), (Value.int .i64 x32), (Value.int .i64 x33)]] := St.extend hS142 he304
              have e308 : f302 10 = (Value.int .i64 x132) := (hout305 10 rfl).trans hf137
              obtain ⟨S309, hS310, hf311⟩ := hphi306 2 43 _ rfl rfl rfl
              have e312 : f302 43 = (Value.bool ((k29 : Int) == (0 : Int))) := hf311
              exact OpX.val (Value.int .i64 x132) wd303 (wanted_run rfl rfl e312 hc173) (op_move e308) (Ext.refl _) ⟨rfl, hr138⟩
            · refine ObX.op rfl ?_
              intro f313 wd314 he315 hout316 hphi317
              have hS318 : St wd2 wd314 [bx b9 [(Value.int .i64 (0 : Int)), (Value.int .i64 (0 : Int)), (Value.int .i64 (0 : Int)), (Value.int .i64 (0 : Int))], bx b13 [(Value.int .i64 x30), (Value.int .i64 x31), (Value.int .i64 x32), (Value.int .i64 x33)]] := St.extend hS142 he315
              have e319 : f313 7 = (Value.pointer (some ⟨b13, 0, none⟩)) := (hout316 7 rfl).trans hf135
              obtain ⟨S320, hS321, hf322⟩ := hphi317 2 43 _ rfl rfl rfl
              have e323 : f313 43 = (Value.bool ((k29 : Int) == (0 : Int))) := hf322
              exact OpX.val (Value.pointer (some ⟨b13, 1, none⟩)) wd314 (wanted_run rfl rfl e323 hc173) (op_fieldAddr fd_42_1 e319) (Ext.refl _) rfl
            · refine ObX.op rfl ?_
              intro f324 wd325 he326 hout327 hphi328
              have hS329 : St wd2 wd325 [bx b9 [(Value.int .i64 (0 : Int)), (Value.int .i64 (0 : Int)), (Value.int .i64 (0 : Int)), (Value.int .i64 (0 : Int))], bx b13 [(Value.int .i64 x30), (Value.int .i64 x31), (Value.int .i64 x32), (Value.int .i64 x33)]] := St.extend hS142 he326
              obtain ⟨S330, hS331, hf332⟩ := hphi328 2 43 _ rfl rfl rfl
              have e333 : f324 43 = (Value.bool ((k29 : Int) == (0 : Int))) := hf332
              obtain ⟨S334, hS335, hf336⟩ := hphi328 4 45 _ rfl rfl rfl
              have e337 : f324 45 = (Value.pointer (some ⟨b13, 1, none⟩)) := hf336
              exact OpX.val (Value.int .i64 x31) wd325 (wanted_run rfl rfl e333 hc173) (op_load one_2 e337 (BoxAt.cell (St.boxAt hS329 1 rfl) rfl)) (Ext.refl _) ⟨rfl, hr50⟩
            · refine ObX.op rfl ?_
              intro f338 wd339 he340 hout341 hphi342
              have hS343 : St wd2 wd339 [bx b9 [(Value.int .i64 (0 : Int)), (Value.int .i64 (0 : Int)), (Value.int .i64 (0 : Int)), (Value.int .i64 (0 : Int))], bx b13 [(Value.int .i64 x30), (Value.int .i64 x31), (Value.int .i64 x32), (Value.int .i64 x33)]] := St.extend hS142 he340
              obtain ⟨S344, hS345, hf346⟩ := hphi342 2 43 _ rfl rfl rfl
              have e347 : f338 43 = (Value.bool ((k29 : Int) == (0 : Int))) := hf346
              obtain ⟨S348, hS349, hf350⟩ := hphi342 3 44 _ rfl rfl rfl
              obtain ⟨e351, hr352⟩ : f338 44 = (Value.int .i64 x132) ∧ InR .i64 x132 := hf350
              obtain ⟨S353, hS354, hf355⟩ := hphi342 5 46 _ rfl rfl rfl
              obtain ⟨e356, hr357⟩ : f338 46 = (Value.int .i64 x31) ∧ InR .i64 x31 := hf355
              exact OpX.val (Value.int .i64 (w64 (x132 * x31))) wd339 (wanted_run rfl rfl e347 hc173) (op_mul e351 e356) (Ext.refl _) ⟨rfl, (inR_wrap _ _)⟩
            · refine ObX.op rfl ?_
              intro f358 wd359 he360 hout361 hphi362
              have hS363 : St wd2 wd359 [bx b9 [(Value.int .i64 (0 : Int)), (Value.int .i64 (0 : Int)), (Value.int .i64 (0 : Int)), (Value.int .i64 (0 : Int))], bx b13 [(Value.int .i64 x30), (Value.int .i64 x31), (Value.int .i64 x32), (Value.int .i64 x33)]] := St.extend hS142 he360
              have e364 : f358 7 = (Value.pointer (some ⟨b13, 0, none⟩)) := (hout361 7 rfl).trans hf135
              obtain ⟨S365, hS366, hf367⟩ := hphi362 2 43 _ rfl rfl rfl
              have e368 : f358 43 = (Value.bool ((k29 : Int) == (0 : Int))) := hf367
              exact OpX.val (Value.pointer (some ⟨b13, 0, none⟩)) wd359 (wanted_run rfl rfl e368 hc173) (op_fieldAddr fd_42_0 e364) (Ext.refl _) rfl
            · refine ObX.op rfl ?_
              intro f369 wd370 he371 hout372 hphi373
              have hS374 : St wd2 wd370 [bx b9 [(Value.int .i64 (0 : Int)), (Value.int .i64 (0 : Int)), (Value.int .i64 (0 : Int)), (Value.int .i64 (0 : Int))], bx b13 [(Value.int .i64 x30), (Value.int .i64 x31), (Value.int .i64 x32), (Value.int .i64 x33)]] := St.extend hS142 he371
              obtain ⟨S375, hS376, hf377⟩ := hphi373 2 43 _ rfl rfl rfl
              have e378 : f369 43 = (Value.bool ((k29 : Int) == (0 : Int))) := hf377
              obtain ⟨S379, hS380, hf381⟩ := hphi373 7 48 _ rfl rfl rfl
              have e382 : f369 48 = (Value.pointer (some ⟨b13, 0, none⟩)) := hf381
              exact OpX.val (Value.int .i64 x30) wd370 (wanted_run rfl rfl e378 hc173) (op_load one_2 e382 (BoxAt.cell (St.boxAt hS374 1 rfl) rfl)) (Ext.refl _) ⟨rfl, hr49⟩
            · refine ObX.op rfl ?_
              intro f383 wd384 he385 hout386 hphi387
              have hS388 : St wd2 wd384 [bx b9 [(Value.int .i64 (0 : Int)), (Value.int .i64 (0 : Int)), (Value.int .i64 (0 : Int)), (Value.int .i64 (0 : Int))], bx b13 [(Value.int .i64 x30), (Value.int .i64 x31), (Value.int .i64 x32), (Value.int .i64 x33)]] := St.extend hS142 he385
              have e389 : f383 2 = v_w1 := (hout386 2 rfl).trans hf133
              obtain ⟨S390, hS391, hf392⟩ := hphi387 2 43 _ rfl rfl rfl
              have e393 : f383 43 = (Value.bool ((k29 : Int) == (0 : Int))) := hf392
              exact OpX.val v_w1 wd384 (wanted_run rfl rfl e393 hc173) (op_move e389) (Ext.refl _) rfl
            · refine ObX.op rfl ?_
              intro f394 wd395 he396 hout397 hphi398
              have hS399 : St wd2 wd395 [bx b9 [(Value.int .i64 (0 : Int)), (Value.int .i64 (0 : Int)), (Value.int .i64 (0 : Int)), (Value.int .i64 (0 : Int))], bx b13 [(Value.int .i64 x30), (Value.int .i64 x31), (Value.int .i64 x32), (Value.int .i64 x33)]] := St.extend hS142 he396
              have e400 : f394 8 = (Value.int .i64 (k29 : Int)) := (hout397 8 rfl).trans hf136
              obtain ⟨S401, hS402, hf403⟩ := hphi398 2 43 _ rfl rfl rfl
              have e404 : f394 43 = (Value.bool ((k29 : Int) == (0 : Int))) := hf403
              exact OpX.val (Value.int .i64 (k29 : Int)) wd395 (wanted_run rfl rfl e404 hc173) (op_move e400) (Ext.refl _) ⟨rfl, hr48⟩
            · refine ObX.op rfl ?_
              intro f405 wd406 he407 hout408 hphi409
              have hS410 : St wd2 wd406 [bx b9 [(Value.int .i64 (0 : Int)), (Value.int .i64 (0 : Int)), (Value.int .i64 (0 : Int)), (Value.int .i64 (0 : Int))], bx b13 [(Value.int .i64 x30), (Value.int .i64 x31), (Value.int .i64 x32), (Value.int .i64 x33)]] := St.extend hS142 he407
              obtain ⟨S411, hS412, hf413⟩ := hphi409 2 43 _ rfl rfl rfl
              have e414 : f405 43 = (Value.bool ((k29 : Int) == (0 : Int))) := hf413
              obtain ⟨S415, hS416, hf417⟩ := hphi409 9 50 _ rfl rfl rfl
              have e418 : f405 50 = v_w1 := hf417
              obtain ⟨S419, hS420, hf421⟩ := hphi409 10 51 _ rfl rfl rfl
              obtain ⟨e422, hr423⟩ : f405 51 = (Value.int .i64 (k29 : Int)) ∧ InR .i64 (k29 : Int) := hf421
              exact OpX.val (Value.pointer (some (elA v_w1 ((k29 : Int)).toNat))) wd406 (wanted_run rfl rfl e414 hc173) (op_idx sl_35 (Ty.lift _ (Ext.trans hE7 hS410.ext) r_w1) e418 e422 ha425 hb426) (Ext.refl _) rfl
            · refine ObX.op rfl ?_
              intro f428 wd429 he430 hout431 hphi432
              have hS433 : St wd2 wd429 [bx b9 [(Value.int .i64 (0 : Int)), (Value.int .i64 (0 : Int)), (Value.int .i64 (0 : Int)), (Value.int .i64 (0 : Int))], bx b13 [(Value.int .i64 x30), (Value.int .i64 x31), (Value.int .i64 x32), (Value.int .i64 x33)]] := St.extend hS142 he430
              obtain ⟨S434, hS435, hf436⟩ := hphi432 2 43 _ rfl rfl rfl
              have e437 : f428 43 = (Value.bool ((k29 : Int) == (0 : Int))) := hf436
              obtain ⟨S438, hS439, hf440⟩ := hphi432 11 52 _ rfl rfl rfl
              have e441 : f428 52 = (Value.pointer (some (elA v_w1 ((k29 : Int)).toNat))) := hf440
              exact OpX.val (Value.int .i64 x424) wd429 (wanted_run rfl rfl e437 hc173) (op_load one_2 e441 (Ext.cell (Ext.trans hE7 hS433.ext) hc443)) (Ext.refl _) ⟨rfl, hr444⟩
            · refine ObX.op rfl ?_
              intro f445 wd446 he447 hout448 hphi449
              have hS450 : St wd2 wd446 [bx b9 [(Value.int .i64 (0 : Int)), (Value.int .i64 (0 : Int)), (Value.int .i64 (0 : Int)), (Value.int .i64 (0 : Int))], bx b13 [(Value.int .i64 x30), (Value.int .i64 x31), (Value.int .i64 x32), (Value.int .i64 x33)]] := St.extend hS142 he447
              obtain ⟨S451, hS452, hf453⟩ := hphi449 2 43 _ rfl rfl rfl
              have e454 : f445 43 = (Value.bool ((k29 : Int) == (0 : Int))) := hf453
              obtain ⟨S455, hS456, hf457⟩ := hphi449 8 49 _ rfl rfl rfl
              obtain ⟨e458, hr459⟩ : f445 49 = (Value.int .i64 x30) ∧ InR .i64 x30 := hf457
              obtain ⟨S460, hS461, hf462⟩ := hphi449 12 53 _ rfl rfl rfl
              obtain ⟨e463, hr464⟩ : f445 53 = (Value.int .i64 x424) ∧ InR .i64 x424 := hf462
              exact OpX.val (Value.int .i64 (w64 (x30 * x424))) wd446 (wanted_run rfl rfl e454 hc173) (op_mul e458 e463) (Ext.refl _) ⟨rfl, (inR_wrap _ _)⟩
            · intro f465 wd466 Ss467 he468 hout469 hSn470 hSd471 hphi472
              show WL _ _ _ _ _ _ _
              have hS473 : St wd2 wd466 [bx b9 [(Value.int .i64 (0 : Int)), (Value.int .i64 (0 : Int)), (Value.int .i64 (0 : Int)), (Value.int .i64 (0 : Int))], bx b13 [(Value.int .i64 x30), (Value.int .i64 x31), (Value.int .i64 x32), (Value.int .i64 x33)]] := St.extend hS142 he468
              have e474 : f465 43 = (Value.bool ((k29 : Int) == (0 : Int))) := hphi472 2 43 _ (by decide) rfl rfl
              obtain ⟨e475, hr476⟩ : f465 44 = (Value.int .i64 x132) ∧ InR .i64 x132 := hphi472 3 44 _ (by decide) rfl rfl
              have e477 : f465 45 = (Value.pointer (some ⟨b13, 1, none⟩)) := hphi472 4 45 _ (by decide) rfl rfl
              obtain ⟨e478, hr479⟩ : f465 46 = (Value.int .i64 x31) ∧ InR .i64 x31 := hphi472 5 46 _ (by decide) rfl rfl
              obtain ⟨e480, hr481⟩ : f465 47 = (Value.int .i64 (w64 (x132 * x31))) ∧ InR .i64 (w64 (x132 * x31)) := hphi472 6 47 _ (by decide) rfl rfl
              have e482 : f465 48 = (Value.pointer (some ⟨b13, 0, none⟩)) := hphi472 7 48 _ (by decide) rfl rfl
              obtain ⟨e483, hr484⟩ : f465 49 = (Value.int .i64 x30) ∧ InR .i64 x30 := hphi472 8 49 _ (by decide) rfl rfl
              have e485 : f465 50 = v_w1 := hphi472 9 50 _ (by decide) rfl rfl
              obtain ⟨e486, hr487⟩ : f465 51 = (Value.int .i64 (k29 : Int)) ∧ InR .i64 (k29 : Int) := hphi472 10 51 _ (by decide) rfl rfl
              have e488 : f465 52 = (Value.pointer (some (elA v_w1 ((k29 : Int)).toNat))) := hphi472 11 52 _ (by decide) rfl rfl
              obtain ⟨e489, hr490⟩ : f465 53 = (Value.int .i64 x424) ∧ InR .i64 x424 := hphi472 12 53 _ (by decide) rfl rfl
              obtain ⟨e491, hr492⟩ : f465 54 = (Value.int .i64 (w64 (x30 * x424))) ∧ InR .i64 (w64 (x30 * x424)) := hphi472 13 54 _ (by decide) rfl rfl
              have e493 : f465 2 = v_w1 := (hout469 2 rfl).trans hf133
              have e494 : f465 6 = (Value.pointer (some ⟨b9, 0, none⟩)) := (hout469 6 rfl).trans hf134
              have e495 : f465 7 = (Value.pointer (some ⟨b13, 0, none⟩)) := (hout469 7 rfl).trans hf135
              have e496 : f465 8 = (Value.int .i64 (k29 : Int)) := (hout469 8 rfl).trans hf136
              have e497 : f465 10 = (Value.int .i64 x132) := (hout469 10 rfl).trans hf137
              have e498 : f465 18 = u23 := (hout469 18 rfl).trans hf139
              have e499 : f465 19 = (Value.int .i64 ((x19).length : Int)) := (hout469 19 rfl).trans hf140
              have e500 : f465 20 = (Value.int .i64 (k29 : Int)) := (hout469 20 rfl).trans hf141
              refine WL.grun rfl (bool_of e474 hc173) ?_
              refine WL.val (Value.bool (decide ((w64 (x132 * x31)) < (w64 (x30 * x424))))) _ (op_lss e480 e491) rfl ?_
              refine WL.val (Value.bool (decide ((w64 (x132 * x31)) < (w64 (x30 * x424))))) _ (op_pick_f (evb_of e474 hc173) rfl) rfl ?_
              refine WL.nil ?_
              obtain rfl := Option.some.inj hj172
              exact ⟨e493, e494, e495, e496, e497, e498, e499, e500, rfl, hS473⟩
        · intro f501 wd502 hq503
          obtain ⟨hf504, hf505, hf506, hf507, hf508, hf509, hf510, hf511, hf512, hS513⟩ := hq503
          show W _ _ _ _ _ _
          obtain ⟨⟨x514, x515⟩, hj516, hb38⟩ := bs hb38
          refine W.cutCode (fun fq wq => fq 2 = v_w1 ∧ fq 6 = (Value.pointer (some ⟨b9, 0, none⟩)) ∧ fq 7 = (Value.pointer (some ⟨b13, 0, none⟩)) ∧ fq 8 = (Value.int .i64 (k29 : Int)) ∧ fq 10 = (Value.int .i64 x132) ∧ fq 18 = u23 ∧ fq 19 = (Value.int .i64 ((x19).length : Int)) ∧ fq 20 = (Value.int .i64 (k29 : Int)) ∧ InR .i64 x514 ∧ InR .i64 x515 ∧ St wd2 wq [bx b9 [(Value.int .i64 (0 : Int)), (Value.int .i64 (0 : Int)), (Value.int .i64 (0 : Int)), (Value.int .i64 (0 : Int))], bx b13 [(Value.int .i64 x514), (Value.int .i64 x515), (Value.int .i64 x32), (Value.int .i64 x33)]]) ?_ ?_
          · refine W.cond x171 hf512 (fun hc517 => ?_) (fun hc517 => ?_)
            · replace hj516 := ip hj516 hc517
              obtain ⟨x521, hx524, hj516⟩ := bs hj516
              obtain ⟨ha522, hb523, hx524⟩ := idx_some hx524
              refine W.cutCode (fun fq wq => fq 2 = v_w1 ∧ fq 6 = (Value.pointer (some ⟨b9, 0, none⟩)) ∧ fq 7 = (Value.pointer (some ⟨b13, 0, none⟩)) ∧ fq 8 = (Value.int .i64 (k29 : Int)) ∧ fq 10 = (Value.int .i64 x132) ∧ fq 18 = u23 ∧ fq 19 = (Value.int .i64 ((x19).length : Int)) ∧ fq 20 = (Value.int .i64 (k29 : Int)) ∧ InR .i64 x132 ∧ InR .i64 x521 ∧ St wd2 wq [bx b9 [(Value.int .i64 (0 : Int)), (Value.int .i64 (0 : Int)), (Value.int .i64 (0 : Int)), (Value.int .i64 (0 : Int))], bx b13 [(Value.int .i64 x132), (Value.int .i64 x521), (Value.int .i64 x32), (Value.int .i64 x33)]]) ?_ ?_
              · refine W.orders mixo ?_
                intro wd518 he519
                have hS520 : St wd2 wd518 [bx b9 [(Value.int .i64 (0 : Int)), (Value.int .i64 (0 : Int)), (Value.int .i64 (0 : Int)), (Value.int .i64 (0 : Int))], bx b13 [(Value.int .i64 x30), (Value.int .i64 x31), (Value.int .i64 x32), (Value.int .i64 x33)]] := St.extend hS513 he519
                refine WA.take (Value.int .i64 x132) (i := 0) rfl rfl rfl rfl (by kernel_rfl) (fun _ => (op_move hf508)) ?_
                refine WA.take v_w1 (i := 1) rfl rfl rfl rfl (by kernel_rfl) (fun _ => (op_move hf504)) ?_
                refine WA.take (Value.int .i64 (k29 : Int)) (i := 2) rfl rfl rfl rfl (by kernel_rfl) (fun _ => (op_move hf507)) ?_
                refine WA.take (Value.pointer (some (elA v_w1 ((k29 : Int)).toNat))) (i := 3) rfl rfl rfl rfl (by kernel_rfl) (op_idxA sl_35 (Ty.lift _ (Ext.trans hE7 hS520.ext) r_w1) rfl rfl ha522 hb523) ?_
                refine WA.take (Value.pointer (some ⟨b13, 0, none⟩)) (i := 5) rfl rfl rfl rfl (by kernel_rfl) (fun _ => (op_fieldAddr fd_42_0 hf506)) ?_
                refine WA.all [4, 6] (by kernel_rfl) rfl ⟨⟨_, rfl, ?_⟩, ⟨_, rfl, ?_⟩, trivial⟩
                · obtain ⟨u525, hc526, hr527⟩ := repSl.el r_w1 hx524
                  obtain ⟨rfl, hr527⟩ := hr527
                  refine WL.val (Value.int .i64 x521) _ (op_load one_2 rfl (Ext.cell (Ext.trans hE7 hS520.ext) hc526)) rfl ?_
                  refine WL.nil ?_
                  show WA _ _ _ _ _ _ _ _
                  refine WA.all [6] (by kernel_rfl) rfl ⟨⟨_, rfl, ?_⟩, trivial⟩
                  · refine WL.storeBox [(Value.int .i64 x132), (Value.int .i64 x31), (Value.int .i64 x32), (Value.int .i64 x33)] hS520 (k := 1) rfl rfl rfl (us := [(Value.int .i64 x132)]) rfl sz_2 rfl rfl (all_cons rfl all_nil) rfl ?_
                    intro wd528 hS529
                    replace hS529 : St wd2 wd528 [bx b9 [(Value.int .i64 (0 : Int)), (Value.int .i64 (0 : Int)), (Value.int .i64 (0 : Int)), (Value.int .i64 (0 : Int))], bx b13 [(Value.int .i64 x132), (Value.int .i64 x31), (Value.int .i64 x32), (Value.int .i64 x33)]] := hS529
                    refine WL.nil ?_
                    show WA _ _ _ _ _ _ _ _
                    refine WA.take (Value.pointer (some ⟨b13, 1, none⟩)) (i := 7) rfl rfl rfl rfl (by kernel_rfl) (fun _ => (op_fieldAddr fd_42_1 hf506)) ?_
                    refine WA.all [8] (by kernel_rfl) rfl ⟨⟨_, rfl, ?_⟩, trivial⟩
                    · refine WL.storeBox [(Value.int .i64 x132), (Value.int .i64 x521), (Value.int .i64 x32), (Value.int .i64 x33)] hS529 (k := 1) rfl rfl rfl (us := [(Value.int .i64 x521)]) rfl sz_2 rfl rfl (all_cons rfl all_nil) rfl ?_
                      intro wd530 hS531
                      replace hS531 : St wd2 wd530 [bx b9 [(Value.int .i64 (0 : Int)), (Value.int .i64 (0 : Int)), (Value.int .i64 (0 : Int)), (Value.int .i64 (0 : Int))], bx b13 [(Value.int .i64 x132), (Value.int .i64 x521), (Value.int .i64 x32), (Value.int .i64 x33)]] := hS531
                      refine WL.nil ?_
                      show WA _ _ _ _ _ _ _ _
                      refine WA.done (by kernel_rfl) ?_
                      exact ⟨hf504, hf505, hf506, hf507, hf508, hf509, hf510, hf511, hr138, hr527, hS531⟩
                · refine WL.storeBox [(Value.int .i64 x132), (Value.int .i64 x31), (Value.int .i64 x32), (Value.int .i64 x33)] hS520 (k := 1) rfl rfl rfl (us := [(Value.int .i64 x132)]) rfl sz_2 rfl rfl (all_cons rfl all_nil) rfl ?_
                  intro wd532 hS533
                  replace hS533 : St wd2 wd532 [bx b9 [(Value.int .i64 (0 : Int)), (Value.int .i64 (0 : Int)), (Value.int .i64 (0 : Int)), (Value.int .i64 (0 : Int))], bx b13 [(Value.int .i64 x132), (Value.int .i64 x31), (Value.int .i64 x32), (Value.int .i64 x33)]] := hS533
                  refine WL.nil ?_
                  show WA _ _ _ _ _ _ _ _
                  refine WA.all [4] (by kernel_rfl) rfl ⟨⟨_, rfl, ?_⟩, trivial⟩
                  · obtain ⟨u534, hc535, hr536⟩ := repSl.el r_w1 hx524
                    obtain ⟨rfl, hr536⟩ := hr536
                    refine WL.val (Value.int .i64 x521) _ (op_load one_2 rfl (Ext.cell (Ext.trans hE7 hS533.ext) hc535)) rfl ?_
                    refine WL.nil ?_
                    show WA _ _ _ _ _ _ _ _
                    refine WA.take (Value.pointer (some ⟨b13, 1, none⟩)) (i := 7) rfl rfl rfl rfl (by kernel_rfl) (fun _ => (op_fieldAddr fd_42_1 hf506)) ?_
                    refine WA.all [8] (by kernel_rfl) rfl ⟨⟨_, rfl, ?_⟩, trivial⟩
                    · refine WL.storeBox [(Value.int .i64 x132), (Value.int .i64 x521), (Value.int .i64 x32), (Value.int .i64 x33)] hS533 (k := 1) rfl rfl rfl (us := [(Value.int .i64 x521)]) rfl sz_2 rfl rfl (all_cons rfl all_nil) rfl ?_
                      intro wd537 hS538
                      replace hS538 : St wd2 wd537 [bx b9 [(Value.int .i64 (0 : Int)), (Value.int .i64 (0 : Int)), (Value.int .i64 (0 : Int)), (Value.int .i64 (0 : Int))], bx b13 [(Value.int .i64 x132), (Value.int .i64 x521), (Value.int .i64 x32), (Value.int .i64 x33)]] := hS538
                      refine WL.nil ?_
                      show WA _ _ _ _ _ _ _ _
                      refine WA.done (by kernel_rfl) ?_
                      exact ⟨hf504, hf505, hf506, hf507, hf508, hf509, hf510, hf511, hr138, hr536, hS538⟩
              · intro f539 wd540 hq541
                obtain ⟨hf542, hf543, hf544, hf545, hf546, hf547, hf548, hf549, hr550, hr551, hS552⟩ := hq541
                simp only [Option.some.injEq, Prod.mk.injEq] at hj516
                obtain ⟨rfl, rfl⟩ := hj516
                exact ⟨hf542, hf543, hf544, hf545, hf546, hf547, hf548, hf549, hr550, hr551, hS552⟩
            · replace hj516 := inegb hj516 hc517
              refine W.skip ?_
              simp only [Option.some.injEq, Prod.mk.injEq] at hj516
              obtain ⟨rfl, rfl⟩ := hj516
              exact ⟨hf504, hf505, hf506, hf507, hf508, hf509, hf510, hf511, hr49, hr50, hS513⟩
          · intro f553 wd554 hq555
            obtain ⟨hf556, hf557, hf558, hf559, hf560, hf561, hf562, hf563, hr564, hr565, hS566⟩ := hq555
            show W _ _ _ _ _ _
            refine W.seq ?_
            obtain ⟨x595, hj596, hb38⟩ := bs hb38
            refine W.cutCode (fun fq wq => fq 2 = v_w1 ∧ fq 6 = (Value.pointer (some ⟨b9, 0, none⟩)) ∧ fq 7 = (Value.pointer (some ⟨b13, 0, none⟩)) ∧ fq 8 = (Value.int .i64 (k29 : Int)) ∧ fq 10 = (Value.int .i64 x132) ∧ fq 18 = u23 ∧ fq 19 = (Value.int .i64 ((x19).length : Int)) ∧ fq 20 = (Value.int .i64 (k29 : Int)) ∧ fq 79 = Value.bool x595 ∧ St wd2 wq [bx b9 [(Value.int .i64 (0 : Int)), (Value.int .i64 (0 : Int)), (Value.int .i64 (0 : Int)), (Value.int .i64 (0 : Int))], bx b13 [(Value.int .i64 x514), (Value.int .i64 x515), (Value.int .i64 x32), (Value.int .i64 x33)]]) ?_ ?_
            · rcases Bool.eq_false_or_eq_true ((k29 : Int) == (0 : Int)) with hc597 | hc597
              · replace hj596 := ip hj596 hc597
                refine W.drawR mixo 14 [] [fun _ v _ _ => v = (Value.int .i64 (k29 : Int)) ∧ InR .i64 (k29 : Int), fun _ v _ _ => v = (Value.bool ((k29 : Int) == (0 : Int))), fun _ v _ _ => v = (Value.bool ((k29 : Int) == (0 : Int))), fun _ v _ _ => v = undef, fun _ v _ _ => v = undef, fun _ v _ _ => v = undef, fun _ v _ _ => v = undef, fun _ v _ _ => v = undef, fun _ v _ _ => v = undef, fun _ v _ _ => v = undef, fun _ v _ _ => v = undef, fun _ v _ _ => v = undef, fun _ v _ _ => v = undef, fun _ v _ _ => v = undef] (by kernel_rfl) (by kernel_rfl) ⟨⟨fun _ _ _ _ _ _ h => h, fun _ _ _ _ _ _ h => h⟩, ⟨fun _ _ _ _ _ _ h => h, fun _ _ _ _ _ _ h => h⟩, ⟨fun _ _ _ _ _ _ h => h, fun _ _ _ _ _ _ h => h⟩, ⟨fun _ _ _ _ _ _ h => h, fun _ _ _ _ _ _ h => h⟩, ⟨fun _ _ _ _ _ _ h => h, fun _ _ _ _ _ _ h => h⟩, ⟨fun _ _ _ _ _ _ h => h, fun _ _ _ _ _ _ h => h⟩, ⟨fun _ _ _ _ _ _ h => h, fun _ _ _ _ _ _ h => h⟩, ⟨fun _ _ _ _ _ _ h => h, fun _ _ _ _ _ _ h => h⟩, ⟨fun _ _ _ _ _ _ h => h, fun _ _ _ _ _ _ h => h⟩, ⟨fun _ _ _ _ _ _ h => h, fun _ _ _ _ _ _ h => h⟩, ⟨fun _ _ _ _ _ _ h => h, fun _ _ _ _ _ _ h => h⟩, ⟨fun _ _ _ _ _ _ h => h, fun _ _ _ _ _ _ h => h⟩, ⟨fun _ _ _ _ _ _ h => h, fun _ _ _ _ _ _ h => h⟩, ⟨fun _ _ _ _ _ _ h => h, fun _ _ _ _ _ _ h => h⟩, trivial⟩ ⟨?_, ?_, ?_, ?_, ?_, ?_, ?_, ?_, ?_, ?_, ?_, ?_, ?_, ?_, trivial⟩ ?_
                · refine ObX.op rfl ?_
                  intro f567 wd568 he569 hout570 hphi571
                  have hS572 : St wd2 wd568 [bx b9 [(Value.int .i64 (0 : Int)), (Value.int .i64 (0 : Int)), (Value.int .i64 (0 : Int)), (Value.int .i64 (0 : Int))], bx b13 [(Value.int .i64 x514), (Value.int .i64 x515), (Value.int .i64 x32), (Value.int .i64 x33)]] := St.extend hS566 he569
                  have e573 : f567 8 = (Value.int .i64 (k29 : Int)) := (hout570 8 rfl).trans hf559
                  exact OpX.val (Value.int .i64 (k29 : Int)) wd568 rfl (op_move e573) (Ext.refl _) ⟨rfl, hr48⟩
                · refine ObX.op rfl ?_
                  intro f574 wd575 he576 hout577 hphi578
                  have hS579 : St wd2 wd575 [bx b9 [(Value.int .i64 (0 : Int)), (Value.int .i64 (0 : Int)), (Value.int .i64 (0 : Int)), (Value.int .i64 (0 : Int))], bx b13 [(Value.int .i64 x514), (Value.int .i64 x515), (Value.int .i64 x32), (Value.int .i64 x33)]] := St.extend hS566 he576
                  obtain ⟨S580, hS581, hf582⟩ := hphi578 0 64 _ rfl rfl rfl
                  obtain ⟨e583, hr584⟩ : f574 64 = (Value.int .i64 (k29 : Int)) ∧ InR .i64 (k29 : Int) := hf582
                  exact OpX.val (Value.bool ((k29 : Int) == (0 : Int))) wd575 rfl (op_eql e583 rfl) (Ext.refl _) rfl
                · refine ObX.op rfl ?_
                  intro f585 wd586 he587 hout588 hphi589
                  have hS590 : St wd2 wd586 [bx b9 [(Value.int .i64 (0 : Int)), (Value.int .i64 (0 : Int)), (Value.int .i64 (0 : Int)), (Value.int .i64 (0 : Int))], bx b13 [(Value.int .i64 x514), (Value.int .i64 x515), (Value.int .i64 x32), (Value.int .i64 x33)]] := St.extend hS566 he587
                  obtain ⟨S591, hS592, hf593⟩ := hphi589 1 65 _ rfl rfl rfl
                  have e594 : f585 65 = (Value.bool ((k29 : Int) == (0 : Int))) := hf593
                  exact OpX.val (Value.bool ((k29 : Int) == (0 : Int))) wd586 rfl (op_move e594) (Ext.refl _) rfl
                · refine ObX.op rfl ?_
                  intro f598 wd599 he600 hout601 hphi602
                  obtain ⟨S603, hS604, hf605⟩ := hphi602 2 66 _ rfl rfl rfl
                  have e606 : f598 66 = (Value.bool ((k29 : Int) == (0 : Int))) := hf605
                  exact OpX.skip (wanted_skip rfl rfl e606 hc597) rfl
                · refine ObX.op rfl ?_
                  intro f607 wd608 he609 hout610 hphi611
                  obtain ⟨S612, hS613, hf614⟩ := hphi611 2 66 _ rfl rfl rfl
                  have e615 : f607 66 = (Value.bool ((k29 : Int) == (0 : Int))) := hf614
                  exact OpX.skip (wanted_skip rfl rfl e615 hc597) rfl
                · refine ObX.op rfl ?_
                  intro f616 wd617 he618 hout619 hphi620
                  obtain ⟨S621, hS622, hf623⟩ := hphi620 2 66 _ rfl rfl rfl
                  have e624 : f616 66 = (Value.bool ((k29 : Int) == (0 : Int))) := hf623
                  exact OpX.skip (wanted_skip rfl rfl e624 hc597) rfl
                · refine ObX.op rfl ?_
                  intro f625 wd626 he627 hout628 hphi629
                  obtain ⟨S630, hS631, hf632⟩ := hphi629 2 66 _ rfl rfl rfl
                  have e633 : f625 66 = (Value.bool ((k29 : Int) == (0 : Int))) := hf632
                  exact OpX.skip (wanted_skip rfl rfl e633 hc597) rfl
                · refine ObX.op rfl ?_
                  intro f634 wd635 he636 hout637 hphi638
                  obtain ⟨S639, hS640, hf641⟩ := hphi638 2 66 _ rfl rfl rfl
                  have e642 : f634 66 = (Value.bool ((k29 : Int) == (0 : Int))) := hf641
                  exact OpX.skip (wanted_skip rfl rfl e642 hc597) rfl
                · refine ObX.op rfl ?_
                  intro f643 wd644 he645 hout646 hphi647
                  obtain ⟨S648, hS649, hf650⟩ := hphi647 2 66 _ rfl rfl rfl
                  have e651 : f643 66 = (Value.bool ((k29 : Int) == (0 : Int))) := hf650
                  exact OpX.skip (wanted_skip rfl rfl e651 hc597) rfl
                · refine ObX.op rfl ?_
                  intro f652 wd653 he654 hout655 hphi656
                  obtain ⟨S657, hS658, hf659⟩ := hphi656 2 66 _ rfl rfl rfl
                  have e660 : f652 66 = (Value.bool ((k29 : Int) == (0 : Int))) := hf659
                  exact OpX.skip (wanted_skip rfl rfl e660 hc597) rfl
                · refine ObX.op rfl ?_
                  intro f661 wd662 he663 hout664 hphi665
                  obtain ⟨S666, hS667, hf668⟩ := hphi665 2 66 _ rfl rfl rfl
                  have e669 : f661 66 = (Value.bool ((k29 : Int) == (0 : Int))) := hf668
                  exact OpX.skip (wanted_skip rfl rfl e669 hc597) rfl
                · refine ObX.op rfl ?_
                  intro f670 wd671 he672 hout673 hphi674
                  obtain ⟨S675, hS676, hf677⟩ := hphi674 2 66 _ rfl rfl rfl
                  have e678 : f670 66 = (Value.bool ((k29 : Int) == (0 : Int))) := hf677
                  exact OpX.skip (wanted_skip rfl rfl e678 hc597) rfl
                · refine ObX.op rfl ?_
                  intro f679 wd680 he681 hout682 hphi683
                  obtain ⟨S684, hS685, hf686⟩ := hphi683 2 66 _ rfl rfl rfl
                  have e687 : f679 66 = (Value.bool ((k29 : Int) == (0 : Int))) := hf686
                  exact OpX.skip (wanted_skip rfl rfl e687 hc597) rfl
                · refine ObX.op rfl ?_
                  intro f688 wd689 he690 hout691 hphi692
                  obtain ⟨S693, hS694, hf695⟩ := hphi692 2 66 _ rfl rfl rfl
                  have e696 : f688 66 = (Value.bool ((k29 : Int) == (0 : Int))) := hf695
                  exact OpX.skip (wanted_skip rfl rfl e696 hc597) rfl
                · intro f697 wd698 Ss699 he700 hout701 hSn702 hSd703 hphi704
                  show WL _ _ _ _ _ _ _
                  have hS705 : St wd2 wd698 [bx b9 [(Value.int .i64 (0 : Int)), (Value.int .i64 (0 : Int)), (Value.int .i64 (0 : Int)), (Value.int .i64 (0 : Int))], bx b13 [(Value.int .i64 x514), (Value.int .i64 x515), (Value.int .i64 x32), (Value.int .i64 x33)]] := St.extend hS566 he700
                  have e706 : f697 66 = (Value.bool ((k29 : Int) == (0 : Int))) := hphi704 2 66 _ (by decide) rfl rfl
                  have e707 : f697 67 = undef := hphi704 3 67 _ (by decide) rfl rfl
                  have e708 : f697 68 = undef := hphi704 4 68 _ (by decide) rfl rfl
                  have e709 : f697 69 = undef := hphi704 5 69 _ (by decide) rfl rfl
                  have e710 : f697 70 = undef := hphi704 6 70 _ (by decide) rfl rfl
                  have e711 : f697 71 = undef := hphi704 7 71 _ (by decide) rfl rfl
                  have e712 : f697 72 = undef := hphi704 8 72 _ (by decide) rfl rfl
                  have e713 : f697 73 = undef := hphi704 9 73 _ (by decide) rfl rfl
                  have e714 : f697 74 = undef := hphi704 10 74 _ (by decide) rfl rfl
                  have e715 : f697 75 = undef := hphi704 11 75 _ (by decide) rfl rfl
                  have e716 : f697 76 = undef := hphi704 12 76 _ (by decide) rfl rfl
                  have e717 : f697 77 = undef := hphi704 13 77 _ (by decide) rfl rfl
                  have e718 : f697 2 = v_w1 := (hout701 2 rfl).trans hf556
                  have e719 : f697 6 = (Value.pointer (some ⟨b9, 0, none⟩)) := (hout701 6 rfl).trans hf557
                  have e720 : f697 7 = (Value.pointer (some ⟨b13, 0, none⟩)) := (hout701 7 rfl).trans hf558
                  have e721 : f697 8 = (Value.int .i64 (k29 : Int)) := (hout701 8 rfl).trans hf559
                  have e722 : f697 10 = (Value.int .i64 x132) := (hout701 10 rfl).trans hf560
                  have e723 : f697 18 = u23 := (hout701 18 rfl).trans hf561
                  have e724 : f697 19 = (Value.int .i64 ((x19).length : Int)) := (hout701 19 rfl).trans hf562
                  have e725 : f697 20 = (Value.int .i64 (k29 : Int)) := (hout701 20 rfl).trans hf563
                  refine WL.gskip rfl (bool_of e706 hc597) rfl ?_
                  refine WL.val (Value.bool true) _ (op_pick_t (evb_of e706 hc597) rfl) rfl ?_
                  refine WL.nil ?_
                  obtain rfl := Option.some.inj hj596
                  exact ⟨e718, e719, e720, e721, e722, e723, e724, e725, rfl, hS705⟩
              · replace hj596 := inegb hj596 hc597
                obtain ⟨x848, hx851, hj596⟩ := bs hj596
                obtain ⟨ha849, hb850, hx851⟩ := idx_some hx851
                obtain ⟨u866, hc867, hr868⟩ := repSl.el r_w1 hx851
                obtain ⟨rfl, hr868⟩ := hr868
                refine W.drawR mixo 14 [] [fun _ v _ _ => v = (Value.int .i64 (k29 : Int)) ∧ InR .i64 (k29 : Int), fun _ v _ _ => v = (Value.bool ((k29 : Int) == (0 : Int))), fun _ v _ _ => v = (Value.bool ((k29 : Int) == (0 : Int))), fun _ v _ _ => v = (Value.int .i64 x132) ∧ InR .i64 x132, fun _ v _ _ => v = (Value.pointer (some ⟨b13, 3, none⟩)), fun _ v _ _ => v = (Value.int .i64 x33) ∧ InR .i64 x33, fun _ v _ _ => v = (Value.int .i64 (w64 (x132 * x33))) ∧ InR .i64 (w64 (x132 * x33)), fun _ v _ _ => v = (Value.pointer (some ⟨b13, 2, none⟩)), fun _ v _ _ => v = (Value.int .i64 x32) ∧ InR .i64 x32, fun _ v _ _ => v = v_w1, fun _ v _ _ => v = (Value.int .i64 (k29 : Int)) ∧ InR .i64 (k29 : Int), fun _ v _ _ => v = (Value.pointer (some (elA v_w1 ((k29 : Int)).toNat))), fun _ v _ _ => v = (Value.int .i64 x848) ∧ InR .i64 x848, fun _ v _ _ => v = (Value.int .i64 (w64 (x32 * x848))) ∧ InR .i64 (w64 (x32 * x848))] (by kernel_rfl) (by kernel_rfl) ⟨⟨fun _ _ _ _ _ _ h => h, fun _ _ _ _ _ _ h => h⟩, ⟨fun _ _ _ _ _ _ h => h, fun _ _ _ _ _ _ h => h⟩, ⟨fun _ _ _ _ _ _ h => h, fun _ _ _ _ _ _ h => h⟩, ⟨fun _ _ _ _ _ _ h => h, fun _ _ _ _ _ _ h => h⟩, ⟨fun _ _ _ _ _ _ h => h, fun _ _ _ _ _ _ h => h⟩, ⟨fun _ _ _ _ _ _ h => h, fun _ _ _ _ _ _ h => h⟩, ⟨fun _ _ _ _ _ _ h => h, fun _ _ _ _ _ _ h => h⟩, ⟨fun _ _ _ _ _ _ h => h, fun _ _ _ _ _ _ h => h⟩, ⟨fun _ _ _ _ _ _ h => h, fun _ _ _ _ _ _ h => h⟩, ⟨fun _ _ _ _ _ _ h => h, fun _ _ _ _ _ _ h => h⟩, ⟨fun _ _ _ _ _ _ h => h, fun _ _ _ _ _ _ h => h⟩, ⟨fun _ _ _ _ _ _ h => h, fun _ _ _ _ _ _ h => h⟩, ⟨fun _ _ _ _ _ _ h => h, fun _ _ _ _ _ _ h => h⟩, ⟨fun _ _ _ _ _ _ h => h, fun _ _ _ _ _ _ h => h⟩, trivial⟩ ⟨?_, ?_, ?_, ?_, ?_, ?_, ?_, ?_, ?_, ?_, ?_, ?_, ?_, ?_, trivial⟩ ?_
                · refine ObX.op rfl ?_
                  intro f567 wd568 he569 hout570 hphi571
                  have hS572 : St wd2 wd568 [bx b9 [(Value.int .i64 (0 : Int)), (Value.int .i64 (0 : Int)), (Value.int .i64 (0 : Int)), (Value.int .i64 (0 : Int))], bx b13 [(Value.int .i64 x514), (Value.int .i64 x515), (Value.int .i64 x32), (Value.int .i64 x33)]] := St.extend hS566 he569
                  have e573 : f567 8 = (Value.int .i64 (k29 : Int)) := (hout570 8 rfl).trans hf559
                  exact OpX.val (Value.int .i64 (k29 : Int)) wd568 rfl (op_move e573) (Ext.refl _) ⟨rfl, hr48⟩
                · refine ObX.op rfl ?_
                  intro f574 wd575 he576 hout577 hphi578
                  have hS579 : St wd2 wd575 [bx b9 [(Value.int .i64 (0 : Int)), (Value.int .i64 (0 : Int)), (Value.int .i64 (0 : Int)), (Value.int .i64 (0 : Int))], bx b13 [(Value.int .i64 x514), (Value.int .i64 x515), (Value.int .i64 x32), (Value.int .i64 x33)]] := St.extend hS566 he576
                  obtain ⟨S580, hS581, hf582⟩ := hphi578 0 64 _ rfl rfl rfl
                  obtain ⟨e583, hr584⟩ : f574 64 = (Value.int .i64 (k29 : Int)) ∧ InR .i64 (k29 : Int) := hf582
                  exact OpX.val (Value.bool ((k29 : Int) == (0 : Int))) wd575 rfl (op_eql e583 rfl) (Ext.refl _) rfl
                · refine ObX.op rfl ?_
                  intro f585 wd586 he587 hout588 hphi589
                  have hS590 : St wd2 wd586 [bx b9 [(Value.int .i64 (0 : Int)), (Value.int .i64 (0 : Int)), (Value.int .i64 (0 : Int)), (Value.int .i64 (0 : Int))], bx b13 [(Value.int .i64 x514), (Value.int .i64 x515), (Value.int .i64 x32), (Value.int .i64 x33)]] := St.extend hS566 he587
                  obtain ⟨S591, hS592, hf593⟩ := hphi589 1 65 _ rfl rfl rfl
                  have e594 : f585 65 = (Value.bool ((k29 : Int) == (0 : Int))) := hf593
                  exact OpX.val (Value.bool ((k29 : Int) == (0 : Int))) wd586 rfl (op_move e594) (Ext.refl _) rfl
                · refine ObX.op rfl ?_
                  intro f726 wd727 he728 hout729 hphi730
                  have hS731 : St wd2 wd727 [bx b9 [(Value.int .i64 (0 : Int)), (Value.int .i64 (0 : Int)), (Value.int .i64 (0 : Int)), (Value.int .i64 (0 : Int))], bx b13 [(Value.int .i64 x514), (Value.int .i64 x515), (Value.int .i64 x32), (Value.int .i64 x33)]] := St.extend hS566 he728
                  have e732 : f726 10 = (Value.int .i64 x132) := (hout729 10 rfl).trans hf560
                  obtain ⟨S733, hS734, hf735⟩ := hphi730 2 66 _ rfl rfl rfl
                  have e736 : f726 66 = (Value.bool ((k29 : Int) == (0 : Int))) := hf735
                  exact OpX.val (Value.int .i64 x132) wd727 (wanted_run rfl rfl e736 hc597) (op_move e732) (Ext.refl _) ⟨rfl, hr138⟩
                · refine ObX.op rfl ?_
                  intro f737 wd738 he739 hout740 hphi741
                  have hS742 : St wd2 wd738 [bx b9 [(Value.int .i64 (0 : Int)), (Value.int .i64 (0 : Int)), (Value.int .i64 (0 : Int)), (Value.int .i64 (0 : Int))], bx b13 [(Value.int .i64 x514), (Value.int .i64 x515), (Value.int .i64 x32), (Value.int .i64 x33)]] := St.extend hS566 he739
                  have e743 : f737 7 = (Value.pointer (some ⟨b13, 0, none⟩)) := (hout740 7 rfl).trans hf558
                  obtain ⟨S744, hS745, hf746⟩ := hphi741 2 66 _ rfl rfl rfl
                  have e747 : f737 66 = (Value.bool ((k29 : Int) == (0 : Int))) := hf746
                  exact OpX.val (Value.pointer (some ⟨b13, 3, none⟩)) wd738 (wanted_run rfl rfl e747 hc597) (op_fieldAddr fd_42_3 e743) (Ext.refl _) rfl
                · refine ObX.op rfl ?_
                  intro f748 wd749 he750 hout751 hphi752
                  have hS753 : St wd2 wd749 [bx b9 [(Value.int .i64 (0 : Int)), (Value.int .i64 (0 : Int)), (Value.int .i64 (0 : Int)), (Value.int .i64 (0 : Int))], bx b13 [(Value.int .i64 x514), (Value.int .i64 x515), (Value.int .i64 x32), (Value.int .i64 x33)]] := St.extend hS566 he750
                  obtain ⟨S754, hS755, hf756⟩ := hphi752 2 66 _ rfl rfl rfl
                  have e757 : f748 66 = (Value.bool ((k29 : Int) == (0 : Int))) := hf756
                  obtain ⟨S758, hS759, hf760⟩ := hphi752 4 68 _ rfl rfl rfl
                  have e761 : f748 68 = (Value.pointer (some ⟨b13, 3, none⟩)) := hf760
                  exact OpX.val (Value.int .i64 x33) wd749 (wanted_run rfl rfl e757 hc597) (op_load one_2 e761 (BoxAt.cell (St.boxAt hS753 1 rfl) rfl)) (Ext.refl _) ⟨rfl, hr52⟩
                · refine ObX.op rfl ?_
                  intro f762 wd763 he764 hout765 hphi766
                  have hS767 : St wd2 wd763 [bx b9 [(Value.int .i64 (0 : Int)), (Value.int .i64 (0 : Int)), (Value.int .i64 (0 : Int)), (Value.int .i64 (0 : Int))], bx b13 [(Value.int .i64 x514), (Value.int .i64 x515), (Value.int .i64 x32), (Value.int .i64 x33)]] := St.extend hS566 he764
                  obtain ⟨S768, hS769, hf770⟩ := hphi766 2 66 _ rfl rfl rfl
                  have e771 : f762 66 = (Value.bool ((k29 : Int) == (0 : Int))) := hf770
                  obtain ⟨S772, hS773, hf774⟩ := hphi766 3 67 _ rfl rfl rfl
                  obtain ⟨e775, hr776⟩ : f762 67 = (Value.int .i64 x132) ∧ InR .i64 x132 := hf774
                  obtain ⟨S777, hS778, hf779⟩ := hphi766 5 69 _ rfl rfl rfl
                  obtain ⟨e780, hr781⟩ : f762 69 = (Value.int .i64 x33) ∧ InR .i64 x33 := hf779
                  exact OpX.val (Value.int .i64 (w64 (x132 * x33))) wd763 (wanted_run rfl rfl e771 hc597) (op_mul e775 e780) (Ext.refl _) ⟨rfl, (inR_wrap _ _)⟩
                · refine ObX.op rfl ?_
                  intro f782 wd783 he784 hout785 hphi786
                  have hS787 : St wd2 wd783 [bx b9 [(Value.int .i64 (0 : Int)), (Value.int .i64 (0 : Int)), (Value.int .i64 (0 : Int)), (Value.int .i64 (0 : Int))], bx b13 [(Value.int .i64 x514), (Value.int .i64 x515), (Value.int .i64 x32), (Value.int .i64 x33)]] := St.extend hS566 he784
                  have e788 : f782 7 = (Value.pointer (some ⟨b13, 0, none⟩)) := (hout785 7 rfl).trans hf558
                  obtain ⟨S789, hS790, hf791⟩ := hphi786 2 66 _ rfl rfl rfl
                  have e792 : f782 66 = (Value.bool ((k29 : Int) == (0 : Int))) := hf791
                  exact OpX.val (Value.pointer (some ⟨b13, 2, none⟩)) wd783 (wanted_run rfl rfl e792 hc597) (op_fieldAddr fd_42_2 e788) (Ext.refl _) rfl
                · refine ObX.op rfl ?_
                  intro f793 wd794 he795 hout796 hphi797
                  have hS798 : St wd2 wd794 [bx b9 [(Value.int .i64 (0 : Int)), (Value.int .i64 (0 : Int)), (Value.int .i64 (0 : Int)), (Value.int .i64 (0 : Int))], bx b13 [(Value.int .i64 x514), (Value.int .i64 x515), (Value.int .i64 x32), (Value.int .i64 x33)]] := St.extend hS566 he795
                  obtain ⟨S799, hS800, hf801⟩ := hphi797 2 66 _ rfl rfl rfl
                  have e802 : f793 66 = (Value.bool ((k29 : Int) == (0 : Int))) := hf801
                  obtain ⟨S803, hS804, hf805⟩ := hphi797 7 71 _ rfl rfl rfl
                  have e806 : f793 71 = (Value.pointer (some ⟨b13, 2, none⟩)) := hf805
                  exact OpX.val (Value.int .i64 x32) wd794 (wanted_run rfl rfl e802 hc597) (op_load one_2 e806 (BoxAt.cell (St.boxAt hS798 1 rfl) rfl)) (Ext.refl _) ⟨rfl, hr51⟩
                · refine ObX.op rfl ?_
                  intro f807 wd808 he809 hout810 hphi811
                  have hS812 : St wd2 wd808 [bx b9 [(Value.int .i64 (0 : Int)), (Value.int .i64 (0 : Int)), (Value.int .i64 (0 : Int)), (Value.int .i64 (0 : Int))], bx b13 [(Value.int .i64 x514), (Value.int .i64 x515), (Value.int .i64 x32), (Value.int .i64 x33)]] := St.extend hS566 he809
                  have e813 : f807 2 = v_w1 := (hout810 2 rfl).trans hf556
                  obtain ⟨S814, hS815, hf816⟩ := hphi811 2 66 _ rfl rfl rfl
                  have e817 : f807 66 = (Value.bool ((k29 : Int) == (0 : Int))) := hf816
                  exact OpX.val v_w1 wd808 (wanted_run rfl rfl e817 hc597) (op_move e813) (Ext.refl _) rfl
                · refine ObX.op rfl ?_
                  intro f818 wd819 he820 hout821 hphi822
                  have hS823 : St wd2 wd819 [bx b9 [(Value.int .i64 (0 : Int)), (Value.int .i64 (0 : Int)), (Value.int .i64 (0 : Int)), (Value.int .i64 (0 : Int))], bx b13 [(Value.int .i64 x514), (Value.int .i64 x515), (Value.int .i64 x32), (Value.int .i64 x33)]] := St.extend hS566 he820
                  have e824 : f818 8 = (Value.int .i64 (k29 : Int)) := (hout821 8 rfl).trans hf559
                  obtain ⟨S825, hS826, hf827⟩ := hphi822 2 66 _ rfl rfl rfl
                  have e828 : f818 66 = (Value.bool ((k29 : Int) == (0 : Int))) := hf827
                  exact OpX.val (Value.int .i64 (k29 : Int)) wd819 (wanted_run rfl rfl e828 hc597) (op_move e824) (Ext.refl _) ⟨rfl, hr48⟩
                · refine ObX.op rfl ?_
                  intro f829 wd830 he831 hout832 hphi833
                  have hS834 : St wd2 wd830 [bx b9 [(Value.int .i64 (0 : Int)), (Value.int .i64 (0 : Int)), (Value.int .i64 (0 : Int)), (Value.int .i64 (0 : Int))], bx b13 [(Value.int .i64 x514), (Value.int .i64 x515), (Value.int .i64 x32), (Value.int .i64 x33)]] := St.extend hS566 he831
                  obtain ⟨S835, hS836, hf837⟩ := hphi833 2 66 _ rfl rfl rfl
                  have e838 : f829 66 = (Value.bool ((k29 : Int) == (0 : Int))) := hf837
                  obtain ⟨S839, hS840, hf841⟩ := hphi833 9 73 _ rfl rfl rfl
                  have e842 : f829 73 = v_w1 := hf841
                  obtain ⟨S843, hS844, hf845⟩ := hphi833 10 74 _ rfl rfl rfl
                  obtain ⟨e846, hr847⟩ : f829 74 = (Value.int .i64 (k29 : Int)) ∧ InR .i64 (k29 : Int) := hf845
                  exact OpX.val (Value.pointer (some (elA v_w1 ((k29 : Int)).toNat))) wd830 (wanted_run rfl rfl e838 hc597) (op_idx sl_35 (Ty.lift _ (Ext.trans hE7 hS834.ext) r_w1) e842 e846 ha849 hb850) (Ext.refl _) rfl
                · refine ObX.op rfl ?_
                  intro f852 wd853 he854 hout855 hphi856
                  have hS857 : St wd2 wd853 [bx b9 [(Value.int .i64 (0 : Int)), (Value.int .i64 (0 : Int)), (Value.int .i64 (0 : Int)), (Value.int .i64 (0 : Int))], bx b13 [(Value.int .i64 x514), (Value.int .i64 x515), (Value.int .i64 x32), (Value.int .i64 x33)]] := St.extend hS566 he854
                  obtain ⟨S858, hS859, hf860⟩ := hphi856 2 66 _ rfl rfl rfl
                  have e861 : f852 66 = (Value.bool ((k29 : Int) == (0 : Int))) := hf860
                  obtain ⟨S862, hS863, hf864⟩ := hphi856 11 75 _ rfl rfl rfl
                  have e865 : f852 75 = (Value.pointer (some (elA v_w1 ((k29 : Int)).toNat))) := hf864
                  exact OpX.val (Value.int .i64 x848) wd853 (wanted_run rfl rfl e861 hc597) (op_load one_2 e865 (Ext.cell (Ext.trans hE7 hS857.ext) hc867)) (Ext.refl _) ⟨rfl, hr868⟩
                · refine ObX.op rfl ?_
                  intro f869 wd870 he871 hout872 hphi873
                  have hS874 : St wd2 wd870 [bx b9 [(Value.int .i64 (0 : Int)), (Value.int .i64 (0 : Int)), (Value.int .i64 (0 : Int)), (Value.int .i64 (0 : Int))], bx b13 [(Value.int .i64 x514), (Value.int .i64 x515), (Value.int .i64 x32), (Value.int .i64 x33)]] := St.extend hS566 he871
                  obtain ⟨S875, hS876, hf877⟩ := hphi873 2 66 _ rfl rfl rfl
                  have e878 : f869 66 = (Value.bool ((k29 : Int) == (0 : Int))) := hf877
                  obtain ⟨S879, hS880, hf881⟩ := hphi873 8 72 _ rfl rfl rfl
                  obtain ⟨e882, hr883⟩ : f869 72 = (Value.int .i64 x32) ∧ InR .i64 x32 := hf881
                  obtain ⟨S884, hS885, hf886⟩ := hphi873 12 76 _ rfl rfl rfl
                  obtain ⟨e887, hr888⟩ : f869 76 = (Value.int .i64 x848) ∧ InR .i64 x848 := hf886
                  exact OpX.val (Value.int .i64 (w64 (x32 * x848))) wd870 (wanted_run rfl rfl e878 hc597) (op_mul e882 e887) (Ext.refl _) ⟨rfl, (inR_wrap _ _)⟩
                · intro f889 wd890 Ss891 he892 hout893 hSn894 hSd895 hphi896
                  show WL _ _ _ _ _ _ _
                  have hS897 : St wd2 wd890 [bx b9 [(Value.int .i64 (0 : Int)), (Value.int .i64 (0 : Int)), (Value.int .i64 (0 : Int)), (Value.int .i64 (0 : Int))], bx b13 [(Value.int .i64 x514), (Value.int .i64 x515), (Value.int .i64 x32), (Value.int .i64 x33)]] := St.extend hS566 he892
                  have e898 : f889 66 = (Value.bool ((k29 : Int) == (0 : Int))) := hphi896 2 66 _ (by decide) rfl rfl
                  obtain ⟨e899, hr900⟩ : f889 67 = (Value.int .i64 x132) ∧ InR .i64 x132 := hphi896 3 67 _ (by decide) rfl rfl
                  have e901 : f889 68 = (Value.pointer (some ⟨b13, 3, none⟩)) := hphi896 4 68 _ (by decide) rfl rfl
                  obtain ⟨e902, hr903⟩ : f889 69 = (Value.int .i64 x33) ∧ InR .i64 x33 := hphi896 5 69 _ (by decide) rfl rfl
                  obtain ⟨e904, hr905⟩ : f889 70 = (Value.int .i64 (w64 (x132 * x33))) ∧ InR .i64 (w64 (x132 * x33)) := hphi896 6 70 _ (by decide) rfl rfl
                  have e906 : f889 71 = (Value.pointer (some ⟨b13, 2, none⟩)) := hphi896 7 71 _ (by decide) rfl rfl
                  obtain ⟨e907, hr908⟩ : f889 72 = (Value.int .i64 x32) ∧ InR .i64 x32 := hphi896 8 72 _ (by decide) rfl rfl
                  have e909 : f889 73 = v_w1 := hphi896 9 73 _ (by decide) rfl rfl
                  obtain ⟨e910, hr911⟩ : f889 74 = (Value.int .i64 (k29 : Int)) ∧ InR .i64 (k29 : Int) := hphi896 10 74 _ (by decide) rfl rfl
                  have e912 : f889 75 = (Value.pointer (some (elA v_w1 ((k29 : Int)).toNat))) := hphi896 11 75 _ (by decide) rfl rfl
                  obtain ⟨e913, hr914⟩ : f889 76 = (Value.int .i64 x848) ∧ InR .i64 x848 := hphi896 12 76 _ (by decide) rfl rfl
                  obtain ⟨e915, hr916⟩ : f889 77 = (Value.int .i64 (w64 (x32 * x848))) ∧ InR .i64 (w64 (x32 * x848)) := hphi896 13 77 _ (by decide) rfl rfl
                  have e917 : f889 2 = v_w1 := (hout893 2 rfl).trans hf556
                  have e918 : f889 6 = (Value.pointer (some ⟨b9, 0, none⟩)) := (hout893 6 rfl).trans hf557
                  have e919 : f889 7 = (Value.pointer (some ⟨b13, 0, none⟩)) := (hout893 7 rfl).trans hf558
                  have e920 : f889 8 = (Value.int .i64 (k29 : Int)) := (hout893 8 rfl).trans hf559
                  have e921 : f889 10 = (Value.int .i64 x132) := (hout893 10 rfl).trans hf560
                  have e922 : f889 18 = u23 := (hout893 18 rfl).trans hf561
                  have e923 : f889 19 = (Value.int .i64 ((x19).length : Int)) := (hout893 19 rfl).trans hf562
                  have e924 : f889 20 = (Value.int .i64 (k29 : Int)) := (hout893 20 rfl).trans hf563
                  refine WL.grun rfl (bool_of e898 hc597) ?_
                  refine WL.val (Value.bool (decide ((w64 (x132 * x33)) > (w64 (x32 * x848))))) _ (op_gtr e904 e915) rfl ?_
                  refine WL.val (Value.bool (decide ((w64 (x132 * x33)) > (w64 (x32 * x848))))) _ (op_pick_f (evb_of e898 hc597) rfl) rfl ?_
                  refine WL.nil ?_
                  obtain rfl := Option.some.inj hj596
                  exact ⟨e917, e918, e919, e920, e921, e922, e923, e924, rfl, hS897⟩
            · intro f925 wd926 hq927
              obtain ⟨hf928, hf929, hf930, hf931, hf932, hf933, hf934, hf935, hf936, hS937⟩ := hq927
              show W _ _ _ _ _ _
              obtain ⟨⟨x938, x939⟩, hj940, hb38⟩ := bs hb38
              refine W.cutCode (fun fq wq => fq 2 = v_w1 ∧ fq 6 = (Value.pointer (some ⟨b9, 0, none⟩)) ∧ fq 7 = (Value.pointer (some ⟨b13, 0, none⟩)) ∧ fq 18 = u23 ∧ fq 19 = (Value.int .i64 ((x19).length : Int)) ∧ fq 20 = (Value.int .i64 (k29 : Int)) ∧ InR .i64 x938 ∧ InR .i64 x939 ∧ St wd2 wq [bx b9 [(Value.int .i64 (0 : Int)), (Value.int .i64 (0 : Int)), (Value.int .i64 (0 : Int)), (Value.int .i64 (0 : Int))], bx b13 [(Value.int .i64 x514), (Value.int .i64 x515), (Value.int .i64 x938), (Value.int .i64 x939)]]) ?_ ?_
              · refine W.cond x595 hf936 (fun hc941 => ?_) (fun hc941 => ?_)
                · replace hj940 := ip hj940 hc941
                  obtain ⟨x945, hx948, hj940⟩ := bs hj940
                  obtain ⟨ha946, hb947, hx948⟩ := idx_some hx948
                  refine W.cutCode (fun fq wq => fq 2 = v_w1 ∧ fq 6 = (Value.pointer (some ⟨b9, 0, none⟩)) ∧ fq 7 = (Value.pointer (some ⟨b13, 0, none⟩)) ∧ fq 18 = u23 ∧ fq 19 = (Value.int .i64 ((x19).length : Int)) ∧ fq 20 = (Value.int .i64 (k29 : Int)) ∧ InR .i64 x132 ∧ InR .i64 x945 ∧ St wd2 wq [bx b9 [(Value.int .i64 (0 : Int)), (Value.int .i64 (0 : Int)), (Value.int .i64 (0 : Int)), (Value.int .i64 (0 : Int))], bx b13 [(Value.int .i64 x514), (Value.int .i64 x515), (Value.int .i64 x132), (Value.int .i64 x945)]]) ?_ ?_
                  · refine W.orders mixo ?_
                    intro wd942 he943
                    have hS944 : St wd2 wd942 [bx b9 [(Value.int .i64 (0 : Int)), (Value.int .i64 (0 : Int)), (Value.int .i64 (0 : Int)), (Value.int .i64 (0 : Int))], bx b13 [(Value.int .i64 x514), (Value.int .i64 x515), (Value.int .i64 x32), (Value.int .i64 x33)]] := St.extend hS937 he943
                    refine WA.take (Value.int .i64 x132) (i := 0) rfl rfl rfl rfl (by kernel_rfl) (fun _ => (op_move hf932)) ?_
                    refine WA.take v_w1 (i := 1) rfl rfl rfl rfl (by kernel_rfl) (fun _ => (op_move hf928)) ?_
                    refine WA.take (Value.int .i64 (k29 : Int)) (i := 2) rfl rfl rfl rfl (by kernel_rfl) (fun _ => (op_move hf931)) ?_
                    refine WA.take (Value.pointer (some (elA v_w1 ((k29 : Int)).toNat))) (i := 3) rfl rfl rfl rfl (by kernel_rfl) (op_idxA sl_35 (Ty.lift _ (Ext.trans hE7 hS944.ext) r_w1) rfl rfl ha946 hb947) ?_
                    refine WA.take (Value.pointer (some ⟨b13, 2, none⟩)) (i := 5) rfl rfl rfl rfl (by kernel_rfl) (fun _ => (op_fieldAddr fd_42_2 hf930)) ?_
                    refine WA.all [4, 6] (by kernel_rfl) rfl ⟨⟨_, rfl, ?_⟩, ⟨_, rfl, ?_⟩, trivial⟩
                    · obtain ⟨u949, hc950, hr951⟩ := repSl.el r_w1 hx948
                      obtain ⟨rfl, hr951⟩ := hr951
                      refine WL.val (Value.int .i64 x945) _ (op_load one_2 rfl (Ext.cell (Ext.trans hE7 hS944.ext) hc950)) rfl ?_
                      refine WL.nil ?_
                      show WA _ _ _ _ _ _ _ _
                      refine WA.all [6] (by kernel_rfl) rfl ⟨⟨_, rfl, ?_⟩, trivial⟩
                      · refine WL.storeBox [(Value.int .i64 x514), (Value.int .i64 x515), (Value.int .i64 x132), (Value.int .i64 x33)] hS944 (k := 1) rfl rfl rfl (us := [(Value.int .i64 x132)]) rfl sz_2 rfl rfl (all_cons rfl all_nil) rfl ?_
                        intro wd952 hS953
                        replace hS953 : St wd2 wd952 [bx b9 [(Value.int .i64 (0 : Int)), (Value.int .i64 (0 : Int)), (Value.int .i64 (0 : Int)), (Value.int .i64 (0 : Int))], bx b13 [(Value.int .i64 x514), (Value.int .i64 x515), (Value.int .i64 x132), (Value.int .i64 x33)]] := hS953
                        refine WL.nil ?_
                        show WA _ _ _ _ _ _ _ _
                        refine WA.take (Value.pointer (some ⟨b13, 3, none⟩)) (i := 7) rfl rfl rfl rfl (by kernel_rfl) (fun _ => (op_fieldAddr fd_42_3 hf930)) ?_
                        refine WA.all [8] (by kernel_rfl) rfl ⟨⟨_, rfl, ?_⟩, trivial⟩
                        · refine WL.storeBox [(Value.int .i64 x514), (Value.int .i64 x515), (Value.int .i64 x132), (Value.int .i64 x945)] hS953 (k := 1) rfl rfl rfl (us := [(Value.int .i64 x945)]) rfl sz_2 rfl rfl (all_cons rfl all_nil) rfl ?_
                          intro wd954 hS955
                          replace hS955 : St wd2 wd954 [bx b9 [(Value.int .i64 (0 : Int)), (Value.int .i64 (0 : Int)), (Value.int .i64 (0 : Int)), (Value.int .i64 (0 : Int))], bx b13 [(Value.int .i64 x514), (Value.int .i64 x515), (Value.int .i64 x132), (Value.int .i64 x945)]] := hS955
                          refine WL.nil ?_
                          show WA _ _ _ _ _ _ _ _
                          refine WA.done (by kernel_rfl) ?_
                          exact ⟨hf928, hf929, hf930, hf933, hf934, hf935, hr138, hr951, hS955⟩
                    · refine WL.storeBox [(Value.int .i64 x514), (Value.int .i64 x515), (Value.int .i64 x132), (Value.int .i64 x33)] hS944 (k := 1) rfl rfl rfl (us := [(Value.int .i64 x132)]) rfl sz_2 rfl rfl (all_cons rfl all_nil) rfl ?_
                      intro wd956 hS957
                      replace hS957 : St wd2 wd956 [bx b9 [(Value.int .i64 (0 : Int)), (Value.int .i64 (0 : Int)), (Value.int .i64 (0 : Int)), (Value.int .i64 (0 : Int))], bx b13 [(Value.int .i64 x514), (Value.int .i64 x515), (Value.int .i64 x132), (Value.int .i64 x33)]] := hS957
                      refine WL.nil ?_
                      show WA _ _ _ _ _ _ _ _
                      refine WA.all [4] (by kernel_rfl) rfl ⟨⟨_, rfl, ?_⟩, trivial⟩
                      · obtain ⟨u958, hc959, hr960⟩ := repSl.el r_w1 hx948
                        obtain ⟨rfl, hr960⟩ := hr960
                        refine WL.val (Value.int .i64 x945) _ (op_load one_2 rfl (Ext.cell (Ext.trans hE7 hS957.ext) hc959)) rfl ?_
                        refine WL.nil ?_
                        show WA _ _ _ _ _ _ _ _
                        refine WA.take (Value.pointer (some ⟨b13, 3, none⟩)) (i := 7) rfl rfl rfl rfl (by kernel_rfl) (fun _ => (op_fieldAddr fd_42_3 hf930)) ?_
                        refine WA.all [8] (by kernel_rfl) rfl ⟨⟨_, rfl, ?_⟩, trivial⟩
                        · refine WL.storeBox [(Value.int .i64 x514), (Value.int .i64 x515), (Value.int .i64 x132), (Value.int .i64 x945)] hS957 (k := 1) rfl rfl rfl (us := [(Value.int .i64 x945)]) rfl sz_2 rfl rfl (all_cons rfl all_nil) rfl ?_
                          intro wd961 hS962
                          replace hS962 : St wd2 wd961 [bx b9 [(Value.int .i64 (0 : Int)), (Value.int .i64 (0 : Int)), (Value.int .i64 (0 : Int)), (Value.int .i64 (0 : Int))], bx b13 [(Value.int .i64 x514), (Value.int .i64 x515), (Value.int .i64 x132), (Value.int .i64 x945)]] := hS962
                          refine WL.nil ?_
                          show WA _ _ _ _ _ _ _ _
                          refine WA.done (by kernel_rfl) ?_
                          exact ⟨hf928, hf929, hf930, hf933, hf934, hf935, hr138, hr960, hS962⟩
                  · intro f963 wd964 hq965
                    obtain ⟨hf966, hf967, hf968, hf969, hf970, hf971, hr972, hr973, hS974⟩ := hq965
                    simp only [Option.some.injEq, Prod.mk.injEq] at hj940
                    obtain ⟨rfl, rfl⟩ := hj940
                    exact ⟨hf966, hf967, hf968, hf969, hf970, hf971, hr972, hr973, hS974⟩
                · replace hj940 := inegb hj940 hc941
                  refine W.skip ?_
                  simp only [Option.some.injEq, Prod.mk.injEq] at hj940
                  obtain ⟨rfl, rfl⟩ := hj940
                  exact ⟨hf928, hf929, hf930, hf933, hf934, hf935, hr51, hr52, hS937⟩
              · intro f975 wd976 hq977
                obtain ⟨hf978, hf979, hf980, hf981, hf982, hf983, hr984, hr985, hS986⟩ := hq977
                show W _ _ _ _ _ _
                refine W.region ?_
                refine WL.val (Value.int .i64 (w64 ((k29 : Int) + (1 : Int)))) _ (op_add hf983 rfl) rfl ?_
                refine WL.val (Value.int .i64 (w64 ((k29 : Int) + (1 : Int)))) _ (op_move rfl) rfl ?_
                refine WL.nil ?_
                obtain rfl := Option.some.inj hb38
                show ∃ s, _ = Ctl.next s ∧ _
                exact ⟨_, rfl, hf978, hf979, hf980, hf981, hf982, (ctr_next hl54 hr26), (ctr_rng hl54 hr26), hr564, hr565, hr984, hr985, hS986⟩
    · intro s993 f989 wd990 hs991 hI992
      obtain ⟨x994, x995, x996, x997⟩ := s993
      replace hI992 : f989 2 = v_w1 ∧ f989 6 = (Value.pointer (some ⟨b9, 0, none⟩)) ∧ f989 7 = (Value.pointer (some ⟨b13, 0, none⟩)) ∧ f989 18 = u23 ∧ f989 19 = (Value.int .i64 ((x19).length : Int)) ∧ f989 20 = Value.int .i64 (((x19).length : Nat) : Int) ∧ InR .i64 (((x19).length : Nat) : Int) ∧ InR .i64 x994 ∧ InR .i64 x995 ∧ InR .i64 x996 ∧ InR .i64 x997 ∧ St wd2 wd990 [bx b9 [(Value.int .i64 (0 : Int)), (Value.int .i64 (0 : Int)), (Value.int .i64 (0 : Int)), (Value.int .i64 (0 : Int))], bx b13 [(Value.int .i64 x994), (Value.int .i64 x995), (Value.int .i64 x996), (Value.int .i64 x997)]] := hI992
      obtain ⟨hf998, hf999, hf1000, hf1001, hf1002, hf1003, hr1004, hr1005, hr1006, hr1007, hr1008, hS1009⟩ := hI992
      refine W.seq (W.region ?_)
      refine WL.val (Value.bool (decide ((((x19).length : Nat) : Int) < ((x19).length : Int)))) _ (op_lss hf1003 hf1002) rfl ?_
      have hl1010 : ¬ (((x19).length : Nat) : Int) < ((x19).length : Int) := by omega
      refine WL.nil ?_
      show W _ _ _ _ _ _
      refine W.seq ?_
      refine W.condF (decide ((((x19).length : Nat) : Int) < ((x19).length : Int))) rfl (decide_eq_false hl1010) ?_
      refine W.exit ?_
      show _ = _ ∧ _
      exact ⟨rfl, _, hs991, hf999, hf1000, hr1005, hr1006, hr1007, hr1008, hS1009⟩
  · rintro f1011 wd1012 ⟨s1014, rfl, hq1013⟩
    replace h := onRes_fin h
    obtain ⟨x1015, x1016, x1017, x1018⟩ := s1014
    replace hq1013 : f1011 6 = (Value.pointer (some ⟨b9, 0, none⟩)) ∧ f1011 7 = (Value.pointer (some ⟨b13, 0, none⟩)) ∧ InR .i64 x1015 ∧ InR .i64 x1016 ∧ InR .i64 x1017 ∧ InR .i64 x1018 ∧ St wd2 wd1012 [bx b9 [(Value.int .i64 (0 : Int)), (Value.int .i64 (0 : Int)), (Value.int .i64 (0 : Int)), (Value.int .i64 (0 : Int))], bx b13 [(Value.int .i64 x1015), (Value.int .i64 x1016), (Value.int .i64 x1017), (Value.int .i64 x1018)]] := hq1013
    replace h : (_ : Option _) = _ := h
    dsimp only at h
    obtain ⟨hf1019, hf1020, hr1021, hr1022, hr1023, hr1024, hS1025⟩ := hq1013
    show W _ _ _ _ _ _
    refine W.seq (W.region ?_)
    refine WL.val (Value.agg #[(Value.int .i64 x1015), (Value.int .i64 x1016), (Value.int .i64 x1017), (Value.int .i64 x1018)]) _ (op_loadBox st_42 hf1020 (St.boxAt hS1025 1 rfl) rfl rfl) rfl ?_
    refine WL.storeBox [(Value.int .i64 x1015), (Value.int .i64 x1016), (Value.int .i64 x1017), (Value.int .i64 x1018)] hS1025 (k := 0) rfl hf1019 rfl (us := [(Value.int .i64 x1015), (Value.int .i64 x1016), (Value.int .i64 x1017), (Value.int .i64 x1018)]) rfl sz_42 rfl rfl (all_cons rfl (all_cons rfl (all_cons rfl (all_cons rfl all_nil)))) rfl ?_
    intro wd1026 hS1027
    replace hS1027 : St wd2 wd1026 [bx b9 [(Value.int .i64 x1015), (Value.int .i64 x1016), (Value.int .i64 x1017), (Value.int .i64 x1018)], bx b13 [(Value.int .i64 x1015), (Value.int .i64 x1016), (Value.int .i64 x1017), (Value.int .i64 x1018)]] := hS1027
    refine WL.nil ?_
    show W _ _ _ _ _ _
    refine W.ret ?_
    obtain rfl := Option.some.inj h
    show FinP _ _ _ _ _ _ _
    exact FinP.ret _ (resC rfl hf1019 st_42 (St.boxAt hS1027 0 rfl) rfl) ⟨rfl, hr1021, hr1022, hr1023, hr1024, (Ext.trans hE7 hS1027.ext)⟩

theorem c_impl_BoundsOf {w : World} {r_Table : (List (List (List Int)))} {v_r_Table : Value} {i : Int} {t : Int} (r_r_Table : (Ty.sl (Ty.sl (Ty.sl (Ty.i .i64)))).rep w v_r_Table r_Table) (r_i : InR .i64 i) (r_t : InR .i64 t) {res : Int × Int × Int × Int × Int} (h : p_impl_BoundsOf r_Table i t  = some res) :
    Ret Try.prog 25 #[(Value.agg #[v_r_Table]), (Value.int .i64 i), (Value.int .i64 t)] w (fun v w' => v = (Value.tuple #[(Value.agg #[Value.int .i64 res.1, Value.int .i64 res.2.1, Value.int .i64 res.2.2.1, Value.int .i64 res.2.2.2.1]), Value.int .i64 res.2.2.2.2]) ∧ InR .i64 res.1 ∧ InR .i64 res.2.1 ∧ InR .i64 res.2.2.1 ∧ InR .i64 res.2.2.2.1 ∧ InR .i64 res.2.2.2.2 ∧ Ext w w') := by
  unfold p_impl_BoundsOf at h
  have hS0 : St w w [] := St.start w
  refine Ret.start (fn := Try.f25) Try.func25 rfl 38 rfl rfl ?_
  refine W.seq (W.region ?_)
  refine WL.box hS0 rfl (cs := [v_r_Table]) rfl rfl ?_
  intro b1 wd2 hS3 he4 hx5
  replace hS3 : St w wd2 [bx b1 [v_r_Table]] := hS3
  have hx6 := St.boxAt hS3 0 rfl
  have hE7 : Ext w wd2 := hS3.ext
  have hS8 : St wd2 wd2 [] := St.start wd2
  refine WL.alloc hS8 ze_42 (cs := [(Value.int .i64 (0 : Int)), (Value.int .i64 (0 : Int)), (Value.int .i64 (0 : Int)), (Value.int .i64 (0 : Int))]) rfl rfl ?_
  intro b9 wd10 hS11 he12
  replace hS11 : St wd2 wd10 [bx b9 [(Value.int .i64 (0 : Int)), (Value.int .i64 (0 : Int)), (Value.int .i64 (0 : Int)), (Value.int .i64 (0 : Int))]] := hS11
  refine WL.val (Value.int .i64 (0 : Int)) _ (op_assign rfl) rfl ?_
  refine WL.nil ?_
  show W _ _ _ _ _ _
  refine W.seq (W.seq (W.region ?_))
  refine WL.val (Value.agg #[v_r_Table]) _ (op_loadBox st_26 rfl (BoxAt.lift hS11.ext hx6) rfl rfl) rfl ?_
  obtain ⟨x13, hx14, h⟩ := bs h
  refine WL.call _ (op_call fn_38 (args1 rfl)) (c_impl_IsRing (Ty.lift _ (Ext.trans hE7 hS11.ext) r_r_Table) hx14) rfl ?_
  rintro _ wd15 ⟨rfl, he16⟩
  have hS18 := St.extend hS11 he16
  replace hS18 : St wd2 wd15 [bx b9 [(Value.int .i64 (0 : Int)), (Value.int .i64 (0 : Int)), (Value.int .i64 (0 : Int)), (Value.int .i64 (0 : Int))]] := hS18
  refine WL.val (Value.bool (!x13)) _ (op_not rfl) rfl ?_
  refine WL.nil ?_
  show W _ _ _ _ _ _
  refine W.cond (!x13) rfl (fun hc19 => ?_) (fun hc19 => ?_)
  · replace h := ip h hc19
    refine W.seq (W.region ?_)
    refine WL.val (Value.agg #[(Value.int .i64 (0 : Int)), (Value.int .i64 (0 : Int)), (Value.int .i64 (0 : Int)), (Value.int .i64 (0 : Int))]) _ (op_build bd_42 (parts := []) (partsL trivial) trivial rfl) rfl ?_
    refine WL.storeBox [(Value.int .i64 (0 : Int)), (Value.int .i64 (0 : Int)), (Value.int .i64 (0 : Int)), (Value.int .i64 (0 : Int))] hS18 (k := 0) rfl rfl rfl (us := [(Value.int .i64 (0 : Int)), (Value.int .i64 (0 : Int)), (Value.int .i64 (0 : Int)), (Value.int .i64 (0 : Int))]) rfl sz_42 rfl rfl (all_cons rfl (all_cons rfl (all_cons rfl (all_cons rfl all_nil)))) rfl ?_
    intro wd21 hS22
    replace hS22 : St wd2 wd21 [bx b9 [(Value.int .i64 (0 : Int)), (Value.int .i64 (0 : Int)), (Value.int .i64 (0 : Int)), (Value.int .i64 (0 : Int))]] := hS22
    refine WL.val (Value.int .i64 (1 : Int)) _ (op_assign rfl) rfl ?_
    refine WL.nil ?_
    show W _ _ _ _ _ _
    refine W.ret ?_
    obtain rfl := Option.some.inj h
    show FinP _ _ _ _ _ _ _
    exact FinP.ret _ (resCT rfl rfl st_42 (St.boxAt hS22 0 rfl) rfl rfl) ⟨rfl, (inR_i64.2 (show (-9223372036854775808 : Int) ≤ 0 ∧ (0 : Int) ≤ 9223372036854775807 from by decide)), (inR_i64.2 (show (-9223372036854775808 : Int) ≤ 0 ∧ (0 : Int) ≤ 9223372036854775807 from by decide)), (inR_i64.2 (show (-9223372036854775808 : Int) ≤ 0 ∧ (0 : Int) ≤ 9223372036854775807 from by decide)), (inR_i64.2 (show (-9223372036854775808 : Int) ≤ 0 ∧ (0 : Int) ≤ 9223372036854775807 from by decide)), (inR_i64.2 (show (-9223372036854775808 : Int) ≤ 1 ∧ (1 : Int) ≤ 9223372036854775807 from by decide)), (Ext.trans hE7 hS22.ext)⟩
  · replace h := inegb h hc19
    refine W.skip ?_
    show W _ _ _ _ _ _
    refine W.seq (W.seq (W.region ?_))
    refine WL.val (Value.agg #[v_r_Table]) _ (op_loadBox st_26 rfl (BoxAt.lift hS18.ext hx6) rfl rfl) rfl ?_
    refine WL.val (Value.int .i64 i) _ (op_move rfl) rfl ?_
    obtain ⟨x23, hx24, h⟩ := bs h
    refine WL.call _ (op_call fn_53 (args2 rfl rfl)) (c_impl_Ring_isLabel (Ty.lift _ (Ext.trans hE7 hS18.ext) r_r_Table) r_i hx24) rfl ?_
    rintro _ wd25 ⟨rfl, he26⟩
    have hS28 := St.extend hS18 he26
    replace hS28 : St wd2 wd25 [bx b9 [(Value.int .i64 (0 : Int)), (Value.int .i64 (0 : Int)), (Value.int .i64 (0 : Int)), (Value.int .i64 (0 : Int))]] := hS28
    refine WL.val (Value.bool (!x23)) _ (op_not rfl) rfl ?_
    refine WL.val (Value.bool (!x23)) _ (op_move rfl) rfl ?_
    obtain ⟨x30, hj31, h⟩ := bs h
    refine WL.cut 4 (fun fq wq => fq 1 = (Value.int .i64 i) ∧ fq 2 = (Value.int .i64 t) ∧ fq 3 = (Value.pointer (some ⟨b1, 0, none⟩)) ∧ fq 6 = (Value.pointer (some ⟨b9, 0, none⟩)) ∧ fq 22 = Value.bool x30 ∧ St wd2 wq [bx b9 [(Value.int .i64 (0 : Int)), (Value.int .i64 (0 : Int)), (Value.int .i64 (0 : Int)), (Value.int .i64 (0 : Int))]]) ?_ ?_
    · rcases Bool.eq_false_or_eq_true (!x23) with hc29 | hc29
      · replace hj31 := ip hj31 hc29
        refine WL.gskip rfl (bool_of rfl hc29) rfl ?_
        refine WL.gskip rfl (bool_of rfl hc29) rfl ?_
        refine WL.gskip rfl (bool_of rfl hc29) rfl ?_
        refine WL.val (Value.bool true) _ (op_pick_t (evb_of rfl hc29) rfl) rfl ?_
        refine WL.nil ?_
        obtain rfl := Option.some.inj hj31
        exact ⟨rfl, rfl, rfl, rfl, rfl, rfl, hS28⟩
      · replace hj31 := inegb hj31 hc29
        refine WL.grun rfl (bool_of rfl hc29) ?_
        refine WL.val (Value.int .i64 t) _ (op_move rfl) rfl ?_
        refine WL.grun rfl (bool_of rfl hc29) ?_
        obtain ⟨x35, hx36, hj31⟩ := bs hj31
        refine WL.call _ (op_call fn_49 (args3 rfl rfl rfl)) (c_impl_within r_t (inR_i64.2 (show (-9223372036854775808 : Int) ≤ 0 ∧ (0 : Int) ≤ 9223372036854775807 from by decide)) (inR_i64.2 (show (-9223372036854775808 : Int) ≤ 20 ∧ (20 : Int) ≤ 9223372036854775807 from by decide)) hx36) rfl ?_
        rintro _ wd37 ⟨rfl, he38⟩
        have hS40 := St.extend hS28 he38
        replace hS40 : St wd2 wd37 [bx b9 [(Value.int .i64 (0 : Int)), (Value.int .i64 (0 : Int)), (Value.int .i64 (0 : Int)), (Value.int .i64 (0 : Int))]] := hS40
        refine WL.grun rfl (bool_of rfl hc29) ?_
        refine WL.val (Value.bool (!x35)) _ (op_not rfl) rfl ?_
        refine WL.val (Value.bool (!x35)) _ (op_pick_f (evb_of rfl hc29) rfl) rfl ?_
        refine WL.nil ?_
        obtain rfl := Option.some.inj hj31
        exact ⟨rfl, rfl, rfl, rfl, rfl, rfl, hS40⟩
    · intro f32 wd33 hq34
      obtain ⟨hf41, hf42, hf43, hf44, hf45, hS46⟩ := hq34
      refine WL.nil ?_
      show W _ _ _ _ _ _
      refine W.cond x30 hf45 (fun hc47 => ?_) (fun hc47 => ?_)
      · replace h := ip h hc47
        refine W.seq (W.region ?_)
        refine WL.val (Value.agg #[(Value.int .i64 (0 : Int)), (Value.int .i64 (0 : Int)), (Value.int .i64 (0 : Int)), (Value.int .i64 (0 : Int))]) _ (op_build bd_42 (parts := []) (partsL trivial) trivial rfl) rfl ?_
        refine WL.storeBox [(Value.int .i64 (0 : Int)), (Value.int .i64 (0 : Int)), (Value.int .i64 (0 : Int)), (Value.int .i64 (0 : Int))] hS46 (k := 0) rfl hf44 rfl (us := [(Value.int .i64 (0 : Int)), (Value.int .i64 (0 : Int)), (Value.int .i64 (0 : Int)), (Value.int .i64 (0 : Int))]) rfl sz_42 rfl rfl (all_cons rfl (all_cons rfl (all_cons rfl (all_cons rfl all_nil)))) rfl ?_
        intro wd49 hS50
        replace hS50 : St wd2 wd49 [bx b9 [(Value.int .i64 (0 : Int)), (Value.int .i64 (0 : Int)), (Value.int .i64 (0 : Int)), (Value.int .i64 (0 : Int))]] := hS50
        refine WL.val (Value.int .i64 (2 : Int)) _ (op_assign rfl) rfl ?_
        refine WL.nil ?_
        show W _ _ _ _ _ _
        refine W.ret ?_
        obtain rfl := Option.some.inj h
        show FinP _ _ _ _ _ _ _
        exact FinP.ret _ (resCT rfl hf44 st_42 (St.boxAt hS50 0 rfl) rfl rfl) ⟨rfl, (inR_i64.2 (show (-9223372036854775808 : Int) ≤ 0 ∧ (0 : Int) ≤ 9223372036854775807 from by decide)), (inR_i64.2 (show (-9223372036854775808 : Int) ≤ 0 ∧ (0 : Int) ≤ 9223372036854775807 from by decide)), (inR_i64.2 (show (-9223372036854775808 : Int) ≤ 0 ∧ (0 : Int) ≤ 9223372036854775807 from by decide)), (inR_i64.2 (show (-9223372036854775808 : Int) ≤ 0 ∧ (0 : Int) ≤ 9223372036854775807 from by decide)), (inR_i64.2 (show (-9223372036854775808 : Int) ≤ 2 ∧ (2 : Int) ≤ 9223372036854775807 from by decide)), (Ext.trans hE7 hS50.ext)⟩
      · replace h := inegb h hc47
        refine W.skip ?_
        show W _ _ _ _ _ _
        refine W.seq (W.region ?_)
        refine WL.val (Value.agg #[v_r_Table]) _ (op_loadBox st_26 hf43 (BoxAt.lift hS46.ext hx6) rfl rfl) rfl ?_
        refine WL.val (Value.int .i64 t) _ (op_move hf42) rfl ?_
        obtain ⟨x51, hx52, h⟩ := bs h
        refine WL.call _ (op_call fn_50 (args2 rfl rfl)) (c_impl_Ring_weightsOf (Ty.lift _ (Ext.trans hE7 hS46.ext) r_r_Table) r_t hx52) rfl ?_
        rintro _ wd55 ⟨u53, rfl, hr54, he56, hs57⟩
        have hS58 := St.join hS46 he56 hs57
        replace hS58 : St wd2 wd55 [bx b9 [(Value.int .i64 (0 : Int)), (Value.int .i64 (0 : Int)), (Value.int .i64 (0 : Int)), (Value.int .i64 (0 : Int))], (Ty.sl (Ty.i .i64)).at u53 x51.1] := hS58
        refine WL.val (Value.tuple #[u53, (Value.int .i64 x51.2)]) _ (op_move rfl) rfl ?_
        refine WL.val u53 _ (op_extract rfl rfl) rfl ?_
        refine WL.val (Value.int .i64 x51.2) _ (op_extract rfl rfl) rfl ?_
        refine WL.val u53 _ (op_assign rfl) rfl ?_
        refine WL.val (Value.int .i64 x51.2) _ (op_assign rfl) rfl ?_
        refine WL.nil ?_
        show W _ _ _ _ _ _
        refine W.seq (W.seq (W.region ?_))
        refine WL.val (Value.int .i64 x51.2) _ (op_move rfl) rfl ?_
        refine WL.val (Value.bool (x51.2 != (0 : Int))) _ (op_neq rfl rfl) rfl ?_
        refine WL.nil ?_
        show W _ _ _ _ _ _
        refine W.cond (x51.2 != (0 : Int)) rfl (fun hc59 => ?_) (fun hc59 => ?_)
        · replace h := ip h hc59
          refine W.seq (W.region ?_)
          refine WL.val (Value.agg #[(Value.int .i64 (0 : Int)), (Value.int .i64 (0 : Int)), (Value.int .i64 (0 : Int)), (Value.int .i64 (0 : Int))]) _ (op_build bd_42 (parts := []) (partsL trivial) trivial rfl) rfl ?_
          refine WL.val (Value.int .i64 x51.2) _ (op_move rfl) rfl ?_
          refine WL.storeBox [(Value.int .i64 (0 : Int)), (Value.int .i64 (0 : Int)), (Value.int .i64 (0 : Int)), (Value.int .i64 (0 : Int))] hS58 (k := 0) rfl hf44 rfl (us := [(Value.int .i64 (0 : Int)), (Value.int .i64 (0 : Int)), (Value.int .i64 (0 : Int)), (Value.int .i64 (0 : Int))]) rfl sz_42 rfl rfl (all_cons rfl (all_cons rfl (all_cons rfl (all_cons rfl all_nil)))) rfl ?_
          intro wd61 hS62
          replace hS62 : St wd2 wd61 [bx b9 [(Value.int .i64 (0 : Int)), (Value.int .i64 (0 : Int)), (Value.int .i64 (0 : Int)), (Value.int .i64 (0 : Int))], (Ty.sl (Ty.i .i64)).at u53 x51.1] := hS62
          refine WL.val (Value.int .i64 x51.2) _ (op_assign rfl) rfl ?_
          refine WL.nil ?_
          show W _ _ _ _ _ _
          refine W.ret ?_
          obtain rfl := Option.some.inj h
          show FinP _ _ _ _ _ _ _
          exact FinP.ret _ (resCT rfl hf44 st_42 (St.boxAt hS62 0 rfl) rfl rfl) ⟨rfl, (inR_i64.2 (show (-9223372036854775808 : Int) ≤ 0 ∧ (0 : Int) ≤ 9223372036854775807 from by decide)), (inR_i64.2 (show (-9223372036854775808 : Int) ≤ 0 ∧ (0 : Int) ≤ 9223372036854775807 from by decide)), (inR_i64.2 (show (-9223372036854775808 : Int) ≤ 0 ∧ (0 : Int) ≤ 9223372036854775807 from by decide)), (inR_i64.2 (show (-9223372036854775808 : Int) ≤ 0 ∧ (0 : Int) ≤ 9223372036854775807 from by decide)), hr54, (Ext.trans hE7 hS62.ext)⟩
        · replace h := inegb h hc59
          refine W.skip ?_
          show W _ _ _ _ _ _
          refine W.seq (W.region ?_)
          refine WL.val (Value.agg #[v_r_Table]) _ (op_loadBox st_26 hf43 (BoxAt.lift hS58.ext hx6) rfl rfl) rfl ?_
          refine WL.val (Value.int .i64 i) _ (op_move hf41) rfl ?_
          refine WL.val u53 _ (op_move rfl) rfl ?_
          obtain ⟨x63, hx64, h⟩ := bs h
          refine WL.call _ (op_call fn_54 (args3 rfl rfl rfl)) (c_impl_Ring_boundsOf (Ty.lift _ (Ext.trans hE7 hS58.ext) r_r_Table) r_i (St.rep (t := (Ty.sl (Ty.i .i64))) hS58 1 rfl) hx64) rfl ?_
          rintro _ wd69 ⟨rfl, hr65, hr66, hr67, hr68, he70⟩
          have hS72 := St.extend hS58 he70
          replace hS72 : St wd2 wd69 [bx b9 [(Value.int .i64 (0 : Int)), (Value.int .i64 (0 : Int)), (Value.int .i64 (0 : Int)), (Value.int .i64 (0 : Int))], (Ty.sl (Ty.i .i64)).at u53 x51.1] := hS72
          refine WL.storeBox [(Value.int .i64 x63.1), (Value.int .i64 x63.2.1), (Value.int .i64 x63.2.2.1), (Value.int .i64 x63.2.2.2)] hS72 (k := 0) rfl hf44 rfl (us := [(Value.int .i64 x63.1), (Value.int .i64 x63.2.1), (Value.int .i64 x63.2.2.1), (Value.int .i64 x63.2.2.2)]) rfl sz_42 rfl rfl (all_cons rfl (all_cons rfl (all_cons rfl (all_cons rfl all_nil)))) rfl ?_
          intro wd73 hS74
          replace hS74 : St wd2 wd73 [bx b9 [(Value.int .i64 x63.1), (Value.int .i64 x63.2.1), (Value.int .i64 x63.2.2.1), (Value.int .i64 x63.2.2.2)], (Ty.sl (Ty.i .i64)).at u53 x51.1] := hS74
          refine WL.val (Value.int .i64 (0 : Int)) _ (op_assign rfl) rfl ?_
          refine WL.nil ?_
          show W _ _ _ _ _ _
          refine W.ret ?_
          obtain rfl := Option.some.inj h
          show FinP _ _ _ _ _ _ _
          exact FinP.ret _ (resCT rfl hf44 st_42 (St.boxAt hS74 0 rfl) rfl rfl) ⟨rfl, hr65, hr66, hr67, hr68, (inR_i64.2 (show (-9223372036854775808 : Int) ≤ 0 ∧ (0 : Int) ≤ 9223372036854775807 from by decide)), (Ext.trans hE7 hS74.ext)⟩

theorem c_laws_eqBounds {w : World} {a_LowTop : Int} {a_LowBottom : Int} {a_HighTop : Int} {a_HighBottom : Int} {b_LowTop : Int} {b_LowBottom : Int} {b_HighTop : Int} {b_HighBottom : Int} (r_a_LowTop : InR .i64 a_LowTop) (r_a_LowBottom : InR .i64 a_LowBottom) (r_a_HighTop : InR .i64 a_HighTop) (r_a_HighBottom : InR .i64 a_HighBottom) (r_b_LowTop : InR .i64 b_LowTop) (r_b_LowBottom : InR .i64 b_LowBottom) (r_b_HighTop : InR .i64 b_HighTop) (r_b_HighBottom : InR .i64 b_HighBottom) {res : Bool} (h : p_laws_eqBounds a_LowTop a_LowBottom a_HighTop a_HighBottom b_LowTop b_LowBottom b_HighTop b_HighBottom  = some res) :
    Ret Try.prog 26 #[(Value.agg #[(Value.int .i64 a_LowTop), (Value.int .i64 a_LowBottom), (Value.int .i64 a_HighTop), (Value.int .i64 a_HighBottom)]), (Value.agg #[(Value.int .i64 b_LowTop), (Value.int .i64 b_LowBottom), (Value.int .i64 b_HighTop), (Value.int .i64 b_HighBottom)])] w (fun v w' => v = Value.bool res ∧ Ext w w') := by
  unfold p_laws_eqBounds at h
  have hS0 : St w w [] := St.start w
  refine Ret.start (fn := Try.f26) Try.func26 rfl 25 rfl rfl ?_
  refine W.seq (W.region ?_)
  refine WL.box hS0 rfl (cs := [(Value.int .i64 a_LowTop), (Value.int .i64 a_LowBottom), (Value.int .i64 a_HighTop), (Value.int .i64 a_HighBottom)]) rfl rfl ?_
  intro b1 wd2 hS3 he4 hx5
  replace hS3 : St w wd2 [bx b1 [(Value.int .i64 a_LowTop), (Value.int .i64 a_LowBottom), (Value.int .i64 a_HighTop), (Value.int .i64 a_HighBottom)]] := hS3
  have hx6 := St.boxAt hS3 0 rfl
  have hE7 : Ext w wd2 := hS3.ext
  have hS8 : St wd2 wd2 [] := St.start wd2
  refine WL.box hS8 rfl (cs := [(Value.int .i64 b_LowTop), (Value.int .i64 b_LowBottom), (Value.int .i64 b_HighTop), (Value.int .i64 b_HighBottom)]) rfl rfl ?_
  intro b9 wd10 hS11 he12 hx13
  replace hS11 : St wd2 wd10 [bx b9 [(Value.int .i64 b_LowTop), (Value.int .i64 b_LowBottom), (Value.int .i64 b_HighTop), (Value.int .i64 b_HighBottom)]] := hS11
  have hx14 := St.boxAt hS11 0 rfl
  have hE15 : Ext w wd10 := (Ext.trans hE7 hS11.ext)
  have hE16 : Ext wd2 wd10 := hS11.ext
  have hS17 : St wd10 wd10 [] := St.start wd10
  refine WL.val (Value.bool false) _ (op_assign rfl) rfl ?_
  refine WL.nil ?_
  show W _ _ _ _ _ _
  refine W.seq (W.seq (W.region ?_))
  refine WL.val (Value.pointer (some ⟨b1, 0, none⟩)) _ (op_fieldAddr fd_42_0 rfl) rfl ?_
  refine WL.val (Value.int .i64 a_LowTop) _ (op_load one_2 rfl (BoxAt.cell (BoxAt.lift (Ext.trans hE16 hS17.ext) hx6) rfl)) rfl ?_
  refine WL.val (Value.pointer (some ⟨b9, 0, none⟩)) _ (op_fieldAddr fd_42_0 rfl) rfl ?_
  refine WL.val (Value.int .i64 b_LowTop) _ (op_load one_2 rfl (BoxAt.cell (BoxAt.lift hS17.ext hx14) rfl)) rfl ?_
  refine WL.val (Value.bool (a_LowTop != b_LowTop)) _ (op_neq rfl rfl) rfl ?_
  refine WL.nil ?_
  show W _ _ _ _ _ _
  refine W.cond (a_LowTop != b_LowTop) rfl (fun hc18 => ?_) (fun hc18 => ?_)
  · replace h := ip h hc18
    refine W.seq (W.region ?_)
    refine WL.val (Value.bool false) _ (op_assign rfl) rfl ?_
    refine WL.nil ?_
    show W _ _ _ _ _ _
    refine W.ret ?_
    obtain rfl := Option.some.inj h
    show FinP _ _ _ _ _ _ _
    exact FinP.ret _ (res1 rfl rfl) ⟨rfl, (Ext.trans hE15 hS17.ext)⟩
  · replace h := inegb h hc18
    refine W.skip ?_
    show W _ _ _ _ _ _
    refine W.seq (W.seq (W.region ?_))
    refine WL.val (Value.pointer (some ⟨b1, 1, none⟩)) _ (op_fieldAddr fd_42_1 rfl) rfl ?_
    refine WL.val (Value.int .i64 a_LowBottom) _ (op_load one_2 rfl (BoxAt.cell (BoxAt.lift (Ext.trans hE16 hS17.ext) hx6) rfl)) rfl ?_
    refine WL.val (Value.pointer (some ⟨b9, 1, none⟩)) _ (op_fieldAddr fd_42_1 rfl) rfl ?_
    refine WL.val (Value.int .i64 b_LowBottom) _ (op_load one_2 rfl (BoxAt.cell (BoxAt.lift hS17.ext hx14) rfl)) rfl ?_
    refine WL.val (Value.bool (a_LowBottom != b_LowBottom)) _ (op_neq rfl rfl) rfl ?_
    refine WL.nil ?_
    show W _ _ _ _ _ _
    refine W.cond (a_LowBottom != b_LowBottom) rfl (fun hc20 => ?_) (fun hc20 => ?_)
    · replace h := ip h hc20
      refine W.seq (W.region ?_)
      refine WL.val (Value.bool false) _ (op_assign rfl) rfl ?_
      refine WL.nil ?_
      show W _ _ _ _ _ _
      refine W.ret ?_
      obtain rfl := Option.some.inj h
      show FinP _ _ _ _ _ _ _
      exact FinP.ret _ (res1 rfl rfl) ⟨rfl, (Ext.trans hE15 hS17.ext)⟩
    · replace h := inegb h hc20
      refine W.skip ?_
      show W _ _ _ _ _ _
      refine W.seq (W.seq (W.region ?_))
      refine WL.val (Value.pointer (some ⟨b1, 2, none⟩)) _ (op_fieldAddr fd_42_2 rfl) rfl ?_
      refine WL.val (Value.int .i64 a_HighTop) _ (op_load one_2 rfl (BoxAt.cell (BoxAt.lift (Ext.trans hE16 hS17.ext) hx6) rfl)) rfl ?_
      refine WL.val (Value.pointer (some ⟨b9, 2, none⟩)) _ (op_fieldAddr fd_42_2 rfl) rfl ?_
      refine WL.val (Value.int .i64 b_HighTop) _ (op_load one_2 rfl (BoxAt.cell (BoxAt.lift hS17.ext hx14) rfl)) rfl ?_
      refine WL.val (Value.bool (a_HighTop != b_HighTop)) _ (op_neq rfl rfl) rfl ?_
      refine WL.nil ?_
      show W _ _ _ _ _ _
      refine W.cond (a_HighTop != b_HighTop) rfl (fun hc22 => ?_) (fun hc22 => ?_)
      · replace h := ip h hc22
        refine W.seq (W.region ?_)
        refine WL.val (Value.bool false) _ (op_assign rfl) rfl ?_
        refine WL.nil ?_
        show W _ _ _ _ _ _
        refine W.ret ?_
        obtain rfl := Option.some.inj h
        show FinP _ _ _ _ _ _ _
        exact FinP.ret _ (res1 rfl rfl) ⟨rfl, (Ext.trans hE15 hS17.ext)⟩
      · replace h := inegb h hc22
        refine W.skip ?_
        show W _ _ _ _ _ _
        refine W.seq (W.seq (W.region ?_))
        refine WL.val (Value.pointer (some ⟨b1, 3, none⟩)) _ (op_fieldAddr fd_42_3 rfl) rfl ?_
        refine WL.val (Value.int .i64 a_HighBottom) _ (op_load one_2 rfl (BoxAt.cell (BoxAt.lift (Ext.trans hE16 hS17.ext) hx6) rfl)) rfl ?_
        refine WL.val (Value.pointer (some ⟨b9, 3, none⟩)) _ (op_fieldAddr fd_42_3 rfl) rfl ?_
        refine WL.val (Value.int .i64 b_HighBottom) _ (op_load one_2 rfl (BoxAt.cell (BoxAt.lift hS17.ext hx14) rfl)) rfl ?_
        refine WL.val (Value.bool (a_HighBottom != b_HighBottom)) _ (op_neq rfl rfl) rfl ?_
        refine WL.nil ?_
        show W _ _ _ _ _ _
        refine W.cond (a_HighBottom != b_HighBottom) rfl (fun hc24 => ?_) (fun hc24 => ?_)
        · replace h := ip h hc24
          refine W.seq (W.region ?_)
          refine WL.val (Value.bool false) _ (op_assign rfl) rfl ?_
          refine WL.nil ?_
          show W _ _ _ _ _ _
          refine W.ret ?_
          obtain rfl := Option.some.inj h
          show FinP _ _ _ _ _ _ _
          exact FinP.ret _ (res1 rfl rfl) ⟨rfl, (Ext.trans hE15 hS17.ext)⟩
        · replace h := inegb h hc24
          refine W.skip ?_
          show W _ _ _ _ _ _
          refine W.seq (W.region ?_)
          refine WL.val (Value.bool true) _ (op_assign rfl) rfl ?_
          refine WL.nil ?_
          show W _ _ _ _ _ _
          refine W.ret ?_
          obtain rfl := Option.some.inj h
          show FinP _ _ _ _ _ _ _
          exact FinP.ret _ (res1 rfl rfl) ⟨rfl, (Ext.trans hE15 hS17.ext)⟩

theorem c_laws_FnExactBoundsOf {w : World} {aR_Table : (List (List (List Int)))} {v_aR_Table : Value} {aI : Int} {aT : Int} (r_aR_Table : (Ty.sl (Ty.sl (Ty.sl (Ty.i .i64)))).rep w v_aR_Table aR_Table) (r_aI : InR .i64 aI) (r_aT : InR .i64 aT) {res : Bool} (h : p_laws_FnExactBoundsOf aR_Table aI aT  = some res) :
    Ret Try.prog 6 #[(Value.agg #[v_aR_Table]), (Value.int .i64 aI), (Value.int .i64 aT)] w (fun v w' => v = Value.bool res ∧ Ext w w') := by
  unfold p_laws_FnExactBoundsOf at h
  have hS0 : St w w [] := St.start w
  refine Ret.start (fn := Try.f6) Try.func6 rfl 49 rfl rfl ?_
  refine W.seq (W.region ?_)
  refine WL.box hS0 rfl (cs := [v_aR_Table]) rfl rfl ?_
  intro b1 wd2 hS3 he4 hx5
  replace hS3 : St w wd2 [bx b1 [v_aR_Table]] := hS3
  have hx6 := St.boxAt hS3 0 rfl
  have hE7 : Ext w wd2 := hS3.ext
  have hS8 : St wd2 wd2 [] := St.start wd2
  refine WL.val (Value.bool false) _ (op_assign rfl) rfl ?_
  refine WL.nil ?_
  show W _ _ _ _ _ _
  refine W.seq (W.region ?_)
  refine WL.val (Value.int .i64 (1048576 : Int)) _ (op_assign rfl) rfl ?_
  refine WL.nil ?_
  show W _ _ _ _ _ _
  refine W.seq (W.region ?_)
  refine WL.val (Value.agg #[v_aR_Table]) _ (op_loadBox st_24 rfl (BoxAt.lift hS8.ext hx6) rfl rfl) rfl ?_
  refine WL.val (Value.int .i64 (1048576 : Int)) _ (op_move rfl) rfl ?_
  obtain ⟨x9, hx10, h⟩ := bs h
  refine WL.call _ (op_call fn_10 (args2 rfl rfl)) (c_laws_szRing (Ty.lift _ (Ext.trans hE7 hS8.ext) r_aR_Table) (inR_i64.2 (show (-9223372036854775808 : Int) ≤ 1048576 ∧ (1048576 : Int) ≤ 9223372036854775807 from by decide)) hx10) rfl ?_
  rintro _ wd12 ⟨rfl, hr11, he13⟩
  have hS15 := St.extend hS8 he13
  replace hS15 : St wd2 wd12 [] := hS15
  refine WL.val (Value.int .i64 x9) _ (op_assign rfl) rfl ?_
  refine WL.nil ?_
  show W _ _ _ _ _ _
  refine W.seq (W.seq (W.region ?_))
  refine WL.val (Value.int .i64 x9) _ (op_move rfl) rfl ?_
  refine WL.val (Value.bool (decide (x9 < (0 : Int)))) _ (op_lss rfl rfl) rfl ?_
  refine WL.nil ?_
  show W _ _ _ _ _ _
  refine W.cond (decide (x9 < (0 : Int))) rfl (fun hc16 => ?_) (fun hc16 => ?_)
  · replace h := ip h hc16
    refine W.seq (W.region ?_)
    refine WL.val (Value.bool true) _ (op_assign rfl) rfl ?_
    refine WL.nil ?_
    show W _ _ _ _ _ _
    refine W.ret ?_
    obtain rfl := Option.some.inj h
    show FinP _ _ _ _ _ _ _
    exact FinP.ret _ (res1 rfl rfl) ⟨rfl, (Ext.trans hE7 hS15.ext)⟩
  · replace h := inegb h hc16
    refine W.skip ?_
    show W _ _ _ _ _ _
    refine W.seq (W.region ?_)
    refine WL.val (Value.agg #[v_aR_Table]) _ (op_loadBox st_24 rfl (BoxAt.lift hS15.ext hx6) rfl rfl) rfl ?_
    obtain ⟨x18, hx19, h⟩ := bs h
    refine WL.call _ (op_call fn_12 (args1 rfl)) (c_laws_toRing (Ty.lift _ (Ext.trans hE7 hS15.ext) r_aR_Table) hx19) rfl ?_
    rintro _ wd21 ⟨u20, rfl, he22, hs23⟩
    have hS24 := St.join hS15 he22 hs23
    replace hS24 : St wd2 wd21 [(Ty.sl (Ty.sl (Ty.sl (Ty.i .i64)))).at u20 x18] := hS24
    have hb25 := St.rep (t := (Ty.sl (Ty.sl (Ty.sl (Ty.i .i64))))) hS24 0 rfl
    have hE26 : Ext w wd21 := (Ext.trans hE7 hS24.ext)
    have hE27 : Ext wd2 wd21 := hS24.ext
    have hS28 : St wd21 wd21 [] := St.start wd21
    refine WL.val (Value.int .i64 aI) _ (op_move rfl) rfl ?_
    refine WL.val (Value.int .i64 aT) _ (op_move rfl) rfl ?_
    obtain ⟨x29, hx30, h⟩ := bs h
    refine WL.call _ (op_call fn_24 (args3 rfl rfl rfl)) (c_spec_BoundsOf (Ty.lift _ hS28.ext hb25) r_aI r_aT hx30) rfl ?_
    rintro _ wd36 ⟨rfl, hr31, hr32, hr33, hr34, hr35, he37⟩
    have hS39 := St.extend hS28 he37
    replace hS39 : St wd21 wd36 [] := hS39
    refine WL.val (Value.tuple #[(Value.agg #[(Value.int .i64 x29.1), (Value.int .i64 x29.2.1), (Value.int .i64 x29.2.2.1), (Value.int .i64 x29.2.2.2.1)]), (Value.int .i64 x29.2.2.2.2)]) _ (op_move rfl) rfl ?_
    refine WL.val (Value.agg #[(Value.int .i64 x29.1), (Value.int .i64 x29.2.1), (Value.int .i64 x29.2.2.1), (Value.int .i64 x29.2.2.2.1)]) _ (op_extract rfl rfl) rfl ?_
    refine WL.val (Value.int .i64 x29.2.2.2.2) _ (op_extract rfl rfl) rfl ?_
    refine WL.alloc hS39 ze_42 (cs := [(Value.int .i64 (0 : Int)), (Value.int .i64 (0 : Int)), (Value.int .i64 (0 : Int)), (Value.int .i64 (0 : Int))]) rfl rfl ?_
    intro b40 wd41 hS42 he43
    replace hS42 : St wd21 wd41 [bx b40 [(Value.int .i64 (0 : Int)), (Value.int .i64 (0 : Int)), (Value.int .i64 (0 : Int)), (Value.int .i64 (0 : Int))]] := hS42
    refine WL.storeBox [(Value.int .i64 x29.1), (Value.int .i64 x29.2.1), (Value.int .i64 x29.2.2.1), (Value.int .i64 x29.2.2.2.1)] hS42 (k := 0) rfl rfl rfl (us := [(Value.int .i64 x29.1), (Value.int .i64 x29.2.1), (Value.int .i64 x29.2.2.1), (Value.int .i64 x29.2.2.2.1)]) rfl sz_42 rfl rfl (all_cons rfl (all_cons rfl (all_cons rfl (all_cons rfl all_nil)))) rfl ?_
    intro wd44 hS45
    replace hS45 : St wd21 wd44 [bx b40 [(Value.int .i64 x29.1), (Value.int .i64 x29.2.1), (Value.int .i64 x29.2.2.1), (Value.int .i64 x29.2.2.2.1)]] := hS45
    refine WL.val (Value.int .i64 x29.2.2.2.2) _ (op_assign rfl) rfl ?_
    refine WL.nil ?_
    show W _ _ _ _ _ _
    refine W.seq (W.region ?_)
    refine WL.val (Value.agg #[v_aR_Table]) _ (op_loadBox st_24 rfl (BoxAt.lift (Ext.trans hE27 hS45.ext) hx6) rfl rfl) rfl ?_
    obtain ⟨x46, hx47, h⟩ := bs h
    refine WL.call _ (op_call fn_12 (args1 rfl)) (c_laws_toRing (Ty.lift _ (Ext.trans hE26 hS45.ext) r_aR_Table) hx47) rfl ?_
    rintro _ wd49 ⟨u48, rfl, he50, hs51⟩
    have hS52 := St.join hS45 he50 hs51
    replace hS52 : St wd21 wd49 [bx b40 [(Value.int .i64 x29.1), (Value.int .i64 x29.2.1), (Value.int .i64 x29.2.2.1), (Value.int .i64 x29.2.2.2.1)], (Ty.sl (Ty.sl (Ty.sl (Ty.i .i64)))).at u48 x46] := hS52
    refine WL.alloc hS52 ze_26 (cs := [(Value.slice none 0 0)]) rfl rfl ?_
    intro b53 wd54 hS55 he56
    replace hS55 : St wd21 wd54 [bx b40 [(Value.int .i64 x29.1), (Value.int .i64 x29.2.1), (Value.int .i64 x29.2.2.1), (Value.int .i64 x29.2.2.2.1)], (Ty.sl (Ty.sl (Ty.sl (Ty.i .i64)))).at u48 x46, bx b53 [(Value.slice none 0 0)]] := hS55
    refine WL.storeBox [u48] hS55 (k := 2) rfl rfl rfl (us := [u48]) rfl sz_26 rfl rfl (all_rep (St.rep (t := (Ty.sl (Ty.sl (Ty.sl (Ty.i .i64))))) hS55 1 rfl) all_nil) rfl ?_
    intro wd57 hS58
    replace hS58 : St wd21 wd57 [bx b40 [(Value.int .i64 x29.1), (Value.int .i64 x29.2.1), (Value.int .i64 x29.2.2.1), (Value.int .i64 x29.2.2.2.1)], (Ty.sl (Ty.sl (Ty.sl (Ty.i .i64)))).at u48 x46, bx b53 [u48]] := hS58
    refine WL.nil ?_
    show W _ _ _ _ _ _
    refine W.seq (W.region ?_)
    refine WL.val (Value.agg #[u48]) _ (op_loadBox st_26 rfl (St.boxAt hS58 2 rfl) rfl rfl) rfl ?_
    refine WL.val (Value.int .i64 aI) _ (op_move rfl) rfl ?_
    refine WL.val (Value.int .i64 aT) _ (op_move rfl) rfl ?_
    obtain ⟨x59, hx60, h⟩ := bs h
    refine WL.call _ (op_call fn_25 (args3 rfl rfl rfl)) (c_impl_BoundsOf (St.rep (t := (Ty.sl (Ty.sl (Ty.sl (Ty.i .i64))))) hS58 1 rfl) r_aI r_aT hx60) rfl ?_
    rintro _ wd66 ⟨rfl, hr61, hr62, hr63, hr64, hr65, he67⟩
    have hS69 := St.extend hS58 he67
    replace hS69 : St wd21 wd66 [bx b40 [(Value.int .i64 x29.1), (Value.int .i64 x29.2.1), (Value.int .i64 x29.2.2.1), (Value.int .i64 x29.2.2.2.1)], (Ty.sl (Ty.sl (Ty.sl (Ty.i .i64)))).at u48 x46, bx b53 [u48]] := hS69
    refine WL.val (Value.tuple #[(Value.agg #[(Value.int .i64 x59.1), (Value.int .i64 x59.2.1), (Value.int .i64 x59.2.2.1), (Value.int .i64 x59.2.2.2.1)]), (Value.int .i64 x59.2.2.2.2)]) _ (op_move rfl) rfl ?_
    refine WL.val (Value.agg #[(Value.int .i64 x59.1), (Value.int .i64 x59.2.1), (Value.int .i64 x59.2.2.1), (Value.int .i64 x59.2.2.2.1)]) _ (op_extract rfl rfl) rfl ?_
    refine WL.val (Value.int .i64 x59.2.2.2.2) _ (op_extract rfl rfl) rfl ?_
    refine WL.alloc hS69 ze_42 (cs := [(Value.int .i64 (0 : Int)), (Value.int .i64 (0 : Int)), (Value.int .i64 (0 : Int)), (Value.int .i64 (0 : Int))]) rfl rfl ?_
    intro b70 wd71 hS72 he73
    replace hS72 : St wd21 wd71 [bx b40 [(Value.int .i64 x29.1), (Value.int .i64 x29.2.1), (Value.int .i64 x29.2.2.1), (Value.int .i64 x29.2.2.2.1)], (Ty.sl (Ty.sl (Ty.sl (Ty.i .i64)))).at u48 x46, bx b53 [u48], bx b70 [(Value.int .i64 (0 : Int)), (Value.int .i64 (0 : Int)), (Value.int .i64 (0 : Int)), (Value.int .i64 (0 : Int))]] := hS72
    refine WL.storeBox [(Value.int .i64 x59.1), (Value.int .i64 x59.2.1), (Value.int .i64 x59.2.2.1), (Value.int .i64 x59.2.2.2.1)] hS72 (k := 3) rfl rfl rfl (us := [(Value.int .i64 x59.1), (Value.int .i64 x59.2.1), (Value.int .i64 x59.2.2.1), (Value.int .i64 x59.2.2.2.1)]) rfl sz_42 rfl rfl (all_cons rfl (all_cons rfl (all_cons rfl (all_cons rfl all_nil)))) rfl ?_
    intro wd74 hS75
    replace hS75 : St wd21 wd74 [bx b40 [(Value.int .i64 x29.1), (Value.int .i64 x29.2.1), (Value.int .i64 x29.2.2.1), (Value.int .i64 x29.2.2.2.1)], (Ty.sl (Ty.sl (Ty.sl (Ty.i .i64)))).at u48 x46, bx b53 [u48], bx b70 [(Value.int .i64 x59.1), (Value.int .i64 x59.2.1), (Value.int .i64 x59.2.2.1), (Value.int .i64 x59.2.2.2.1)]] := hS75
    refine WL.val (Value.int .i64 x59.2.2.2.2) _ (op_assign rfl) rfl ?_
    refine WL.nil ?_
    show W _ _ _ _ _ _
    refine W.seq (W.seq (W.region ?_))
    refine WL.val (Value.agg #[(Value.int .i64 x59.1), (Value.int .i64 x59.2.1), (Value.int .i64 x59.2.2.1), (Value.int .i64 x59.2.2.2.1)]) _ (op_loadBox st_42 rfl (St.boxAt hS75 3 rfl) rfl rfl) rfl ?_
    refine WL.val (Value.agg #[(Value.int .i64 x29.1), (Value.int .i64 x29.2.1), (Value.int .i64 x29.2.2.1), (Value.int .i64 x29.2.2.2.1)]) _ (op_loadBox st_42 rfl (St.boxAt hS75 0 rfl) rfl rfl) rfl ?_
    obtain ⟨x76, hx77, h⟩ := bs h
    refine WL.call _ (op_call fn_26 (args2 rfl rfl)) (c_laws_eqBounds hr61 hr62 hr63 hr64 hr31 hr32 hr33 hr34 hx77) rfl ?_
    rintro _ wd78 ⟨rfl, he79⟩
    have hS81 := St.extend hS75 he79
    replace hS81 : St wd21 wd78 [bx b40 [(Value.int .i64 x29.1), (Value.int .i64 x29.2.1), (Value.int .i64 x29.2.2.1), (Value.int .i64 x29.2.2.2.1)], (Ty.sl (Ty.sl (Ty.sl (Ty.i .i64)))).at u48 x46, bx b53 [u48], bx b70 [(Value.int .i64 x59.1), (Value.int .i64 x59.2.1), (Value.int .i64 x59.2.2.1), (Value.int .i64 x59.2.2.2.1)]] := hS81
    refine WL.val (Value.bool (!x76)) _ (op_not rfl) rfl ?_
    refine WL.val (Value.bool (!x76)) _ (op_move rfl) rfl ?_
    refine WL.cut 4 (fun fq wq => fq 3 = (Value.pointer (some ⟨b1, 0, none⟩)) ∧ fq 10 = (Value.pointer (some ⟨b53, 0, none⟩)) ∧ fq 43 = (Value.bool ((!x76) || (x59.2.2.2.2 != x29.2.2.2.2))) ∧ St wd21 wq [(Ty.sl (Ty.sl (Ty.sl (Ty.i .i64)))).at u48 x46, bx b53 [u48]]) ?_ ?_
    · rcases Bool.eq_false_or_eq_true (!x76) with hc82 | hc82
      · refine WL.gskip rfl (bool_of rfl hc82) rfl ?_
        refine WL.gskip rfl (bool_of rfl hc82) rfl ?_
        refine WL.gskip rfl (bool_of rfl hc82) rfl ?_
        refine WL.val (Value.bool true) _ (op_pick_t (evb_of rfl hc82) rfl) rfl ?_
        refine WL.nil ?_
        exact ⟨rfl, rfl, rfl, (orT hc82), (St.pick hS81 [1, 2] rfl)⟩
      · refine WL.grun rfl (bool_of rfl hc82) ?_
        refine WL.val (Value.int .i64 x59.2.2.2.2) _ (op_move rfl) rfl ?_
        refine WL.grun rfl (bool_of rfl hc82) ?_
        refine WL.val (Value.int .i64 x29.2.2.2.2) _ (op_move rfl) rfl ?_
        refine WL.grun rfl (bool_of rfl hc82) ?_
        refine WL.val (Value.bool (x59.2.2.2.2 != x29.2.2.2.2)) _ (op_neq rfl rfl) rfl ?_
        refine WL.val (Value.bool (x59.2.2.2.2 != x29.2.2.2.2)) _ (op_pick_f (evb_of rfl hc82) rfl) rfl ?_
        refine WL.nil ?_
        exact ⟨rfl, rfl, rfl, (orF hc82), (St.pick hS81 [1, 2] rfl)⟩
    · intro f83 wd84 hq85
      obtain ⟨hf86, hf87, hf88, hS89⟩ := hq85
      refine WL.nil ?_
      show W _ _ _ _ _ _
      refine W.cond ((!x76) || (x59.2.2.2.2 != x29.2.2.2.2)) hf88 (fun hc90 => ?_) (fun hc90 => ?_)
      · replace h := ip h hc90
        refine W.seq (W.region ?_)
        refine WL.val (Value.bool false) _ (op_assign rfl) rfl ?_
        refine WL.nil ?_
        show W _ _ _ _ _ _
        refine W.ret ?_
        obtain rfl := Option.some.inj h
        show FinP _ _ _ _ _ _ _
        exact FinP.ret _ (res1 rfl rfl) ⟨rfl, (Ext.trans hE26 hS89.ext)⟩
      · replace h := inegb h hc90
        refine W.skip ?_
        show W _ _ _ _ _ _
        refine W.seq (W.seq ?_)
        obtain ⟨x118, hx119, h⟩ := bs h
        refine W.drawR mixo 3 [] [fun _ v S w' => ∃ (uu0 : Value), v = (Value.agg #[uu0]) ∧ (Ty.sl (Ty.sl (Ty.sl (Ty.i .i64)))).rep w' uu0 x46, fun _ v S w' => ∃ (uu0 : Value), v = (Value.agg #[uu0]) ∧ (Ty.sl (Ty.sl (Ty.sl (Ty.i .i64)))).rep w' uu0 aR_Table, fun _ v S w' => ∃ (uu0 : Value), v = (Value.agg #[uu0]) ∧ SepS S w' [(Ty.sl (Ty.sl (Ty.sl (Ty.i .i64)))).at uu0 x118]] (by kernel_rfl) (by kernel_rfl) ⟨⟨fun _ _ _ _ _ he ⟨uu0, h0, r0⟩ => ⟨uu0, h0, Ty.lift _ he r0⟩, fun _ _ _ _ _ _ h => h⟩, ⟨fun _ _ _ _ _ he ⟨uu0, h0, r0⟩ => ⟨uu0, h0, Ty.lift _ he r0⟩, fun _ _ _ _ _ _ h => h⟩, ⟨fun _ _ _ _ _ he ⟨uu0, h0, r0⟩ => ⟨uu0, h0, SepS.extend he r0⟩, fun _ _ _ _ _ _ h => h⟩, trivial⟩ ⟨?_, ?_, ?_, trivial⟩ ?_
        · refine ObX.op rfl ?_
          intro f92 wd93 he94 hout95 hphi96
          have hS97 : St wd21 wd93 [(Ty.sl (Ty.sl (Ty.sl (Ty.i .i64)))).at u48 x46, bx b53 [u48]] := St.extend hS89 he94
          have e98 : f92 10 = (Value.pointer (some ⟨b53, 0, none⟩)) := (hout95 10 rfl).trans hf87
          exact OpX.val (Value.agg #[u48]) wd93 rfl (op_loadBox st_26 e98 (St.boxAt hS97 1 rfl) rfl rfl) (Ext.refl _) ⟨u48, rfl, (St.rep (t := (Ty.sl (Ty.sl (Ty.sl (Ty.i .i64))))) hS97 0 rfl)⟩
        · refine ObX.op rfl ?_
          intro f99 wd100 he101 hout102 hphi103
          have hS104 : St wd21 wd100 [(Ty.sl (Ty.sl (Ty.sl (Ty.i .i64)))).at u48 x46, bx b53 [u48]] := St.extend hS89 he101
          have e105 : f99 3 = (Value.pointer (some ⟨b1, 0, none⟩)) := (hout102 3 rfl).trans hf86
          exact OpX.val (Value.agg #[v_aR_Table]) wd100 rfl (op_loadBox st_24 e105 (BoxAt.lift (Ext.trans hE27 hS104.ext) hx6) rfl rfl) (Ext.refl _) ⟨v_aR_Table, rfl, (Ty.lift _ (Ext.trans hE26 hS104.ext) r_aR_Table)⟩
        · refine ObX.op rfl ?_
          intro f106 wd107 he108 hout109 hphi110
          have hS111 : St wd21 wd107 [(Ty.sl (Ty.sl (Ty.sl (Ty.i .i64)))).at u48 x46, bx b53 [u48]] := St.extend hS89 he108
          obtain ⟨S112, hS113, hf114⟩ := hphi110 1 45 _ rfl rfl rfl
          obtain ⟨u116, e115, hr117⟩ := hf114
          refine OpX.call rfl (op_call fn_12 (args1 e115)) (Ret.mono (c_laws_toRing hr117 hx119) ?_)
          rintro _ wd121 ⟨u120, rfl, he122, hs123⟩
          exact ⟨he122, _, newS _ _, ⟨u120, rfl, (Sep.new hs123)⟩⟩
        · intro f124 wd125 Ss126 he127 hout128 hSn129 hSd130 hphi131
          show WL _ _ _ _ _ _ _
          have hS132 : St wd21 wd125 [(Ty.sl (Ty.sl (Ty.sl (Ty.i .i64)))).at u48 x46, bx b53 [u48]] := St.extend hS89 he127
          obtain ⟨u134, e133, hr135⟩ := hphi131 0 44 _ (by decide) rfl rfl
          obtain ⟨u137, e136, e136s⟩ := hphi131 2 46 _ (by decide) rfl rfl
          have hS138 := St.joinS hS89 he127 hSn129 (SepS.consS hSd130 rfl e136s SepS.nilS)
          replace hS138 : St wd21 wd125 [(Ty.sl (Ty.sl (Ty.sl (Ty.i .i64)))).at u48 x46, bx b53 [u48], (Ty.sl (Ty.sl (Ty.sl (Ty.i .i64)))).at u137 x118] := hS138
          obtain ⟨x139, hx140, h⟩ := bs h
          refine WL.call _ (op_call fn_14 (args2 e133 e136)) (c_laws_eqRing hr135 (St.rep (t := (Ty.sl (Ty.sl (Ty.sl (Ty.i .i64))))) hS138 2 rfl) hx140) rfl ?_
          rintro _ wd141 ⟨rfl, he142⟩
          have hS144 := St.extend hS138 he142
          replace hS144 : St wd21 wd141 [(Ty.sl (Ty.sl (Ty.sl (Ty.i .i64)))).at u48 x46, bx b53 [u48], (Ty.sl (Ty.sl (Ty.sl (Ty.i .i64)))).at u137 x118] := hS144
          refine WL.val (Value.bool (!x139)) _ (op_not rfl) rfl ?_
          refine WL.nil ?_
          show W _ _ _ _ _ _
          refine W.cond (!x139) rfl (fun hc145 => ?_) (fun hc145 => ?_)
          · replace h := ip h hc145
            refine W.seq (W.region ?_)
            refine WL.val (Value.bool false) _ (op_assign rfl) rfl ?_
            refine WL.nil ?_
            show W _ _ _ _ _ _
            refine W.ret ?_
            obtain rfl := Option.some.inj h
            show FinP _ _ _ _ _ _ _
            exact FinP.ret _ (res1 rfl rfl) ⟨rfl, (Ext.trans hE26 hS144.ext)⟩
          · replace h := inegb h hc145
            refine W.skip ?_
            show W _ _ _ _ _ _
            refine W.seq (W.region ?_)
            refine WL.val (Value.bool true) _ (op_assign rfl) rfl ?_
            refine WL.nil ?_
            show W _ _ _ _ _ _
            refine W.ret ?_
            obtain rfl := Option.some.inj h
            show FinP _ _ _ _ _ _ _
            exact FinP.ret _ (res1 rfl rfl) ⟨rfl, (Ext.trans hE26 hS144.ext)⟩

end Go.VG
