/- The walks, part 3: each Go function returns what its plain twin returns. No condition beyond what each names. -/
import Derived.Test.YtclffgakhkhglaaGWalk2
set_option linter.all false
namespace Go.VG
open Go.Proofs
attribute [local irreducible] W WL Sep FinP

theorem c_impl_Ring_turnFault {w : World} {r_Table : (List (List (List Int)))} {v_r_Table : Value} (r_r_Table : (Ty.sl (Ty.sl (Ty.sl (Ty.i .i64)))).rep w v_r_Table r_Table) {res : (List Int)} (h : p_impl_Ring_turnFault r_Table  = some res) :
    Ret Try.prog 106 #[(Value.agg #[v_r_Table])] w (fun v w' => ∃ (u0 : Value), v = u0 ∧ NilIff u0 res ∧ Ext w w' ∧ Sep w.heap.size w' [(Ty.sl (Ty.i .i64)).at u0 res]) := by
  unfold p_impl_Ring_turnFault at h
  have hS0 : St w w [] := St.start w
  refine Ret.start (fn := Try.f106) Try.func106 rfl 80 rfl rfl ?_
  refine W.seq ?_
  refine W.region ?_
  refine WL.box hS0 rfl (cs := [v_r_Table]) rfl rfl ?_
  intro b1 wd2 hS3 he4 hx5
  replace hS3 : St w wd2 [bx b1 [v_r_Table]] := hS3
  have hx6 := St.boxAt hS3 0 rfl
  have hE7 : Ext w wd2 := hS3.ext
  have hS8 : St wd2 wd2 [] := St.start wd2
  refine WL.val (Value.slice none 0 0) _ (op_assign rfl) rfl ?_
  refine WL.nil ?_
  show W _ _ _ _ _ _
  refine W.seq ?_
  refine W.region ?_
  refine WL.val (Value.agg #[v_r_Table]) _ (op_loadBox st_29 rfl (BoxAt.lift hS8.ext hx6) rfl rfl) rfl ?_
  obtain ⟨x9, hx10, h⟩ := bs h
  refine WL.call _ (op_call fn_87 (args1 rfl)) (c_impl_Ring_duals (Ty.lift _ (Ext.trans hE7 hS8.ext) r_r_Table) hx10) rfl ?_
  rintro u11 wd12 ⟨_, rfl, he13, hs14⟩
  have hS15 := St.join hS8 he13 hs14
  replace hS15 : St wd2 wd12 [(Ty.sl (Ty.i .i64)).at u11 x9] := hS15
  have hb16 := St.rep (t := (Ty.sl (Ty.i .i64))) hS15 0 rfl
  have hE17 : Ext w wd12 := (Ext.trans hE7 hS15.ext)
  have hE18 : Ext wd2 wd12 := hS15.ext
  have hS19 : St wd12 wd12 [] := St.start wd12
  refine WL.val u11 _ (op_assign rfl) rfl ?_
  refine WL.nil ?_
  show W _ _ _ _ _ _
  refine W.seq ?_
  refine W.seq ?_
  refine W.region ?_
  refine WL.val (Value.pointer (some ⟨b1, 0, none⟩)) _ (op_fieldAddr fd_29_0 rfl) rfl ?_
  refine WL.val v_r_Table _ (op_load one_22 rfl (BoxAt.cell (BoxAt.lift (Ext.trans hE18 hS19.ext) hx6) rfl)) rfl ?_
  have hr20 := inR_len (Ty.lift _ (Ext.trans hE17 hS19.ext) r_r_Table)
  refine WL.val (Value.int .i64 ((r_Table).length : Int)) _ (op_lenL sl_22 (Ty.lift _ (Ext.trans hE17 hS19.ext) r_r_Table) rfl) rfl ?_
  refine WL.val (Value.int .i64 (0 : Int)) _ (op_move rfl) rfl ?_
  refine WL.nil ?_
  show W _ _ _ _ _ _
  obtain ⟨res21, hres22, h⟩ := bs h
  refine W.blockLoop (fun fq wq => ∃ s, res21 = Res.fin s ∧ St wd12 wq []) ?_ ?_
  · refine W.forN (fun k (s : Unit) fq wq => fq 1 = (Value.pointer (some ⟨b1, 0, none⟩)) ∧ fq 3 = u11 ∧ fq 12 = (Value.int .i64 ((r_Table).length : Int)) ∧ fq 13 = Value.int .i64 (k : Int) ∧ InR .i64 (k : Int) ∧ St wd12 wq []) hres22 ⟨rfl, rfl, rfl, rfl, (inR_i64.2 (show (-9223372036854775808 : Int) ≤ 0 ∧ (0 : Int) ≤ 9223372036854775807 from by decide)), hS19⟩ ?_ ?_
    · intro k23 s669 ct24 f25 wd26 hk27 hb28 hI29 hbrk30 hret31
      obtain ⟨⟩ := s669
      replace hI29 : f25 1 = (Value.pointer (some ⟨b1, 0, none⟩)) ∧ f25 3 = u11 ∧ f25 12 = (Value.int .i64 ((r_Table).length : Int)) ∧ f25 13 = Value.int .i64 (k23 : Int) ∧ InR .i64 (k23 : Int) ∧ St wd12 wd26 [] := hI29
      replace hb28 : p_impl_Ring_turnFault_L1 r_Table x9 k23  = some ct24 := hb28
      unfold p_impl_Ring_turnFault_L1 at hb28
      obtain ⟨hf32, hf33, hf34, hf35, hr36, hS37⟩ := hI29
      refine W.seq ?_
      refine W.region ?_
      refine WL.val (Value.bool (decide ((k23 : Int) < ((r_Table).length : Int)))) _ (op_lss hf35 hf34) rfl ?_
      have hl38 : (k23 : Int) < ((r_Table).length : Int) := by omega
      refine WL.nil ?_
      show W _ _ _ _ _ _
      refine W.seq ?_
      refine W.condT (decide ((k23 : Int) < ((r_Table).length : Int))) rfl (decide_eq_true hl38) ?_
      refine W.skip ?_
      show W _ _ _ _ _ _
      refine W.seq ?_
      refine W.block ?_
      refine W.seq ?_
      refine W.region ?_
      refine WL.val (Value.int .i64 (k23 : Int)) _ (op_move hf35) rfl ?_
      refine WL.val (Value.int .i64 (k23 : Int)) _ (op_assign rfl) rfl ?_
      refine WL.nil ?_
      show W _ _ _ _ _ _
      refine W.seq ?_
      refine W.region ?_
      refine WL.val (Value.pointer (some ⟨b1, 0, none⟩)) _ (op_fieldAddr fd_29_0 hf32) rfl ?_
      refine WL.val v_r_Table _ (op_load one_22 rfl (BoxAt.cell (BoxAt.lift (Ext.trans hE18 hS37.ext) hx6) rfl)) rfl ?_
      have hr40 := inR_len (Ty.lift _ (Ext.trans hE17 hS37.ext) r_r_Table)
      refine WL.val (Value.int .i64 ((r_Table).length : Int)) _ (op_lenL sl_22 (Ty.lift _ (Ext.trans hE17 hS37.ext) r_r_Table) rfl) rfl ?_
      refine WL.val (Value.int .i64 (0 : Int)) _ (op_move rfl) rfl ?_
      refine WL.nil ?_
      show W _ _ _ _ _ _
      obtain ⟨res41, hres42, hb28⟩ := bs hb28
      refine W.blockLoop (fun fq wq => ∃ s, res41 = Res.fin s ∧ fq 1 = (Value.pointer (some ⟨b1, 0, none⟩)) ∧ fq 3 = u11 ∧ fq 12 = (Value.int .i64 ((r_Table).length : Int)) ∧ fq 13 = (Value.int .i64 (k23 : Int)) ∧ St wd12 wq []) ?_ ?_
      · refine W.forN (fun k (s : Unit) fq wq => fq 1 = (Value.pointer (some ⟨b1, 0, none⟩)) ∧ fq 3 = u11 ∧ fq 4 = (Value.int .i64 (k23 : Int)) ∧ fq 12 = (Value.int .i64 ((r_Table).length : Int)) ∧ fq 13 = (Value.int .i64 (k23 : Int)) ∧ fq 18 = (Value.int .i64 ((r_Table).length : Int)) ∧ fq 19 = Value.int .i64 (k : Int) ∧ InR .i64 (k : Int) ∧ St wd12 wq []) hres42 ⟨hf32, hf33, rfl, hf34, hf35, rfl, rfl, (inR_i64.2 (show (-9223372036854775808 : Int) ≤ 0 ∧ (0 : Int) ≤ 9223372036854775807 from by decide)), hS37⟩ ?_ ?_
        · intro k43 s643 ct44 f45 wd46 hk47 hb48 hI49 hbrk50 hret51
          obtain ⟨⟩ := s643
          replace hI49 : f45 1 = (Value.pointer (some ⟨b1, 0, none⟩)) ∧ f45 3 = u11 ∧ f45 4 = (Value.int .i64 (k23 : Int)) ∧ f45 12 = (Value.int .i64 ((r_Table).length : Int)) ∧ f45 13 = (Value.int .i64 (k23 : Int)) ∧ f45 18 = (Value.int .i64 ((r_Table).length : Int)) ∧ f45 19 = Value.int .i64 (k43 : Int) ∧ InR .i64 (k43 : Int) ∧ St wd12 wd46 [] := hI49
          replace hb48 : p_impl_Ring_turnFault_L2 r_Table k23 x9 k43  = some ct44 := hb48
          unfold p_impl_Ring_turnFault_L2 at hb48
          obtain ⟨hf52, hf53, hf54, hf55, hf56, hf57, hf58, hr59, hS60⟩ := hI49
          refine W.seq ?_
          refine W.region ?_
          refine WL.val (Value.bool (decide ((k43 : Int) < ((r_Table).length : Int)))) _ (op_lss hf58 hf57) rfl ?_
          have hl61 : (k43 : Int) < ((r_Table).length : Int) := by omega
          refine WL.nil ?_
          show W _ _ _ _ _ _
          refine W.seq ?_
          refine W.condT (decide ((k43 : Int) < ((r_Table).length : Int))) rfl (decide_eq_true hl61) ?_
          refine W.skip ?_
          show W _ _ _ _ _ _
          refine W.seq ?_
          refine W.block ?_
          refine W.seq ?_
          refine W.region ?_
          refine WL.val (Value.int .i64 (k43 : Int)) _ (op_move hf58) rfl ?_
          refine WL.val (Value.int .i64 (k43 : Int)) _ (op_assign rfl) rfl ?_
          refine WL.nil ?_
          show W _ _ _ _ _ _
          refine W.seq ?_
          refine W.region ?_
          refine WL.val (Value.pointer (some ⟨b1, 0, none⟩)) _ (op_fieldAddr fd_29_0 hf52) rfl ?_
          refine WL.val v_r_Table _ (op_load one_22 rfl (BoxAt.cell (BoxAt.lift (Ext.trans hE18 hS60.ext) hx6) rfl)) rfl ?_
          have hr63 := inR_len (Ty.lift _ (Ext.trans hE17 hS60.ext) r_r_Table)
          refine WL.val (Value.int .i64 ((r_Table).length : Int)) _ (op_lenL sl_22 (Ty.lift _ (Ext.trans hE17 hS60.ext) r_r_Table) rfl) rfl ?_
          refine WL.val (Value.int .i64 (0 : Int)) _ (op_move rfl) rfl ?_
          refine WL.nil ?_
          show W _ _ _ _ _ _
          obtain ⟨res64, hres65, hb48⟩ := bs hb48
          refine W.blockLoop (fun fq wq => ∃ s, res64 = Res.fin s ∧ fq 1 = (Value.pointer (some ⟨b1, 0, none⟩)) ∧ fq 3 = u11 ∧ fq 4 = (Value.int .i64 (k23 : Int)) ∧ fq 12 = (Value.int .i64 ((r_Table).length : Int)) ∧ fq 13 = (Value.int .i64 (k23 : Int)) ∧ fq 18 = (Value.int .i64 ((r_Table).length : Int)) ∧ fq 19 = (Value.int .i64 (k43 : Int)) ∧ St wd12 wq []) ?_ ?_
          · refine W.forN (fun k (s : Unit) fq wq => fq 1 = (Value.pointer (some ⟨b1, 0, none⟩)) ∧ fq 3 = u11 ∧ fq 4 = (Value.int .i64 (k23 : Int)) ∧ fq 5 = (Value.int .i64 (k43 : Int)) ∧ fq 12 = (Value.int .i64 ((r_Table).length : Int)) ∧ fq 13 = (Value.int .i64 (k23 : Int)) ∧ fq 18 = (Value.int .i64 ((r_Table).length : Int)) ∧ fq 19 = (Value.int .i64 (k43 : Int)) ∧ fq 24 = (Value.int .i64 ((r_Table).length : Int)) ∧ fq 25 = Value.int .i64 (k : Int) ∧ InR .i64 (k : Int) ∧ St wd12 wq []) hres65 ⟨hf52, hf53, hf54, rfl, hf55, hf56, hf57, hf58, rfl, rfl, (inR_i64.2 (show (-9223372036854775808 : Int) ≤ 0 ∧ (0 : Int) ≤ 9223372036854775807 from by decide)), hS60⟩ ?_ ?_
            · intro k66 s611 ct67 f68 wd69 hk70 hb71 hI72 hbrk73 hret74
              obtain ⟨⟩ := s611
              replace hI72 : f68 1 = (Value.pointer (some ⟨b1, 0, none⟩)) ∧ f68 3 = u11 ∧ f68 4 = (Value.int .i64 (k23 : Int)) ∧ f68 5 = (Value.int .i64 (k43 : Int)) ∧ f68 12 = (Value.int .i64 ((r_Table).length : Int)) ∧ f68 13 = (Value.int .i64 (k23 : Int)) ∧ f68 18 = (Value.int .i64 ((r_Table).length : Int)) ∧ f68 19 = (Value.int .i64 (k43 : Int)) ∧ f68 24 = (Value.int .i64 ((r_Table).length : Int)) ∧ f68 25 = Value.int .i64 (k66 : Int) ∧ InR .i64 (k66 : Int) ∧ St wd12 wd69 [] := hI72
              replace hb71 : p_impl_Ring_turnFault_L3 r_Table k23 k43 x9 k66  = some ct67 := hb71
              unfold p_impl_Ring_turnFault_L3 at hb71
              obtain ⟨hf75, hf76, hf77, hf78, hf79, hf80, hf81, hf82, hf83, hf84, hr85, hS86⟩ := hI72
              refine W.seq ?_
              refine W.region ?_
              refine WL.val (Value.bool (decide ((k66 : Int) < ((r_Table).length : Int)))) _ (op_lss hf84 hf83) rfl ?_
              have hl87 : (k66 : Int) < ((r_Table).length : Int) := by omega
              refine WL.nil ?_
              show W _ _ _ _ _ _
              refine W.seq ?_
              refine W.condT (decide ((k66 : Int) < ((r_Table).length : Int))) rfl (decide_eq_true hl87) ?_
              refine W.skip ?_
              show W _ _ _ _ _ _
              refine W.seq ?_
              refine W.block ?_
              refine W.seq ?_
              refine W.region ?_
              refine WL.val (Value.int .i64 (k66 : Int)) _ (op_move hf84) rfl ?_
              refine WL.val (Value.int .i64 (k66 : Int)) _ (op_assign rfl) rfl ?_
              refine WL.nil ?_
              show W _ _ _ _ _ _
              refine W.seq ?_
              refine W.region ?_
              refine WL.val (Value.pointer (some ⟨b1, 0, none⟩)) _ (op_fieldAddr fd_29_0 hf75) rfl ?_
              refine WL.val v_r_Table _ (op_load one_22 rfl (BoxAt.cell (BoxAt.lift (Ext.trans hE18 hS86.ext) hx6) rfl)) rfl ?_
              refine WL.val (Value.int .i64 (k23 : Int)) _ (op_move hf77) rfl ?_
              obtain ⟨x89, hx92, hb71⟩ := bs hb71
              obtain ⟨ha90, hb91, hx92⟩ := idx_some hx92
              refine WL.val (Value.pointer (some (elA v_r_Table ((k23 : Int)).toNat))) _ (op_idx sl_22 (Ty.lift _ (Ext.trans hE17 hS86.ext) r_r_Table) rfl rfl ha90 hb91) rfl ?_
              obtain ⟨u93, hc94, hr95⟩ := repSl.el r_r_Table hx92
              refine WL.val u93 _ (op_load one_65 rfl (Ext.cell (Ext.trans hE17 hS86.ext) hc94)) rfl ?_
              refine WL.val (Value.int .i64 (k43 : Int)) _ (op_move hf78) rfl ?_
              obtain ⟨x96, hx99, hb71⟩ := bs hb71
              obtain ⟨ha97, hb98, hx99⟩ := idx_some hx99
              refine WL.val (Value.pointer (some (elA u93 ((k43 : Int)).toNat))) _ (op_idx sl_65 (Ty.lift _ (Ext.trans hE17 hS86.ext) hr95) rfl rfl ha97 hb98) rfl ?_
              obtain ⟨u100, hc101, hr102⟩ := repSl.el hr95 hx99
              refine WL.val u100 _ (op_load one_25 rfl (Ext.cell (Ext.trans hE17 hS86.ext) hc101)) rfl ?_
              refine WL.val (Value.int .i64 (k66 : Int)) _ (op_move rfl) rfl ?_
              obtain ⟨x103, hx106, hb71⟩ := bs hb71
              obtain ⟨ha104, hb105, hx106⟩ := idx_some hx106
              refine WL.val (Value.pointer (some (elA u100 ((k66 : Int)).toNat))) _ (op_idx sl_25 (Ty.lift _ (Ext.trans hE17 hS86.ext) hr102) rfl rfl ha104 hb105) rfl ?_
              obtain ⟨u107, hc108, hr109⟩ := repSl.el hr102 hx106
              obtain ⟨rfl, hr109⟩ := hr109
              refine WL.val (Value.int .i64 x103) _ (op_load one_2 rfl (Ext.cell (Ext.trans hE17 hS86.ext) hc108)) rfl ?_
              refine WL.val (Value.int .i64 x103) _ (op_assign rfl) rfl ?_
              refine WL.nil ?_
              show W _ _ _ _ _ _
              refine W.seq ?_
              obtain ⟨x154, hx157, hb71⟩ := bs hb71
              obtain ⟨ha155, hb156, hx157⟩ := idx_some hx157
              obtain ⟨u165, hc166, hr167⟩ := repSl.el hb16 hx157
              obtain ⟨rfl, hr167⟩ := hr167
              obtain ⟨x177, hx180, hb71⟩ := bs hb71
              obtain ⟨ha178, hb179, hx180⟩ := idx_some hx180
              obtain ⟨u188, hc189, hr190⟩ := repSl.el r_r_Table hx180
              obtain ⟨x207, hx210, hb71⟩ := bs hb71
              obtain ⟨ha208, hb209, hx210⟩ := idx_some hx210
              obtain ⟨u218, hc219, hr220⟩ := repSl.el hr190 hx210
              obtain ⟨x237, hx240, hb71⟩ := bs hb71
              obtain ⟨ha238, hb239, hx240⟩ := idx_some hx240
              obtain ⟨u248, hc249, hr250⟩ := repSl.el hr220 hx240
              obtain ⟨rfl, hr250⟩ := hr250
              obtain ⟨x268, hj269, hb71⟩ := bs hb71
              refine W.cutCode (fun fq wq => fq 1 = (Value.pointer (some ⟨b1, 0, none⟩)) ∧ fq 3 = u11 ∧ fq 4 = (Value.int .i64 (k23 : Int)) ∧ fq 5 = (Value.int .i64 (k43 : Int)) ∧ fq 6 = (Value.int .i64 (k66 : Int)) ∧ fq 12 = (Value.int .i64 ((r_Table).length : Int)) ∧ fq 13 = (Value.int .i64 (k23 : Int)) ∧ fq 18 = (Value.int .i64 ((r_Table).length : Int)) ∧ fq 19 = (Value.int .i64 (k43 : Int)) ∧ fq 24 = (Value.int .i64 ((r_Table).length : Int)) ∧ fq 25 = (Value.int .i64 (k66 : Int)) ∧ fq 72 = Value.bool x268 ∧ St wd12 wq []) ?_ ?_
              · rcases Bool.eq_false_or_eq_true (x103 != x237) with hc270 | hc270
                · replace hj269 := ip hj269 hc270
                  refine W.draw mixo 32 [fun v _ => v = (Value.int .i64 x103) ∧ InR .i64 x103, fun v _ => v = (Value.pointer (some ⟨b1, 0, none⟩)), fun v _ => v = v_r_Table, fun v _ => v = u11, fun v _ => v = (Value.int .i64 (k23 : Int)) ∧ InR .i64 (k23 : Int), fun v _ => v = (Value.pointer (some (elA u11 ((k23 : Int)).toNat))), fun v _ => v = (Value.int .i64 x154) ∧ InR .i64 x154, fun v _ => v = (Value.pointer (some (elA v_r_Table (x154).toNat))), fun v _ => v = u188, fun v _ => v = (Value.int .i64 (k66 : Int)) ∧ InR .i64 (k66 : Int), fun v _ => v = (Value.pointer (some (elA u188 ((k66 : Int)).toNat))), fun v _ => v = u218, fun v _ => v = (Value.int .i64 (k43 : Int)) ∧ InR .i64 (k43 : Int), fun v _ => v = (Value.pointer (some (elA u218 ((k43 : Int)).toNat))), fun v _ => v = (Value.int .i64 x237) ∧ InR .i64 x237, fun v _ => v = (Value.bool (x103 != x237)), fun v _ => v = (Value.bool (x103 != x237)), fun v _ => v = undef, fun v _ => v = undef, fun v _ => v = undef, fun v _ => v = undef, fun v _ => v = undef, fun v _ => v = undef, fun v _ => v = undef, fun v _ => v = undef, fun v _ => v = undef, fun v _ => v = undef, fun v _ => v = undef, fun v _ => v = undef, fun v _ => v = undef, fun v _ => v = undef, fun v _ => v = undef] (by kernel_rfl) (by kernel_rfl) (stabL ⟨(fun _ _ _ _ h => h), (fun _ _ _ _ h => h), (fun _ _ _ _ h => h), (fun _ _ _ _ h => h), (fun _ _ _ _ h => h), (fun _ _ _ _ h => h), (fun _ _ _ _ h => h), (fun _ _ _ _ h => h), (fun _ _ _ _ h => h), (fun _ _ _ _ h => h), (fun _ _ _ _ h => h), (fun _ _ _ _ h => h), (fun _ _ _ _ h => h), (fun _ _ _ _ h => h), (fun _ _ _ _ h => h), (fun _ _ _ _ h => h), (fun _ _ _ _ h => h), (fun _ _ _ _ h => h), (fun _ _ _ _ h => h), (fun _ _ _ _ h => h), (fun _ _ _ _ h => h), (fun _ _ _ _ h => h), (fun _ _ _ _ h => h), (fun _ _ _ _ h => h), (fun _ _ _ _ h => h), (fun _ _ _ _ h => h), (fun _ _ _ _ h => h), (fun _ _ _ _ h => h), (fun _ _ _ _ h => h), (fun _ _ _ _ h => h), (fun _ _ _ _ h => h), (fun _ _ _ _ h => h), trivial⟩) ⟨?_, ?_, ?_, ?_, ?_, ?_, ?_, ?_, ?_, ?_, ?_, ?_, ?_, ?_, ?_, ?_, ?_, ?_, ?_, ?_, ?_, ?_, ?_, ?_, ?_, ?_, ?_, ?_, ?_, ?_, ?_, ?_, trivial⟩ ?_
                  · intro f110 wd111 he112 hout113 hphi114
                    have hS115 : St wd12 wd111 [] := St.extend hS86 he112
                    have e116 : f110 7 = (Value.int .i64 x103) := (hout113 7 rfl).trans rfl
                    exact OpY.val (Value.int .i64 x103) wd111 rfl (op_move e116) (Ext.refl _) ⟨rfl, hr109⟩
                  · intro f117 wd118 he119 hout120 hphi121
                    have hS122 : St wd12 wd118 [] := St.extend hS86 he119
                    have e123 : f117 1 = (Value.pointer (some ⟨b1, 0, none⟩)) := (hout120 1 rfl).trans hf75
                    exact OpY.val (Value.pointer (some ⟨b1, 0, none⟩)) wd118 rfl (op_fieldAddr fd_29_0 e123) (Ext.refl _) rfl
                  · intro f124 wd125 he126 hout127 hphi128
                    have hS129 : St wd12 wd125 [] := St.extend hS86 he126
                    have e130 : f124 40 = (Value.pointer (some ⟨b1, 0, none⟩)) := hphi128 1 40 _ rfl rfl rfl
                    exact OpY.val v_r_Table wd125 rfl (op_load one_22 e130 (BoxAt.cell (BoxAt.lift (Ext.trans hE18 hS129.ext) hx6) rfl)) (Ext.refl _) rfl
                  · intro f131 wd132 he133 hout134 hphi135
                    have hS136 : St wd12 wd132 [] := St.extend hS86 he133
                    have e137 : f131 3 = u11 := (hout134 3 rfl).trans hf76
                    exact OpY.val u11 wd132 rfl (op_move e137) (Ext.refl _) rfl
                  · intro f138 wd139 he140 hout141 hphi142
                    have hS143 : St wd12 wd139 [] := St.extend hS86 he140
                    have e144 : f138 4 = (Value.int .i64 (k23 : Int)) := (hout141 4 rfl).trans hf77
                    exact OpY.val (Value.int .i64 (k23 : Int)) wd139 rfl (op_move e144) (Ext.refl _) ⟨rfl, hr36⟩
                  · intro f145 wd146 he147 hout148 hphi149
                    have hS150 : St wd12 wd146 [] := St.extend hS86 he147
                    have e151 : f145 42 = u11 := hphi149 3 42 _ rfl rfl rfl
                    obtain ⟨e152, hr153⟩ : f145 43 = (Value.int .i64 (k23 : Int)) ∧ InR .i64 (k23 : Int) := hphi149 4 43 _ rfl rfl rfl
                    exact OpY.val (Value.pointer (some (elA u11 ((k23 : Int)).toNat))) wd146 rfl (op_idx sl_88 (Ty.lift _ hS150.ext hb16) e151 e152 ha155 hb156) (Ext.refl _) rfl
                  · intro f158 wd159 he160 hout161 hphi162
                    have hS163 : St wd12 wd159 [] := St.extend hS86 he160
                    have e164 : f158 44 = (Value.pointer (some (elA u11 ((k23 : Int)).toNat))) := hphi162 5 44 _ rfl rfl rfl
                    exact OpY.val (Value.int .i64 x154) wd159 rfl (op_load one_3 e164 (Ext.cell hS163.ext hc166)) (Ext.refl _) ⟨rfl, hr167⟩
                  · intro f168 wd169 he170 hout171 hphi172
                    have hS173 : St wd12 wd169 [] := St.extend hS86 he170
                    have e174 : f168 41 = v_r_Table := hphi172 2 41 _ rfl rfl rfl
                    obtain ⟨e175, hr176⟩ : f168 45 = (Value.int .i64 x154) ∧ InR .i64 x154 := hphi172 6 45 _ rfl rfl rfl
                    exact OpY.val (Value.pointer (some (elA v_r_Table (x154).toNat))) wd169 rfl (op_idx sl_22 (Ty.lift _ (Ext.trans hE17 hS173.ext) r_r_Table) e174 e175 ha178 hb179) (Ext.refl _) rfl
                  · intro f181 wd182 he183 hout184 hphi185
                    have hS186 : St wd12 wd182 [] := St.extend hS86 he183
                    have e187 : f181 46 = (Value.pointer (some (elA v_r_Table (x154).toNat))) := hphi185 7 46 _ rfl rfl rfl
                    exact OpY.val u188 wd182 rfl (op_load one_65 e187 (Ext.cell (Ext.trans hE17 hS186.ext) hc189)) (Ext.refl _) rfl
                  · intro f191 wd192 he193 hout194 hphi195
                    have hS196 : St wd12 wd192 [] := St.extend hS86 he193
                    have e197 : f191 6 = (Value.int .i64 (k66 : Int)) := (hout194 6 rfl).trans rfl
                    exact OpY.val (Value.int .i64 (k66 : Int)) wd192 rfl (op_move e197) (Ext.refl _) ⟨rfl, hr85⟩
                  · intro f198 wd199 he200 hout201 hphi202
                    have hS203 : St wd12 wd199 [] := St.extend hS86 he200
                    have e204 : f198 47 = u188 := hphi202 8 47 _ rfl rfl rfl
                    obtain ⟨e205, hr206⟩ : f198 48 = (Value.int .i64 (k66 : Int)) ∧ InR .i64 (k66 : Int) := hphi202 9 48 _ rfl rfl rfl
                    exact OpY.val (Value.pointer (some (elA u188 ((k66 : Int)).toNat))) wd199 rfl (op_idx sl_65 (Ty.lift _ (Ext.trans hE17 hS203.ext) hr190) e204 e205 ha208 hb209) (Ext.refl _) rfl
                  · intro f211 wd212 he213 hout214 hphi215
                    have hS216 : St wd12 wd212 [] := St.extend hS86 he213
                    have e217 : f211 49 = (Value.pointer (some (elA u188 ((k66 : Int)).toNat))) := hphi215 10 49 _ rfl rfl rfl
                    exact OpY.val u218 wd212 rfl (op_load one_25 e217 (Ext.cell (Ext.trans hE17 hS216.ext) hc219)) (Ext.refl _) rfl
                  · intro f221 wd222 he223 hout224 hphi225
                    have hS226 : St wd12 wd222 [] := St.extend hS86 he223
                    have e227 : f221 5 = (Value.int .i64 (k43 : Int)) := (hout224 5 rfl).trans hf78
                    exact OpY.val (Value.int .i64 (k43 : Int)) wd222 rfl (op_move e227) (Ext.refl _) ⟨rfl, hr59⟩
                  · intro f228 wd229 he230 hout231 hphi232
                    have hS233 : St wd12 wd229 [] := St.extend hS86 he230
                    have e234 : f228 50 = u218 := hphi232 11 50 _ rfl rfl rfl
                    obtain ⟨e235, hr236⟩ : f228 51 = (Value.int .i64 (k43 : Int)) ∧ InR .i64 (k43 : Int) := hphi232 12 51 _ rfl rfl rfl
                    exact OpY.val (Value.pointer (some (elA u218 ((k43 : Int)).toNat))) wd229 rfl (op_idx sl_25 (Ty.lift _ (Ext.trans hE17 hS233.ext) hr220) e234 e235 ha238 hb239) (Ext.refl _) rfl
                  · intro f241 wd242 he243 hout244 hphi245
                    have hS246 : St wd12 wd242 [] := St.extend hS86 he243
                    have e247 : f241 52 = (Value.pointer (some (elA u218 ((k43 : Int)).toNat))) := hphi245 13 52 _ rfl rfl rfl
                    exact OpY.val (Value.int .i64 x237) wd242 rfl (op_load one_2 e247 (Ext.cell (Ext.trans hE17 hS246.ext) hc249)) (Ext.refl _) ⟨rfl, hr250⟩
                  · intro f251 wd252 he253 hout254 hphi255
                    have hS256 : St wd12 wd252 [] := St.extend hS86 he253
                    obtain ⟨e257, hr258⟩ : f251 39 = (Value.int .i64 x103) ∧ InR .i64 x103 := hphi255 0 39 _ rfl rfl rfl
                    obtain ⟨e259, hr260⟩ : f251 53 = (Value.int .i64 x237) ∧ InR .i64 x237 := hphi255 14 53 _ rfl rfl rfl
                    exact OpY.val (Value.bool (x103 != x237)) wd252 rfl (op_neq e257 e259) (Ext.refl _) rfl
                  · intro f261 wd262 he263 hout264 hphi265
                    have hS266 : St wd12 wd262 [] := St.extend hS86 he263
                    have e267 : f261 54 = (Value.bool (x103 != x237)) := hphi265 15 54 _ rfl rfl rfl
                    exact OpY.val (Value.bool (x103 != x237)) wd262 rfl (op_move e267) (Ext.refl _) rfl
                  · intro f271 wd272 he273 hout274 hphi275
                    have e276 : f271 55 = (Value.bool (x103 != x237)) := hphi275 16 55 _ rfl rfl rfl
                    exact OpY.skip (wanted_skip rfl rfl e276 hc270) rfl
                  · intro f277 wd278 he279 hout280 hphi281
                    have e282 : f277 55 = (Value.bool (x103 != x237)) := hphi281 16 55 _ rfl rfl rfl
                    exact OpY.skip (wanted_skip rfl rfl e282 hc270) rfl
                  · intro f283 wd284 he285 hout286 hphi287
                    have e288 : f283 55 = (Value.bool (x103 != x237)) := hphi287 16 55 _ rfl rfl rfl
                    exact OpY.skip (wanted_skip rfl rfl e288 hc270) rfl
                  · intro f289 wd290 he291 hout292 hphi293
                    have e294 : f289 55 = (Value.bool (x103 != x237)) := hphi293 16 55 _ rfl rfl rfl
                    exact OpY.skip (wanted_skip rfl rfl e294 hc270) rfl
                  · intro f295 wd296 he297 hout298 hphi299
                    have e300 : f295 55 = (Value.bool (x103 != x237)) := hphi299 16 55 _ rfl rfl rfl
                    exact OpY.skip (wanted_skip rfl rfl e300 hc270) rfl
                  · intro f301 wd302 he303 hout304 hphi305
                    have e306 : f301 55 = (Value.bool (x103 != x237)) := hphi305 16 55 _ rfl rfl rfl
                    exact OpY.skip (wanted_skip rfl rfl e306 hc270) rfl
                  · intro f307 wd308 he309 hout310 hphi311
                    have e312 : f307 55 = (Value.bool (x103 != x237)) := hphi311 16 55 _ rfl rfl rfl
                    exact OpY.skip (wanted_skip rfl rfl e312 hc270) rfl
                  · intro f313 wd314 he315 hout316 hphi317
                    have e318 : f313 55 = (Value.bool (x103 != x237)) := hphi317 16 55 _ rfl rfl rfl
                    exact OpY.skip (wanted_skip rfl rfl e318 hc270) rfl
                  · intro f319 wd320 he321 hout322 hphi323
                    have e324 : f319 55 = (Value.bool (x103 != x237)) := hphi323 16 55 _ rfl rfl rfl
                    exact OpY.skip (wanted_skip rfl rfl e324 hc270) rfl
                  · intro f325 wd326 he327 hout328 hphi329
                    have e330 : f325 55 = (Value.bool (x103 != x237)) := hphi329 16 55 _ rfl rfl rfl
                    exact OpY.skip (wanted_skip rfl rfl e330 hc270) rfl
                  · intro f331 wd332 he333 hout334 hphi335
                    have e336 : f331 55 = (Value.bool (x103 != x237)) := hphi335 16 55 _ rfl rfl rfl
                    exact OpY.skip (wanted_skip rfl rfl e336 hc270) rfl
                  · intro f337 wd338 he339 hout340 hphi341
                    have e342 : f337 55 = (Value.bool (x103 != x237)) := hphi341 16 55 _ rfl rfl rfl
                    exact OpY.skip (wanted_skip rfl rfl e342 hc270) rfl
                  · intro f343 wd344 he345 hout346 hphi347
                    have e348 : f343 55 = (Value.bool (x103 != x237)) := hphi347 16 55 _ rfl rfl rfl
                    exact OpY.skip (wanted_skip rfl rfl e348 hc270) rfl
                  · intro f349 wd350 he351 hout352 hphi353
                    have e354 : f349 55 = (Value.bool (x103 != x237)) := hphi353 16 55 _ rfl rfl rfl
                    exact OpY.skip (wanted_skip rfl rfl e354 hc270) rfl
                  · intro f355 wd356 he357 hout358 hphi359
                    have e360 : f355 55 = (Value.bool (x103 != x237)) := hphi359 16 55 _ rfl rfl rfl
                    exact OpY.skip (wanted_skip rfl rfl e360 hc270) rfl
                  · intro f361 wd362 he363 hout364 hphi365
                    show WL _ _ _ _ _ _ _
                    have hS366 : St wd12 wd362 [] := St.extend hS86 he363
                    have e367 : f361 55 = (Value.bool (x103 != x237)) := hphi365 16 55 _ (by decide) rfl rfl
                    have e368 : f361 56 = undef := hphi365 17 56 _ (by decide) rfl rfl
                    have e369 : f361 57 = undef := hphi365 18 57 _ (by decide) rfl rfl
                    have e370 : f361 58 = undef := hphi365 19 58 _ (by decide) rfl rfl
                    have e371 : f361 59 = undef := hphi365 20 59 _ (by decide) rfl rfl
                    have e372 : f361 60 = undef := hphi365 21 60 _ (by decide) rfl rfl
                    have e373 : f361 61 = undef := hphi365 22 61 _ (by decide) rfl rfl
                    have e374 : f361 62 = undef := hphi365 23 62 _ (by decide) rfl rfl
                    have e375 : f361 63 = undef := hphi365 24 63 _ (by decide) rfl rfl
                    have e376 : f361 64 = undef := hphi365 25 64 _ (by decide) rfl rfl
                    have e377 : f361 65 = undef := hphi365 26 65 _ (by decide) rfl rfl
                    have e378 : f361 66 = undef := hphi365 27 66 _ (by decide) rfl rfl
                    have e379 : f361 67 = undef := hphi365 28 67 _ (by decide) rfl rfl
                    have e380 : f361 68 = undef := hphi365 29 68 _ (by decide) rfl rfl
                    have e381 : f361 69 = undef := hphi365 30 69 _ (by decide) rfl rfl
                    have e382 : f361 70 = undef := hphi365 31 70 _ (by decide) rfl rfl
                    have e383 : f361 1 = (Value.pointer (some ⟨b1, 0, none⟩)) := (hout364 1 rfl).trans hf75
                    have e384 : f361 3 = u11 := (hout364 3 rfl).trans hf76
                    have e385 : f361 4 = (Value.int .i64 (k23 : Int)) := (hout364 4 rfl).trans hf77
                    have e386 : f361 5 = (Value.int .i64 (k43 : Int)) := (hout364 5 rfl).trans hf78
                    have e387 : f361 6 = (Value.int .i64 (k66 : Int)) := (hout364 6 rfl).trans rfl
                    have e388 : f361 12 = (Value.int .i64 ((r_Table).length : Int)) := (hout364 12 rfl).trans hf79
                    have e389 : f361 13 = (Value.int .i64 (k23 : Int)) := (hout364 13 rfl).trans hf80
                    have e390 : f361 18 = (Value.int .i64 ((r_Table).length : Int)) := (hout364 18 rfl).trans hf81
                    have e391 : f361 19 = (Value.int .i64 (k43 : Int)) := (hout364 19 rfl).trans hf82
                    have e392 : f361 24 = (Value.int .i64 ((r_Table).length : Int)) := (hout364 24 rfl).trans hf83
                    have e393 : f361 25 = (Value.int .i64 (k66 : Int)) := (hout364 25 rfl).trans hf84
                    refine WL.gskip rfl (bool_of e367 hc270) rfl ?_
                    refine WL.val (Value.bool true) _ (op_pick_t (evb_of e367 hc270) rfl) rfl ?_
                    refine WL.nil ?_
                    obtain rfl := Option.some.inj hj269
                    exact ⟨e383, e384, e385, e386, e387, e388, e389, e390, e391, e392, e393, rfl, hS366⟩
                · replace hj269 := inegb hj269 hc270
                  obtain ⟨x436, hx439, hj269⟩ := bs hj269
                  obtain ⟨ha437, hb438, hx439⟩ := idx_some hx439
                  obtain ⟨u448, hc449, hr450⟩ := repSl.el r_r_Table hx439
                  obtain ⟨x477, hx480, hj269⟩ := bs hj269
                  obtain ⟨ha478, hb479, hx480⟩ := idx_some hx480
                  obtain ⟨u489, hc490, hr491⟩ := repSl.el hb16 hx480
                  obtain ⟨rfl, hr491⟩ := hr491
                  obtain ⟨x502, hx505, hj269⟩ := bs hj269
                  obtain ⟨ha503, hb504, hx505⟩ := idx_some hx505
                  obtain ⟨u514, hc515, hr516⟩ := repSl.el hr450 hx505
                  obtain ⟨x535, hx538, hj269⟩ := bs hj269
                  obtain ⟨ha536, hb537, hx538⟩ := idx_some hx538
                  obtain ⟨u547, hc548, hr549⟩ := repSl.el hr516 hx538
                  obtain ⟨rfl, hr549⟩ := hr549
                  refine W.draw mixo 32 [fun v _ => v = (Value.int .i64 x103) ∧ InR .i64 x103, fun v _ => v = (Value.pointer (some ⟨b1, 0, none⟩)), fun v _ => v = v_r_Table, fun v _ => v = u11, fun v _ => v = (Value.int .i64 (k23 : Int)) ∧ InR .i64 (k23 : Int), fun v _ => v = (Value.pointer (some (elA u11 ((k23 : Int)).toNat))), fun v _ => v = (Value.int .i64 x154) ∧ InR .i64 x154, fun v _ => v = (Value.pointer (some (elA v_r_Table (x154).toNat))), fun v _ => v = u188, fun v _ => v = (Value.int .i64 (k66 : Int)) ∧ InR .i64 (k66 : Int), fun v _ => v = (Value.pointer (some (elA u188 ((k66 : Int)).toNat))), fun v _ => v = u218, fun v _ => v = (Value.int .i64 (k43 : Int)) ∧ InR .i64 (k43 : Int), fun v _ => v = (Value.pointer (some (elA u218 ((k43 : Int)).toNat))), fun v _ => v = (Value.int .i64 x237) ∧ InR .i64 x237, fun v _ => v = (Value.bool (x103 != x237)), fun v _ => v = (Value.bool (x103 != x237)), fun v _ => v = (Value.int .i64 x103) ∧ InR .i64 x103, fun v _ => v = (Value.pointer (some ⟨b1, 0, none⟩)), fun v _ => v = v_r_Table, fun v _ => v = (Value.int .i64 (k66 : Int)) ∧ InR .i64 (k66 : Int), fun v _ => v = (Value.pointer (some (elA v_r_Table ((k66 : Int)).toNat))), fun v _ => v = u448, fun v _ => v = u11, fun v _ => v = (Value.int .i64 (k43 : Int)) ∧ InR .i64 (k43 : Int), fun v _ => v = (Value.pointer (some (elA u11 ((k43 : Int)).toNat))), fun v _ => v = (Value.int .i64 x477) ∧ InR .i64 x477, fun v _ => v = (Value.pointer (some (elA u448 (x477).toNat))), fun v _ => v = u514, fun v _ => v = (Value.int .i64 (k23 : Int)) ∧ InR .i64 (k23 : Int), fun v _ => v = (Value.pointer (some (elA u514 ((k23 : Int)).toNat))), fun v _ => v = (Value.int .i64 x535) ∧ InR .i64 x535] (by kernel_rfl) (by kernel_rfl) (stabL ⟨(fun _ _ _ _ h => h), (fun _ _ _ _ h => h), (fun _ _ _ _ h => h), (fun _ _ _ _ h => h), (fun _ _ _ _ h => h), (fun _ _ _ _ h => h), (fun _ _ _ _ h => h), (fun _ _ _ _ h => h), (fun _ _ _ _ h => h), (fun _ _ _ _ h => h), (fun _ _ _ _ h => h), (fun _ _ _ _ h => h), (fun _ _ _ _ h => h), (fun _ _ _ _ h => h), (fun _ _ _ _ h => h), (fun _ _ _ _ h => h), (fun _ _ _ _ h => h), (fun _ _ _ _ h => h), (fun _ _ _ _ h => h), (fun _ _ _ _ h => h), (fun _ _ _ _ h => h), (fun _ _ _ _ h => h), (fun _ _ _ _ h => h), (fun _ _ _ _ h => h), (fun _ _ _ _ h => h), (fun _ _ _ _ h => h), (fun _ _ _ _ h => h), (fun _ _ _ _ h => h), (fun _ _ _ _ h => h), (fun _ _ _ _ h => h), (fun _ _ _ _ h => h), (fun _ _ _ _ h => h), trivial⟩) ⟨?_, ?_, ?_, ?_, ?_, ?_, ?_, ?_, ?_, ?_, ?_, ?_, ?_, ?_, ?_, ?_, ?_, ?_, ?_, ?_, ?_, ?_, ?_, ?_, ?_, ?_, ?_, ?_, ?_, ?_, ?_, ?_, trivial⟩ ?_
                  · intro f110 wd111 he112 hout113 hphi114
                    have hS115 : St wd12 wd111 [] := St.extend hS86 he112
                    have e116 : f110 7 = (Value.int .i64 x103) := (hout113 7 rfl).trans rfl
                    exact OpY.val (Value.int .i64 x103) wd111 rfl (op_move e116) (Ext.refl _) ⟨rfl, hr109⟩
                  · intro f117 wd118 he119 hout120 hphi121
                    have hS122 : St wd12 wd118 [] := St.extend hS86 he119
                    have e123 : f117 1 = (Value.pointer (some ⟨b1, 0, none⟩)) := (hout120 1 rfl).trans hf75
                    exact OpY.val (Value.pointer (some ⟨b1, 0, none⟩)) wd118 rfl (op_fieldAddr fd_29_0 e123) (Ext.refl _) rfl
                  · intro f124 wd125 he126 hout127 hphi128
                    have hS129 : St wd12 wd125 [] := St.extend hS86 he126
                    have e130 : f124 40 = (Value.pointer (some ⟨b1, 0, none⟩)) := hphi128 1 40 _ rfl rfl rfl
                    exact OpY.val v_r_Table wd125 rfl (op_load one_22 e130 (BoxAt.cell (BoxAt.lift (Ext.trans hE18 hS129.ext) hx6) rfl)) (Ext.refl _) rfl
                  · intro f131 wd132 he133 hout134 hphi135
                    have hS136 : St wd12 wd132 [] := St.extend hS86 he133
                    have e137 : f131 3 = u11 := (hout134 3 rfl).trans hf76
                    exact OpY.val u11 wd132 rfl (op_move e137) (Ext.refl _) rfl
                  · intro f138 wd139 he140 hout141 hphi142
                    have hS143 : St wd12 wd139 [] := St.extend hS86 he140
                    have e144 : f138 4 = (Value.int .i64 (k23 : Int)) := (hout141 4 rfl).trans hf77
                    exact OpY.val (Value.int .i64 (k23 : Int)) wd139 rfl (op_move e144) (Ext.refl _) ⟨rfl, hr36⟩
                  · intro f145 wd146 he147 hout148 hphi149
                    have hS150 : St wd12 wd146 [] := St.extend hS86 he147
                    have e151 : f145 42 = u11 := hphi149 3 42 _ rfl rfl rfl
                    obtain ⟨e152, hr153⟩ : f145 43 = (Value.int .i64 (k23 : Int)) ∧ InR .i64 (k23 : Int) := hphi149 4 43 _ rfl rfl rfl
                    exact OpY.val (Value.pointer (some (elA u11 ((k23 : Int)).toNat))) wd146 rfl (op_idx sl_88 (Ty.lift _ hS150.ext hb16) e151 e152 ha155 hb156) (Ext.refl _) rfl
                  · intro f158 wd159 he160 hout161 hphi162
                    have hS163 : St wd12 wd159 [] := St.extend hS86 he160
                    have e164 : f158 44 = (Value.pointer (some (elA u11 ((k23 : Int)).toNat))) := hphi162 5 44 _ rfl rfl rfl
                    exact OpY.val (Value.int .i64 x154) wd159 rfl (op_load one_3 e164 (Ext.cell hS163.ext hc166)) (Ext.refl _) ⟨rfl, hr167⟩
                  · intro f168 wd169 he170 hout171 hphi172
                    have hS173 : St wd12 wd169 [] := St.extend hS86 he170
                    have e174 : f168 41 = v_r_Table := hphi172 2 41 _ rfl rfl rfl
                    obtain ⟨e175, hr176⟩ : f168 45 = (Value.int .i64 x154) ∧ InR .i64 x154 := hphi172 6 45 _ rfl rfl rfl
                    exact OpY.val (Value.pointer (some (elA v_r_Table (x154).toNat))) wd169 rfl (op_idx sl_22 (Ty.lift _ (Ext.trans hE17 hS173.ext) r_r_Table) e174 e175 ha178 hb179) (Ext.refl _) rfl
                  · intro f181 wd182 he183 hout184 hphi185
                    have hS186 : St wd12 wd182 [] := St.extend hS86 he183
                    have e187 : f181 46 = (Value.pointer (some (elA v_r_Table (x154).toNat))) := hphi185 7 46 _ rfl rfl rfl
                    exact OpY.val u188 wd182 rfl (op_load one_65 e187 (Ext.cell (Ext.trans hE17 hS186.ext) hc189)) (Ext.refl _) rfl
                  · intro f191 wd192 he193 hout194 hphi195
                    have hS196 : St wd12 wd192 [] := St.extend hS86 he193
                    have e197 : f191 6 = (Value.int .i64 (k66 : Int)) := (hout194 6 rfl).trans rfl
                    exact OpY.val (Value.int .i64 (k66 : Int)) wd192 rfl (op_move e197) (Ext.refl _) ⟨rfl, hr85⟩
                  · intro f198 wd199 he200 hout201 hphi202
                    have hS203 : St wd12 wd199 [] := St.extend hS86 he200
                    have e204 : f198 47 = u188 := hphi202 8 47 _ rfl rfl rfl
                    obtain ⟨e205, hr206⟩ : f198 48 = (Value.int .i64 (k66 : Int)) ∧ InR .i64 (k66 : Int) := hphi202 9 48 _ rfl rfl rfl
                    exact OpY.val (Value.pointer (some (elA u188 ((k66 : Int)).toNat))) wd199 rfl (op_idx sl_65 (Ty.lift _ (Ext.trans hE17 hS203.ext) hr190) e204 e205 ha208 hb209) (Ext.refl _) rfl
                  · intro f211 wd212 he213 hout214 hphi215
                    have hS216 : St wd12 wd212 [] := St.extend hS86 he213
                    have e217 : f211 49 = (Value.pointer (some (elA u188 ((k66 : Int)).toNat))) := hphi215 10 49 _ rfl rfl rfl
                    exact OpY.val u218 wd212 rfl (op_load one_25 e217 (Ext.cell (Ext.trans hE17 hS216.ext) hc219)) (Ext.refl _) rfl
                  · intro f221 wd222 he223 hout224 hphi225
                    have hS226 : St wd12 wd222 [] := St.extend hS86 he223
                    have e227 : f221 5 = (Value.int .i64 (k43 : Int)) := (hout224 5 rfl).trans hf78
                    exact OpY.val (Value.int .i64 (k43 : Int)) wd222 rfl (op_move e227) (Ext.refl _) ⟨rfl, hr59⟩
                  · intro f228 wd229 he230 hout231 hphi232
                    have hS233 : St wd12 wd229 [] := St.extend hS86 he230
                    have e234 : f228 50 = u218 := hphi232 11 50 _ rfl rfl rfl
                    obtain ⟨e235, hr236⟩ : f228 51 = (Value.int .i64 (k43 : Int)) ∧ InR .i64 (k43 : Int) := hphi232 12 51 _ rfl rfl rfl
                    exact OpY.val (Value.pointer (some (elA u218 ((k43 : Int)).toNat))) wd229 rfl (op_idx sl_25 (Ty.lift _ (Ext.trans hE17 hS233.ext) hr220) e234 e235 ha238 hb239) (Ext.refl _) rfl
                  · intro f241 wd242 he243 hout244 hphi245
                    have hS246 : St wd12 wd242 [] := St.extend hS86 he243
                    have e247 : f241 52 = (Value.pointer (some (elA u218 ((k43 : Int)).toNat))) := hphi245 13 52 _ rfl rfl rfl
                    exact OpY.val (Value.int .i64 x237) wd242 rfl (op_load one_2 e247 (Ext.cell (Ext.trans hE17 hS246.ext) hc249)) (Ext.refl _) ⟨rfl, hr250⟩
                  · intro f251 wd252 he253 hout254 hphi255
                    have hS256 : St wd12 wd252 [] := St.extend hS86 he253
                    obtain ⟨e257, hr258⟩ : f251 39 = (Value.int .i64 x103) ∧ InR .i64 x103 := hphi255 0 39 _ rfl rfl rfl
                    obtain ⟨e259, hr260⟩ : f251 53 = (Value.int .i64 x237) ∧ InR .i64 x237 := hphi255 14 53 _ rfl rfl rfl
                    exact OpY.val (Value.bool (x103 != x237)) wd252 rfl (op_neq e257 e259) (Ext.refl _) rfl
                  · intro f261 wd262 he263 hout264 hphi265
                    have hS266 : St wd12 wd262 [] := St.extend hS86 he263
                    have e267 : f261 54 = (Value.bool (x103 != x237)) := hphi265 15 54 _ rfl rfl rfl
                    exact OpY.val (Value.bool (x103 != x237)) wd262 rfl (op_move e267) (Ext.refl _) rfl
                  · intro f394 wd395 he396 hout397 hphi398
                    have hS399 : St wd12 wd395 [] := St.extend hS86 he396
                    have e400 : f394 7 = (Value.int .i64 x103) := (hout397 7 rfl).trans rfl
                    have e401 : f394 55 = (Value.bool (x103 != x237)) := hphi398 16 55 _ rfl rfl rfl
                    exact OpY.val (Value.int .i64 x103) wd395 (wanted_run rfl rfl e401 hc270) (op_move e400) (Ext.refl _) ⟨rfl, hr109⟩
                  · intro f402 wd403 he404 hout405 hphi406
                    have hS407 : St wd12 wd403 [] := St.extend hS86 he404
                    have e408 : f402 1 = (Value.pointer (some ⟨b1, 0, none⟩)) := (hout405 1 rfl).trans hf75
                    have e409 : f402 55 = (Value.bool (x103 != x237)) := hphi406 16 55 _ rfl rfl rfl
                    exact OpY.val (Value.pointer (some ⟨b1, 0, none⟩)) wd403 (wanted_run rfl rfl e409 hc270) (op_fieldAddr fd_29_0 e408) (Ext.refl _) rfl
                  · intro f410 wd411 he412 hout413 hphi414
                    have hS415 : St wd12 wd411 [] := St.extend hS86 he412
                    have e416 : f410 55 = (Value.bool (x103 != x237)) := hphi414 16 55 _ rfl rfl rfl
                    have e417 : f410 57 = (Value.pointer (some ⟨b1, 0, none⟩)) := hphi414 18 57 _ rfl rfl rfl
                    exact OpY.val v_r_Table wd411 (wanted_run rfl rfl e416 hc270) (op_load one_22 e417 (BoxAt.cell (BoxAt.lift (Ext.trans hE18 hS415.ext) hx6) rfl)) (Ext.refl _) rfl
                  · intro f418 wd419 he420 hout421 hphi422
                    have hS423 : St wd12 wd419 [] := St.extend hS86 he420
                    have e424 : f418 6 = (Value.int .i64 (k66 : Int)) := (hout421 6 rfl).trans rfl
                    have e425 : f418 55 = (Value.bool (x103 != x237)) := hphi422 16 55 _ rfl rfl rfl
                    exact OpY.val (Value.int .i64 (k66 : Int)) wd419 (wanted_run rfl rfl e425 hc270) (op_move e424) (Ext.refl _) ⟨rfl, hr85⟩
                  · intro f426 wd427 he428 hout429 hphi430
                    have hS431 : St wd12 wd427 [] := St.extend hS86 he428
                    have e432 : f426 55 = (Value.bool (x103 != x237)) := hphi430 16 55 _ rfl rfl rfl
                    have e433 : f426 58 = v_r_Table := hphi430 19 58 _ rfl rfl rfl
                    obtain ⟨e434, hr435⟩ : f426 59 = (Value.int .i64 (k66 : Int)) ∧ InR .i64 (k66 : Int) := hphi430 20 59 _ rfl rfl rfl
                    exact OpY.val (Value.pointer (some (elA v_r_Table ((k66 : Int)).toNat))) wd427 (wanted_run rfl rfl e432 hc270) (op_idx sl_22 (Ty.lift _ (Ext.trans hE17 hS431.ext) r_r_Table) e433 e434 ha437 hb438) (Ext.refl _) rfl
                  · intro f440 wd441 he442 hout443 hphi444
                    have hS445 : St wd12 wd441 [] := St.extend hS86 he442
                    have e446 : f440 55 = (Value.bool (x103 != x237)) := hphi444 16 55 _ rfl rfl rfl
                    have e447 : f440 60 = (Value.pointer (some (elA v_r_Table ((k66 : Int)).toNat))) := hphi444 21 60 _ rfl rfl rfl
                    exact OpY.val u448 wd441 (wanted_run rfl rfl e446 hc270) (op_load one_65 e447 (Ext.cell (Ext.trans hE17 hS445.ext) hc449)) (Ext.refl _) rfl
                  · intro f451 wd452 he453 hout454 hphi455
                    have hS456 : St wd12 wd452 [] := St.extend hS86 he453
                    have e457 : f451 3 = u11 := (hout454 3 rfl).trans hf76
                    have e458 : f451 55 = (Value.bool (x103 != x237)) := hphi455 16 55 _ rfl rfl rfl
                    exact OpY.val u11 wd452 (wanted_run rfl rfl e458 hc270) (op_move e457) (Ext.refl _) rfl
                  · intro f459 wd460 he461 hout462 hphi463
                    have hS464 : St wd12 wd460 [] := St.extend hS86 he461
                    have e465 : f459 5 = (Value.int .i64 (k43 : Int)) := (hout462 5 rfl).trans hf78
                    have e466 : f459 55 = (Value.bool (x103 != x237)) := hphi463 16 55 _ rfl rfl rfl
                    exact OpY.val (Value.int .i64 (k43 : Int)) wd460 (wanted_run rfl rfl e466 hc270) (op_move e465) (Ext.refl _) ⟨rfl, hr59⟩
                  · intro f467 wd468 he469 hout470 hphi471
                    have hS472 : St wd12 wd468 [] := St.extend hS86 he469
                    have e473 : f467 55 = (Value.bool (x103 != x237)) := hphi471 16 55 _ rfl rfl rfl
                    have e474 : f467 62 = u11 := hphi471 23 62 _ rfl rfl rfl
                    obtain ⟨e475, hr476⟩ : f467 63 = (Value.int .i64 (k43 : Int)) ∧ InR .i64 (k43 : Int) := hphi471 24 63 _ rfl rfl rfl
                    exact OpY.val (Value.pointer (some (elA u11 ((k43 : Int)).toNat))) wd468 (wanted_run rfl rfl e473 hc270) (op_idx sl_88 (Ty.lift _ hS472.ext hb16) e474 e475 ha478 hb479) (Ext.refl _) rfl
                  · intro f481 wd482 he483 hout484 hphi485
                    have hS486 : St wd12 wd482 [] := St.extend hS86 he483
                    have e487 : f481 55 = (Value.bool (x103 != x237)) := hphi485 16 55 _ rfl rfl rfl
                    have e488 : f481 64 = (Value.pointer (some (elA u11 ((k43 : Int)).toNat))) := hphi485 25 64 _ rfl rfl rfl
                    exact OpY.val (Value.int .i64 x477) wd482 (wanted_run rfl rfl e487 hc270) (op_load one_3 e488 (Ext.cell hS486.ext hc490)) (Ext.refl _) ⟨rfl, hr491⟩
                  · intro f492 wd493 he494 hout495 hphi496
                    have hS497 : St wd12 wd493 [] := St.extend hS86 he494
                    have e498 : f492 55 = (Value.bool (x103 != x237)) := hphi496 16 55 _ rfl rfl rfl
                    have e499 : f492 61 = u448 := hphi496 22 61 _ rfl rfl rfl
                    obtain ⟨e500, hr501⟩ : f492 65 = (Value.int .i64 x477) ∧ InR .i64 x477 := hphi496 26 65 _ rfl rfl rfl
                    exact OpY.val (Value.pointer (some (elA u448 (x477).toNat))) wd493 (wanted_run rfl rfl e498 hc270) (op_idx sl_65 (Ty.lift _ (Ext.trans hE17 hS497.ext) hr450) e499 e500 ha503 hb504) (Ext.refl _) rfl
                  · intro f506 wd507 he508 hout509 hphi510
                    have hS511 : St wd12 wd507 [] := St.extend hS86 he508
                    have e512 : f506 55 = (Value.bool (x103 != x237)) := hphi510 16 55 _ rfl rfl rfl
                    have e513 : f506 66 = (Value.pointer (some (elA u448 (x477).toNat))) := hphi510 27 66 _ rfl rfl rfl
                    exact OpY.val u514 wd507 (wanted_run rfl rfl e512 hc270) (op_load one_25 e513 (Ext.cell (Ext.trans hE17 hS511.ext) hc515)) (Ext.refl _) rfl
                  · intro f517 wd518 he519 hout520 hphi521
                    have hS522 : St wd12 wd518 [] := St.extend hS86 he519
                    have e523 : f517 4 = (Value.int .i64 (k23 : Int)) := (hout520 4 rfl).trans hf77
                    have e524 : f517 55 = (Value.bool (x103 != x237)) := hphi521 16 55 _ rfl rfl rfl
                    exact OpY.val (Value.int .i64 (k23 : Int)) wd518 (wanted_run rfl rfl e524 hc270) (op_move e523) (Ext.refl _) ⟨rfl, hr36⟩
                  · intro f525 wd526 he527 hout528 hphi529
                    have hS530 : St wd12 wd526 [] := St.extend hS86 he527
                    have e531 : f525 55 = (Value.bool (x103 != x237)) := hphi529 16 55 _ rfl rfl rfl
                    have e532 : f525 67 = u514 := hphi529 28 67 _ rfl rfl rfl
                    obtain ⟨e533, hr534⟩ : f525 68 = (Value.int .i64 (k23 : Int)) ∧ InR .i64 (k23 : Int) := hphi529 29 68 _ rfl rfl rfl
                    exact OpY.val (Value.pointer (some (elA u514 ((k23 : Int)).toNat))) wd526 (wanted_run rfl rfl e531 hc270) (op_idx sl_25 (Ty.lift _ (Ext.trans hE17 hS530.ext) hr516) e532 e533 ha536 hb537) (Ext.refl _) rfl
                  · intro f539 wd540 he541 hout542 hphi543
                    have hS544 : St wd12 wd540 [] := St.extend hS86 he541
                    have e545 : f539 55 = (Value.bool (x103 != x237)) := hphi543 16 55 _ rfl rfl rfl
                    have e546 : f539 69 = (Value.pointer (some (elA u514 ((k23 : Int)).toNat))) := hphi543 30 69 _ rfl rfl rfl
                    exact OpY.val (Value.int .i64 x535) wd540 (wanted_run rfl rfl e545 hc270) (op_load one_2 e546 (Ext.cell (Ext.trans hE17 hS544.ext) hc548)) (Ext.refl _) ⟨rfl, hr549⟩
                  · intro f550 wd551 he552 hout553 hphi554
                    show WL _ _ _ _ _ _ _
                    have hS555 : St wd12 wd551 [] := St.extend hS86 he552
                    have e556 : f550 55 = (Value.bool (x103 != x237)) := hphi554 16 55 _ (by decide) rfl rfl
                    obtain ⟨e557, hr558⟩ : f550 56 = (Value.int .i64 x103) ∧ InR .i64 x103 := hphi554 17 56 _ (by decide) rfl rfl
                    have e559 : f550 57 = (Value.pointer (some ⟨b1, 0, none⟩)) := hphi554 18 57 _ (by decide) rfl rfl
                    have e560 : f550 58 = v_r_Table := hphi554 19 58 _ (by decide) rfl rfl
                    obtain ⟨e561, hr562⟩ : f550 59 = (Value.int .i64 (k66 : Int)) ∧ InR .i64 (k66 : Int) := hphi554 20 59 _ (by decide) rfl rfl
                    have e563 : f550 60 = (Value.pointer (some (elA v_r_Table ((k66 : Int)).toNat))) := hphi554 21 60 _ (by decide) rfl rfl
                    have e564 : f550 61 = u448 := hphi554 22 61 _ (by decide) rfl rfl
                    have e565 : f550 62 = u11 := hphi554 23 62 _ (by decide) rfl rfl
                    obtain ⟨e566, hr567⟩ : f550 63 = (Value.int .i64 (k43 : Int)) ∧ InR .i64 (k43 : Int) := hphi554 24 63 _ (by decide) rfl rfl
                    have e568 : f550 64 = (Value.pointer (some (elA u11 ((k43 : Int)).toNat))) := hphi554 25 64 _ (by decide) rfl rfl
                    obtain ⟨e569, hr570⟩ : f550 65 = (Value.int .i64 x477) ∧ InR .i64 x477 := hphi554 26 65 _ (by decide) rfl rfl
                    have e571 : f550 66 = (Value.pointer (some (elA u448 (x477).toNat))) := hphi554 27 66 _ (by decide) rfl rfl
                    have e572 : f550 67 = u514 := hphi554 28 67 _ (by decide) rfl rfl
                    obtain ⟨e573, hr574⟩ : f550 68 = (Value.int .i64 (k23 : Int)) ∧ InR .i64 (k23 : Int) := hphi554 29 68 _ (by decide) rfl rfl
                    have e575 : f550 69 = (Value.pointer (some (elA u514 ((k23 : Int)).toNat))) := hphi554 30 69 _ (by decide) rfl rfl
                    obtain ⟨e576, hr577⟩ : f550 70 = (Value.int .i64 x535) ∧ InR .i64 x535 := hphi554 31 70 _ (by decide) rfl rfl
                    have e578 : f550 1 = (Value.pointer (some ⟨b1, 0, none⟩)) := (hout553 1 rfl).trans hf75
                    have e579 : f550 3 = u11 := (hout553 3 rfl).trans hf76
                    have e580 : f550 4 = (Value.int .i64 (k23 : Int)) := (hout553 4 rfl).trans hf77
                    have e581 : f550 5 = (Value.int .i64 (k43 : Int)) := (hout553 5 rfl).trans hf78
                    have e582 : f550 6 = (Value.int .i64 (k66 : Int)) := (hout553 6 rfl).trans rfl
                    have e583 : f550 12 = (Value.int .i64 ((r_Table).length : Int)) := (hout553 12 rfl).trans hf79
                    have e584 : f550 13 = (Value.int .i64 (k23 : Int)) := (hout553 13 rfl).trans hf80
                    have e585 : f550 18 = (Value.int .i64 ((r_Table).length : Int)) := (hout553 18 rfl).trans hf81
                    have e586 : f550 19 = (Value.int .i64 (k43 : Int)) := (hout553 19 rfl).trans hf82
                    have e587 : f550 24 = (Value.int .i64 ((r_Table).length : Int)) := (hout553 24 rfl).trans hf83
                    have e588 : f550 25 = (Value.int .i64 (k66 : Int)) := (hout553 25 rfl).trans hf84
                    refine WL.grun rfl (bool_of e556 hc270) ?_
                    refine WL.val (Value.bool (x103 != x535)) _ (op_neq e557 e576) rfl ?_
                    refine WL.val (Value.bool (x103 != x535)) _ (op_pick_f (evb_of e556 hc270) rfl) rfl ?_
                    refine WL.nil ?_
                    obtain rfl := Option.some.inj hj269
                    exact ⟨e578, e579, e580, e581, e582, e583, e584, e585, e586, e587, e588, rfl, hS555⟩
              · intro f589 wd590 hq591
                obtain ⟨hf592, hf593, hf594, hf595, hf596, hf597, hf598, hf599, hf600, hf601, hf602, hf603, hS604⟩ := hq591
                show W _ _ _ _ _ _
                refine W.cond x268 hf603 (fun hc605 => ?_) (fun hc605 => ?_)
                · replace hb71 := ip hb71 hc605
                  refine W.seq ?_
                  refine W.region ?_
                  refine WL.val (Value.int .i64 (k23 : Int)) _ (op_move hf594) rfl ?_
                  refine WL.val (Value.int .i64 (k43 : Int)) _ (op_move hf595) rfl ?_
                  refine WL.val (Value.int .i64 (k66 : Int)) _ (op_move hf596) rfl ?_
                  refine WL.litFlat (t := (Ty.i .i64)) (flat_i .i64) [(Value.int .i64 (2 : Int)), (Value.int .i64 (k23 : Int)), (Value.int .i64 (k43 : Int)), (Value.int .i64 (k66 : Int))] [(2 : Int), (k23 : Int), (k43 : Int), (k66 : Int)] hS604 sl_25 rfl rfl (fillL rfl ⟨rfl, rfl, rfl, rfl, rfl, rfl, rfl, rfl, rfl, rfl, rfl, rfl, trivial⟩) rfl rfl (litL ⟨⟨rfl, (inR_i64.2 (show (-9223372036854775808 : Int) ≤ 2 ∧ (2 : Int) ≤ 9223372036854775807 from by decide))⟩, ⟨rfl, hr36⟩, ⟨rfl, hr59⟩, ⟨rfl, hr85⟩, trivial⟩) rfl ?_
                  intro u607 wd608 hS609 he610
                  replace hS609 : St wd12 wd608 [(Ty.sl (Ty.i .i64)).at u607 ([(2 : Int), (k23 : Int), (k43 : Int), (k66 : Int)] : (List Int))] := hS609
                  refine WL.val u607 _ (op_assign rfl) rfl ?_
                  refine WL.nil ?_
                  show W _ _ _ _ _ _
                  refine W.ret ?_
                  obtain rfl := Option.some.inj hb71
                  obtain rfl := hret74 _ rfl
                  replace hb48 := onRes_ret hb48
                  obtain rfl := Option.some.inj hb48
                  obtain rfl := hret51 _ rfl
                  replace hb28 := onRes_ret hb28
                  obtain rfl := Option.some.inj hb28
                  obtain rfl := hret31 _ rfl
                  replace h := onRes_ret h
                  obtain rfl := Option.some.inj h
                  show FinP _ _ _ _ _ _ _
                  exact FinP.ret _ (res1 rfl rfl) ⟨u607, rfl, (nil_cons), (Ext.trans hE17 hS609.ext), (St.out (St.pick hS609 [0] rfl) (hE17))⟩
                · replace hb71 := inegb hb71 hc605
                  refine W.skip ?_
                  show W _ _ _ _ _ _
                  refine W.region ?_
                  refine WL.val (Value.int .i64 (w64 ((k66 : Int) + (1 : Int)))) _ (op_add hf602 rfl) rfl ?_
                  refine WL.val (Value.int .i64 (w64 ((k66 : Int) + (1 : Int)))) _ (op_move rfl) rfl ?_
                  refine WL.nil ?_
                  obtain rfl := Option.some.inj hb71
                  show ∃ s, _ = Ctl.next s ∧ _
                  exact ⟨_, rfl, hf592, hf593, hf594, hf595, hf597, hf598, hf599, hf600, hf601, (ctr_next hl87 hr63), (ctr_rng hl87 hr63), hS604⟩
            · intro s616 f612 wd613 hs614 hI615
              obtain ⟨⟩ := s616
              replace hI615 : f612 1 = (Value.pointer (some ⟨b1, 0, none⟩)) ∧ f612 3 = u11 ∧ f612 4 = (Value.int .i64 (k23 : Int)) ∧ f612 5 = (Value.int .i64 (k43 : Int)) ∧ f612 12 = (Value.int .i64 ((r_Table).length : Int)) ∧ f612 13 = (Value.int .i64 (k23 : Int)) ∧ f612 18 = (Value.int .i64 ((r_Table).length : Int)) ∧ f612 19 = (Value.int .i64 (k43 : Int)) ∧ f612 24 = (Value.int .i64 ((r_Table).length : Int)) ∧ f612 25 = Value.int .i64 (((r_Table).length : Nat) : Int) ∧ InR .i64 (((r_Table).length : Nat) : Int) ∧ St wd12 wd613 [] := hI615
              obtain ⟨hf617, hf618, hf619, hf620, hf621, hf622, hf623, hf624, hf625, hf626, hr627, hS628⟩ := hI615
              refine W.seq ?_
              refine W.region ?_
              refine WL.val (Value.bool (decide ((((r_Table).length : Nat) : Int) < ((r_Table).length : Int)))) _ (op_lss hf626 hf625) rfl ?_
              have hl629 : ¬ (((r_Table).length : Nat) : Int) < ((r_Table).length : Int) := by omega
              refine WL.nil ?_
              show W _ _ _ _ _ _
              refine W.seq ?_
              refine W.condF (decide ((((r_Table).length : Nat) : Int) < ((r_Table).length : Int))) rfl (decide_eq_false hl629) ?_
              refine W.exit ?_
              show _ = _ ∧ _
              exact ⟨rfl, _, hs614, hf617, hf618, hf619, hf621, hf622, hf623, hf624, hS628⟩
          · rintro f630 wd631 ⟨s633, rfl, hq632⟩
            replace hb48 := onRes_fin hb48
            obtain ⟨⟩ := s633
            replace hq632 : f630 1 = (Value.pointer (some ⟨b1, 0, none⟩)) ∧ f630 3 = u11 ∧ f630 4 = (Value.int .i64 (k23 : Int)) ∧ f630 12 = (Value.int .i64 ((r_Table).length : Int)) ∧ f630 13 = (Value.int .i64 (k23 : Int)) ∧ f630 18 = (Value.int .i64 ((r_Table).length : Int)) ∧ f630 19 = (Value.int .i64 (k43 : Int)) ∧ St wd12 wd631 [] := hq632
            obtain ⟨hf634, hf635, hf636, hf637, hf638, hf639, hf640, hS641⟩ := hq632
            show W _ _ _ _ _ _
            refine W.region ?_
            refine WL.val (Value.int .i64 (w64 ((k43 : Int) + (1 : Int)))) _ (op_add hf640 rfl) rfl ?_
            refine WL.val (Value.int .i64 (w64 ((k43 : Int) + (1 : Int)))) _ (op_move rfl) rfl ?_
            refine WL.nil ?_
            obtain rfl := Option.some.inj hb48
            show ∃ s, _ = Ctl.next s ∧ _
            exact ⟨_, rfl, hf634, hf635, hf636, hf637, hf638, hf639, (ctr_next hl61 hr40), (ctr_rng hl61 hr40), hS641⟩
        · intro s648 f644 wd645 hs646 hI647
          obtain ⟨⟩ := s648
          replace hI647 : f644 1 = (Value.pointer (some ⟨b1, 0, none⟩)) ∧ f644 3 = u11 ∧ f644 4 = (Value.int .i64 (k23 : Int)) ∧ f644 12 = (Value.int .i64 ((r_Table).length : Int)) ∧ f644 13 = (Value.int .i64 (k23 : Int)) ∧ f644 18 = (Value.int .i64 ((r_Table).length : Int)) ∧ f644 19 = Value.int .i64 (((r_Table).length : Nat) : Int) ∧ InR .i64 (((r_Table).length : Nat) : Int) ∧ St wd12 wd645 [] := hI647
          obtain ⟨hf649, hf650, hf651, hf652, hf653, hf654, hf655, hr656, hS657⟩ := hI647
          refine W.seq ?_
          refine W.region ?_
          refine WL.val (Value.bool (decide ((((r_Table).length : Nat) : Int) < ((r_Table).length : Int)))) _ (op_lss hf655 hf654) rfl ?_
          have hl658 : ¬ (((r_Table).length : Nat) : Int) < ((r_Table).length : Int) := by omega
          refine WL.nil ?_
          show W _ _ _ _ _ _
          refine W.seq ?_
          refine W.condF (decide ((((r_Table).length : Nat) : Int) < ((r_Table).length : Int))) rfl (decide_eq_false hl658) ?_
          refine W.exit ?_
          show _ = _ ∧ _
          exact ⟨rfl, _, hs646, hf649, hf650, hf652, hf653, hS657⟩
      · rintro f659 wd660 ⟨s662, rfl, hq661⟩
        replace hb28 := onRes_fin hb28
        obtain ⟨⟩ := s662
        replace hq661 : f659 1 = (Value.pointer (some ⟨b1, 0, none⟩)) ∧ f659 3 = u11 ∧ f659 12 = (Value.int .i64 ((r_Table).length : Int)) ∧ f659 13 = (Value.int .i64 (k23 : Int)) ∧ St wd12 wd660 [] := hq661
        obtain ⟨hf663, hf664, hf665, hf666, hS667⟩ := hq661
        show W _ _ _ _ _ _
        refine W.region ?_
        refine WL.val (Value.int .i64 (w64 ((k23 : Int) + (1 : Int)))) _ (op_add hf666 rfl) rfl ?_
        refine WL.val (Value.int .i64 (w64 ((k23 : Int) + (1 : Int)))) _ (op_move rfl) rfl ?_
        refine WL.nil ?_
        obtain rfl := Option.some.inj hb28
        show ∃ s, _ = Ctl.next s ∧ _
        exact ⟨_, rfl, hf663, hf664, hf665, (ctr_next hl38 hr20), (ctr_rng hl38 hr20), hS667⟩
    · intro s674 f670 wd671 hs672 hI673
      obtain ⟨⟩ := s674
      replace hI673 : f670 1 = (Value.pointer (some ⟨b1, 0, none⟩)) ∧ f670 3 = u11 ∧ f670 12 = (Value.int .i64 ((r_Table).length : Int)) ∧ f670 13 = Value.int .i64 (((r_Table).length : Nat) : Int) ∧ InR .i64 (((r_Table).length : Nat) : Int) ∧ St wd12 wd671 [] := hI673
      obtain ⟨hf675, hf676, hf677, hf678, hr679, hS680⟩ := hI673
      refine W.seq ?_
      refine W.region ?_
      refine WL.val (Value.bool (decide ((((r_Table).length : Nat) : Int) < ((r_Table).length : Int)))) _ (op_lss hf678 hf677) rfl ?_
      have hl681 : ¬ (((r_Table).length : Nat) : Int) < ((r_Table).length : Int) := by omega
      refine WL.nil ?_
      show W _ _ _ _ _ _
      refine W.seq ?_
      refine W.condF (decide ((((r_Table).length : Nat) : Int) < ((r_Table).length : Int))) rfl (decide_eq_false hl681) ?_
      refine W.exit ?_
      show _ = _ ∧ _
      exact ⟨rfl, _, hs672, hS680⟩
  · rintro f682 wd683 ⟨s685, rfl, hq684⟩
    replace h := onRes_fin h
    obtain ⟨⟩ := s685
    replace hq684 : St wd12 wd683 [] := hq684
    have hS686 := hq684
    show W _ _ _ _ _ _
    refine W.seq ?_
    refine W.region ?_
    refine WL.val (Value.slice none 0 0) _ (op_assign rfl) rfl ?_
    refine WL.nil ?_
    show W _ _ _ _ _ _
    refine W.ret ?_
    obtain rfl := Option.some.inj h
    show FinP _ _ _ _ _ _ _
    exact FinP.ret _ (res1 rfl rfl) ⟨(Value.slice none 0 0), rfl, (fun _ => ⟨0, 0, rfl⟩), (Ext.trans hE17 hS686.ext), (St.out (St.pick (St.addNil (Ty.i .i64) hS686) [0] rfl) (hE17))⟩

theorem c_impl_Ring_bracketFault {w : World} {r_Table : (List (List (List Int)))} {v_r_Table : Value} (r_r_Table : (Ty.sl (Ty.sl (Ty.sl (Ty.i .i64)))).rep w v_r_Table r_Table) {res : (List Int)} (h : p_impl_Ring_bracketFault r_Table  = some res) :
    Ret Try.prog 107 #[(Value.agg #[v_r_Table])] w (fun v w' => ∃ (u0 : Value), v = u0 ∧ NilIff u0 res ∧ Ext w w' ∧ Sep w.heap.size w' [(Ty.sl (Ty.i .i64)).at u0 res]) := by
  unfold p_impl_Ring_bracketFault at h
  have hS0 : St w w [] := St.start w
  refine Ret.start (fn := Try.f107) Try.func107 rfl 97 rfl rfl ?_
  refine W.seq ?_
  refine W.region ?_
  refine WL.box hS0 rfl (cs := [v_r_Table]) rfl rfl ?_
  intro b1 wd2 hS3 he4 hx5
  replace hS3 : St w wd2 [bx b1 [v_r_Table]] := hS3
  have hx6 := St.boxAt hS3 0 rfl
  have hE7 : Ext w wd2 := hS3.ext
  have hS8 : St wd2 wd2 [] := St.start wd2
  refine WL.val (Value.slice none 0 0) _ (op_assign rfl) rfl ?_
  refine WL.nil ?_
  show W _ _ _ _ _ _
  refine W.seq ?_
  refine W.seq ?_
  refine W.region ?_
  refine WL.val (Value.pointer (some ⟨b1, 0, none⟩)) _ (op_fieldAddr fd_29_0 rfl) rfl ?_
  refine WL.val v_r_Table _ (op_load one_22 rfl (BoxAt.cell (BoxAt.lift hS8.ext hx6) rfl)) rfl ?_
  have hr9 := inR_len (Ty.lift _ (Ext.trans hE7 hS8.ext) r_r_Table)
  refine WL.val (Value.int .i64 ((r_Table).length : Int)) _ (op_lenL sl_22 (Ty.lift _ (Ext.trans hE7 hS8.ext) r_r_Table) rfl) rfl ?_
  refine WL.val (Value.int .i64 (0 : Int)) _ (op_move rfl) rfl ?_
  refine WL.nil ?_
  show W _ _ _ _ _ _
  obtain ⟨res10, hres11, h⟩ := bs h
  refine W.blockLoop (fun fq wq => ∃ s, res10 = Res.fin s ∧ St wd2 wq []) ?_ ?_
  · refine W.forN (fun k (s : Unit) fq wq => fq 1 = (Value.pointer (some ⟨b1, 0, none⟩)) ∧ fq 13 = v_r_Table ∧ fq 14 = (Value.int .i64 ((r_Table).length : Int)) ∧ fq 15 = Value.int .i64 (k : Int) ∧ InR .i64 (k : Int) ∧ St wd2 wq []) hres11 ⟨rfl, rfl, rfl, rfl, (inR_i64.2 (show (-9223372036854775808 : Int) ≤ 0 ∧ (0 : Int) ≤ 9223372036854775807 from by decide)), hS8⟩ ?_ ?_
    · intro k12 s748 ct13 f14 wd15 hk16 hb17 hI18 hbrk19 hret20
      obtain ⟨⟩ := s748
      replace hI18 : f14 1 = (Value.pointer (some ⟨b1, 0, none⟩)) ∧ f14 13 = v_r_Table ∧ f14 14 = (Value.int .i64 ((r_Table).length : Int)) ∧ f14 15 = Value.int .i64 (k12 : Int) ∧ InR .i64 (k12 : Int) ∧ St wd2 wd15 [] := hI18
      replace hb17 : p_impl_Ring_bracketFault_L1 r_Table k12  = some ct13 := hb17
      unfold p_impl_Ring_bracketFault_L1 at hb17
      obtain ⟨hf21, hf22, hf23, hf24, hr25, hS26⟩ := hI18
      refine W.seq ?_
      refine W.region ?_
      refine WL.val (Value.bool (decide ((k12 : Int) < ((r_Table).length : Int)))) _ (op_lss hf24 hf23) rfl ?_
      have hl27 : (k12 : Int) < ((r_Table).length : Int) := by omega
      refine WL.nil ?_
      show W _ _ _ _ _ _
      refine W.seq ?_
      refine W.condT (decide ((k12 : Int) < ((r_Table).length : Int))) rfl (decide_eq_true hl27) ?_
      refine W.skip ?_
      show W _ _ _ _ _ _
      refine W.seq ?_
      refine W.block ?_
      refine W.seq ?_
      refine W.region ?_
      refine WL.val (Value.int .i64 (k12 : Int)) _ (op_move hf24) rfl ?_
      obtain ⟨x29, hx32, hb17⟩ := bs hb17
      obtain ⟨ha30, hb31, hx32⟩ := idx_some hx32
      refine WL.val (Value.pointer (some (elA v_r_Table ((k12 : Int)).toNat))) _ (op_idx sl_22 (Ty.lift _ (Ext.trans hE7 hS26.ext) r_r_Table) hf22 hf24 ha30 hb31) rfl ?_
      obtain ⟨u33, hc34, hr35⟩ := repSl.el r_r_Table hx32
      refine WL.val u33 _ (op_load one_65 rfl (Ext.cell (Ext.trans hE7 hS26.ext) hc34)) rfl ?_
      refine WL.val (Value.int .i64 (k12 : Int)) _ (op_assign rfl) rfl ?_
      refine WL.val u33 _ (op_assign rfl) rfl ?_
      refine WL.nil ?_
      show W _ _ _ _ _ _
      refine W.seq ?_
      refine W.region ?_
      refine WL.val (Value.pointer (some ⟨b1, 0, none⟩)) _ (op_fieldAddr fd_29_0 hf21) rfl ?_
      refine WL.val v_r_Table _ (op_load one_22 rfl (BoxAt.cell (BoxAt.lift hS26.ext hx6) rfl)) rfl ?_
      have hr36 := inR_len (Ty.lift _ (Ext.trans hE7 hS26.ext) r_r_Table)
      refine WL.val (Value.int .i64 ((r_Table).length : Int)) _ (op_lenL sl_22 (Ty.lift _ (Ext.trans hE7 hS26.ext) r_r_Table) rfl) rfl ?_
      refine WL.val (Value.int .i64 (0 : Int)) _ (op_move rfl) rfl ?_
      refine WL.nil ?_
      show W _ _ _ _ _ _
      obtain ⟨res37, hres38, hb17⟩ := bs hb17
      refine W.blockLoop (fun fq wq => ∃ s, res37 = Res.fin s ∧ fq 1 = (Value.pointer (some ⟨b1, 0, none⟩)) ∧ fq 13 = v_r_Table ∧ fq 14 = (Value.int .i64 ((r_Table).length : Int)) ∧ fq 15 = (Value.int .i64 (k12 : Int)) ∧ St wd2 wq []) ?_ ?_
      · refine W.forN (fun k (s : Unit) fq wq => fq 1 = (Value.pointer (some ⟨b1, 0, none⟩)) ∧ fq 3 = (Value.int .i64 (k12 : Int)) ∧ fq 4 = u33 ∧ fq 13 = v_r_Table ∧ fq 14 = (Value.int .i64 ((r_Table).length : Int)) ∧ fq 15 = (Value.int .i64 (k12 : Int)) ∧ fq 21 = v_r_Table ∧ fq 22 = (Value.int .i64 ((r_Table).length : Int)) ∧ fq 23 = Value.int .i64 (k : Int) ∧ InR .i64 (k : Int) ∧ St wd2 wq []) hres38 ⟨hf21, rfl, rfl, hf22, hf23, hf24, rfl, rfl, rfl, (inR_i64.2 (show (-9223372036854775808 : Int) ≤ 0 ∧ (0 : Int) ≤ 9223372036854775807 from by decide)), hS26⟩ ?_ ?_
        · intro k39 s720 ct40 f41 wd42 hk43 hb44 hI45 hbrk46 hret47
          obtain ⟨⟩ := s720
          replace hI45 : f41 1 = (Value.pointer (some ⟨b1, 0, none⟩)) ∧ f41 3 = (Value.int .i64 (k12 : Int)) ∧ f41 4 = u33 ∧ f41 13 = v_r_Table ∧ f41 14 = (Value.int .i64 ((r_Table).length : Int)) ∧ f41 15 = (Value.int .i64 (k12 : Int)) ∧ f41 21 = v_r_Table ∧ f41 22 = (Value.int .i64 ((r_Table).length : Int)) ∧ f41 23 = Value.int .i64 (k39 : Int) ∧ InR .i64 (k39 : Int) ∧ St wd2 wd42 [] := hI45
          replace hb44 : p_impl_Ring_bracketFault_L2 r_Table x29 k12 k39  = some ct40 := hb44
          unfold p_impl_Ring_bracketFault_L2 at hb44
          obtain ⟨hf48, hf49, hf50, hf51, hf52, hf53, hf54, hf55, hf56, hr57, hS58⟩ := hI45
          refine W.seq ?_
          refine W.region ?_
          refine WL.val (Value.bool (decide ((k39 : Int) < ((r_Table).length : Int)))) _ (op_lss hf56 hf55) rfl ?_
          have hl59 : (k39 : Int) < ((r_Table).length : Int) := by omega
          refine WL.nil ?_
          show W _ _ _ _ _ _
          refine W.seq ?_
          refine W.condT (decide ((k39 : Int) < ((r_Table).length : Int))) rfl (decide_eq_true hl59) ?_
          refine W.skip ?_
          show W _ _ _ _ _ _
          refine W.seq ?_
          refine W.block ?_
          refine W.seq ?_
          refine W.region ?_
          refine WL.val (Value.int .i64 (k39 : Int)) _ (op_move hf56) rfl ?_
          obtain ⟨x61, hx64, hb44⟩ := bs hb44
          obtain ⟨ha62, hb63, hx64⟩ := idx_some hx64
          refine WL.val (Value.pointer (some (elA v_r_Table ((k39 : Int)).toNat))) _ (op_idx sl_22 (Ty.lift _ (Ext.trans hE7 hS58.ext) r_r_Table) hf54 hf56 ha62 hb63) rfl ?_
          obtain ⟨u65, hc66, hr67⟩ := repSl.el r_r_Table hx64
          refine WL.val u65 _ (op_load one_65 rfl (Ext.cell (Ext.trans hE7 hS58.ext) hc66)) rfl ?_
          refine WL.val (Value.int .i64 (k39 : Int)) _ (op_assign rfl) rfl ?_
          refine WL.val u65 _ (op_assign rfl) rfl ?_
          refine WL.nil ?_
          show W _ _ _ _ _ _
          refine W.seq ?_
          refine W.region ?_
          refine WL.val (Value.pointer (some ⟨b1, 0, none⟩)) _ (op_fieldAddr fd_29_0 hf48) rfl ?_
          refine WL.val v_r_Table _ (op_load one_22 rfl (BoxAt.cell (BoxAt.lift hS58.ext hx6) rfl)) rfl ?_
          have hr68 := inR_len (Ty.lift _ (Ext.trans hE7 hS58.ext) r_r_Table)
          refine WL.val (Value.int .i64 ((r_Table).length : Int)) _ (op_lenL sl_22 (Ty.lift _ (Ext.trans hE7 hS58.ext) r_r_Table) rfl) rfl ?_
          refine WL.val (Value.int .i64 (0 : Int)) _ (op_move rfl) rfl ?_
          refine WL.nil ?_
          show W _ _ _ _ _ _
          obtain ⟨res69, hres70, hb44⟩ := bs hb44
          refine W.blockLoop (fun fq wq => ∃ s, res69 = Res.fin s ∧ fq 1 = (Value.pointer (some ⟨b1, 0, none⟩)) ∧ fq 3 = (Value.int .i64 (k12 : Int)) ∧ fq 4 = u33 ∧ fq 13 = v_r_Table ∧ fq 14 = (Value.int .i64 ((r_Table).length : Int)) ∧ fq 15 = (Value.int .i64 (k12 : Int)) ∧ fq 21 = v_r_Table ∧ fq 22 = (Value.int .i64 ((r_Table).length : Int)) ∧ fq 23 = (Value.int .i64 (k39 : Int)) ∧ St wd2 wq []) ?_ ?_
          · refine W.forN (fun k (s : Unit) fq wq => fq 1 = (Value.pointer (some ⟨b1, 0, none⟩)) ∧ fq 3 = (Value.int .i64 (k12 : Int)) ∧ fq 4 = u33 ∧ fq 5 = (Value.int .i64 (k39 : Int)) ∧ fq 6 = u65 ∧ fq 13 = v_r_Table ∧ fq 14 = (Value.int .i64 ((r_Table).length : Int)) ∧ fq 15 = (Value.int .i64 (k12 : Int)) ∧ fq 21 = v_r_Table ∧ fq 22 = (Value.int .i64 ((r_Table).length : Int)) ∧ fq 23 = (Value.int .i64 (k39 : Int)) ∧ fq 30 = (Value.int .i64 ((r_Table).length : Int)) ∧ fq 31 = Value.int .i64 (k : Int) ∧ InR .i64 (k : Int) ∧ St wd2 wq []) hres70 ⟨hf48, hf49, hf50, rfl, rfl, hf51, hf52, hf53, hf54, hf55, hf56, rfl, rfl, (inR_i64.2 (show (-9223372036854775808 : Int) ≤ 0 ∧ (0 : Int) ≤ 9223372036854775807 from by decide)), hS58⟩ ?_ ?_
            · intro k71 s683 ct72 f73 wd74 hk75 hb76 hI77 hbrk78 hret79
              obtain ⟨⟩ := s683
              replace hI77 : f73 1 = (Value.pointer (some ⟨b1, 0, none⟩)) ∧ f73 3 = (Value.int .i64 (k12 : Int)) ∧ f73 4 = u33 ∧ f73 5 = (Value.int .i64 (k39 : Int)) ∧ f73 6 = u65 ∧ f73 13 = v_r_Table ∧ f73 14 = (Value.int .i64 ((r_Table).length : Int)) ∧ f73 15 = (Value.int .i64 (k12 : Int)) ∧ f73 21 = v_r_Table ∧ f73 22 = (Value.int .i64 ((r_Table).length : Int)) ∧ f73 23 = (Value.int .i64 (k39 : Int)) ∧ f73 30 = (Value.int .i64 ((r_Table).length : Int)) ∧ f73 31 = Value.int .i64 (k71 : Int) ∧ InR .i64 (k71 : Int) ∧ St wd2 wd74 [] := hI77
              replace hb76 : p_impl_Ring_bracketFault_L3 x29 k39 r_Table x61 k12 k71  = some ct72 := hb76
              unfold p_impl_Ring_bracketFault_L3 at hb76
              obtain ⟨hf80, hf81, hf82, hf83, hf84, hf85, hf86, hf87, hf88, hf89, hf90, hf91, hf92, hr93, hS94⟩ := hI77
              refine W.seq ?_
              refine W.region ?_
              refine WL.val (Value.bool (decide ((k71 : Int) < ((r_Table).length : Int)))) _ (op_lss hf92 hf91) rfl ?_
              have hl95 : (k71 : Int) < ((r_Table).length : Int) := by omega
              refine WL.nil ?_
              show W _ _ _ _ _ _
              refine W.seq ?_
              refine W.condT (decide ((k71 : Int) < ((r_Table).length : Int))) rfl (decide_eq_true hl95) ?_
              refine W.skip ?_
              show W _ _ _ _ _ _
              refine W.seq ?_
              refine W.block ?_
              refine W.seq ?_
              refine W.region ?_
              refine WL.val (Value.int .i64 (k71 : Int)) _ (op_move hf92) rfl ?_
              refine WL.val (Value.int .i64 (k71 : Int)) _ (op_assign rfl) rfl ?_
              refine WL.nil ?_
              show W _ _ _ _ _ _
              refine W.seq ?_
              refine W.region ?_
              refine WL.val (Value.pointer (some ⟨b1, 0, none⟩)) _ (op_fieldAddr fd_29_0 hf80) rfl ?_
              refine WL.val v_r_Table _ (op_load one_22 rfl (BoxAt.cell (BoxAt.lift hS94.ext hx6) rfl)) rfl ?_
              have hr97 := inR_len (Ty.lift _ (Ext.trans hE7 hS94.ext) r_r_Table)
              refine WL.val (Value.int .i64 ((r_Table).length : Int)) _ (op_lenL sl_22 (Ty.lift _ (Ext.trans hE7 hS94.ext) r_r_Table) rfl) rfl ?_
              refine WL.val (Value.int .i64 (0 : Int)) _ (op_move rfl) rfl ?_
              refine WL.nil ?_
              show W _ _ _ _ _ _
              obtain ⟨res98, hres99, hb76⟩ := bs hb76
              refine W.blockLoop (fun fq wq => ∃ s, res98 = Res.fin s ∧ fq 1 = (Value.pointer (some ⟨b1, 0, none⟩)) ∧ fq 3 = (Value.int .i64 (k12 : Int)) ∧ fq 4 = u33 ∧ fq 5 = (Value.int .i64 (k39 : Int)) ∧ fq 6 = u65 ∧ fq 13 = v_r_Table ∧ fq 14 = (Value.int .i64 ((r_Table).length : Int)) ∧ fq 15 = (Value.int .i64 (k12 : Int)) ∧ fq 21 = v_r_Table ∧ fq 22 = (Value.int .i64 ((r_Table).length : Int)) ∧ fq 23 = (Value.int .i64 (k39 : Int)) ∧ fq 30 = (Value.int .i64 ((r_Table).length : Int)) ∧ fq 31 = (Value.int .i64 (k71 : Int)) ∧ St wd2 wq []) ?_ ?_
              · refine W.forN (fun k (s : Unit) fq wq => fq 1 = (Value.pointer (some ⟨b1, 0, none⟩)) ∧ fq 3 = (Value.int .i64 (k12 : Int)) ∧ fq 4 = u33 ∧ fq 5 = (Value.int .i64 (k39 : Int)) ∧ fq 6 = u65 ∧ fq 7 = (Value.int .i64 (k71 : Int)) ∧ fq 13 = v_r_Table ∧ fq 14 = (Value.int .i64 ((r_Table).length : Int)) ∧ fq 15 = (Value.int .i64 (k12 : Int)) ∧ fq 21 = v_r_Table ∧ fq 22 = (Value.int .i64 ((r_Table).length : Int)) ∧ fq 23 = (Value.int .i64 (k39 : Int)) ∧ fq 30 = (Value.int .i64 ((r_Table).length : Int)) ∧ fq 31 = (Value.int .i64 (k71 : Int)) ∧ fq 36 = (Value.int .i64 ((r_Table).length : Int)) ∧ fq 37 = Value.int .i64 (k : Int) ∧ InR .i64 (k : Int) ∧ St wd2 wq []) hres99 ⟨hf80, hf81, hf82, hf83, hf84, rfl, hf85, hf86, hf87, hf88, hf89, hf90, hf91, hf92, rfl, rfl, (inR_i64.2 (show (-9223372036854775808 : Int) ≤ 0 ∧ (0 : Int) ≤ 9223372036854775807 from by decide)), hS94⟩ ?_ ?_
                · intro k100 s639 ct101 f102 wd103 hk104 hb105 hI106 hbrk107 hret108
                  obtain ⟨⟩ := s639
                  replace hI106 : f102 1 = (Value.pointer (some ⟨b1, 0, none⟩)) ∧ f102 3 = (Value.int .i64 (k12 : Int)) ∧ f102 4 = u33 ∧ f102 5 = (Value.int .i64 (k39 : Int)) ∧ f102 6 = u65 ∧ f102 7 = (Value.int .i64 (k71 : Int)) ∧ f102 13 = v_r_Table ∧ f102 14 = (Value.int .i64 ((r_Table).length : Int)) ∧ f102 15 = (Value.int .i64 (k12 : Int)) ∧ f102 21 = v_r_Table ∧ f102 22 = (Value.int .i64 ((r_Table).length : Int)) ∧ f102 23 = (Value.int .i64 (k39 : Int)) ∧ f102 30 = (Value.int .i64 ((r_Table).length : Int)) ∧ f102 31 = (Value.int .i64 (k71 : Int)) ∧ f102 36 = (Value.int .i64 ((r_Table).length : Int)) ∧ f102 37 = Value.int .i64 (k100 : Int) ∧ InR .i64 (k100 : Int) ∧ St wd2 wd103 [] := hI106
                  replace hb105 : p_impl_Ring_bracketFault_L4 x29 k39 r_Table k71 x61 k12 k100  = some ct101 := hb105
                  unfold p_impl_Ring_bracketFault_L4 at hb105
                  obtain ⟨hf109, hf110, hf111, hf112, hf113, hf114, hf115, hf116, hf117, hf118, hf119, hf120, hf121, hf122, hf123, hf124, hr125, hS126⟩ := hI106
                  refine W.seq ?_
                  refine W.region ?_
                  refine WL.val (Value.bool (decide ((k100 : Int) < ((r_Table).length : Int)))) _ (op_lss hf124 hf123) rfl ?_
                  have hl127 : (k100 : Int) < ((r_Table).length : Int) := by omega
                  refine WL.nil ?_
                  show W _ _ _ _ _ _
                  refine W.seq ?_
                  refine W.condT (decide ((k100 : Int) < ((r_Table).length : Int))) rfl (decide_eq_true hl127) ?_
                  refine W.skip ?_
                  show W _ _ _ _ _ _
                  refine W.seq ?_
                  refine W.block ?_
                  refine W.seq ?_
                  refine W.region ?_
                  refine WL.val (Value.int .i64 (k100 : Int)) _ (op_move hf124) rfl ?_
                  refine WL.val (Value.int .i64 (k100 : Int)) _ (op_assign rfl) rfl ?_
                  refine WL.nil ?_
                  show W _ _ _ _ _ _
                  refine W.seq ?_
                  refine W.region ?_
                  refine WL.val (Value.int .i64 (0 : Int)) _ (op_assign rfl) rfl ?_
                  refine WL.val (Value.int .i64 (0 : Int)) _ (op_assign rfl) rfl ?_
                  refine WL.nil ?_
                  show W _ _ _ _ _ _
                  refine W.seq ?_
                  refine W.seq ?_
                  refine W.region ?_
                  refine WL.val (Value.pointer (some ⟨b1, 0, none⟩)) _ (op_fieldAddr fd_29_0 hf109) rfl ?_
                  refine WL.val v_r_Table _ (op_load one_22 rfl (BoxAt.cell (BoxAt.lift hS126.ext hx6) rfl)) rfl ?_
                  have hr129 := inR_len (Ty.lift _ (Ext.trans hE7 hS126.ext) r_r_Table)
                  refine WL.val (Value.int .i64 ((r_Table).length : Int)) _ (op_lenL sl_22 (Ty.lift _ (Ext.trans hE7 hS126.ext) r_r_Table) rfl) rfl ?_
                  refine WL.val (Value.int .i64 (0 : Int)) _ (op_move rfl) rfl ?_
                  refine WL.nil ?_
                  show W _ _ _ _ _ _
                  obtain ⟨res130, hres131, hb105⟩ := bs hb105
                  refine W.blockLoop (fun fq wq => ∃ s, res130 = Res.fin s ∧ fq 1 = (Value.pointer (some ⟨b1, 0, none⟩)) ∧ fq 3 = (Value.int .i64 (k12 : Int)) ∧ fq 4 = u33 ∧ fq 5 = (Value.int .i64 (k39 : Int)) ∧ fq 6 = u65 ∧ fq 7 = (Value.int .i64 (k71 : Int)) ∧ fq 8 = (Value.int .i64 (k100 : Int)) ∧ fq 9 = Value.int .i64 s.1 ∧ InR .i64 s.1 ∧ fq 10 = Value.int .i64 s.2 ∧ InR .i64 s.2 ∧ fq 13 = v_r_Table ∧ fq 14 = (Value.int .i64 ((r_Table).length : Int)) ∧ fq 15 = (Value.int .i64 (k12 : Int)) ∧ fq 21 = v_r_Table ∧ fq 22 = (Value.int .i64 ((r_Table).length : Int)) ∧ fq 23 = (Value.int .i64 (k39 : Int)) ∧ fq 30 = (Value.int .i64 ((r_Table).length : Int)) ∧ fq 31 = (Value.int .i64 (k71 : Int)) ∧ fq 36 = (Value.int .i64 ((r_Table).length : Int)) ∧ fq 37 = (Value.int .i64 (k100 : Int)) ∧ St wd2 wq []) ?_ ?_
                  · refine W.forN (fun k (s : Int × Int) fq wq => fq 1 = (Value.pointer (some ⟨b1, 0, none⟩)) ∧ fq 3 = (Value.int .i64 (k12 : Int)) ∧ fq 4 = u33 ∧ fq 5 = (Value.int .i64 (k39 : Int)) ∧ fq 6 = u65 ∧ fq 7 = (Value.int .i64 (k71 : Int)) ∧ fq 8 = (Value.int .i64 (k100 : Int)) ∧ fq 9 = Value.int .i64 s.1 ∧ InR .i64 s.1 ∧ fq 10 = Value.int .i64 s.2 ∧ InR .i64 s.2 ∧ fq 13 = v_r_Table ∧ fq 14 = (Value.int .i64 ((r_Table).length : Int)) ∧ fq 15 = (Value.int .i64 (k12 : Int)) ∧ fq 21 = v_r_Table ∧ fq 22 = (Value.int .i64 ((r_Table).length : Int)) ∧ fq 23 = (Value.int .i64 (k39 : Int)) ∧ fq 30 = (Value.int .i64 ((r_Table).length : Int)) ∧ fq 31 = (Value.int .i64 (k71 : Int)) ∧ fq 36 = (Value.int .i64 ((r_Table).length : Int)) ∧ fq 37 = (Value.int .i64 (k100 : Int)) ∧ fq 42 = (Value.int .i64 ((r_Table).length : Int)) ∧ fq 43 = Value.int .i64 (k : Int) ∧ InR .i64 (k : Int) ∧ St wd2 wq []) hres131 ⟨hf109, hf110, hf111, hf112, hf113, hf114, rfl, rfl, (inR_i64.2 (show (-9223372036854775808 : Int) ≤ 0 ∧ (0 : Int) ≤ 9223372036854775807 from by decide)), rfl, (inR_i64.2 (show (-9223372036854775808 : Int) ≤ 0 ∧ (0 : Int) ≤ 9223372036854775807 from by decide)), hf115, hf116, hf117, hf118, hf119, hf120, hf121, hf122, hf123, hf124, rfl, rfl, (inR_i64.2 (show (-9223372036854775808 : Int) ≤ 0 ∧ (0 : Int) ≤ 9223372036854775807 from by decide)), hS126⟩ ?_ ?_
                    · intro k132 s570 ct135 f136 wd137 hk138 hb139 hI140 hbrk141 hret142
                      obtain ⟨x133, x134⟩ := s570
                      replace hI140 : f136 1 = (Value.pointer (some ⟨b1, 0, none⟩)) ∧ f136 3 = (Value.int .i64 (k12 : Int)) ∧ f136 4 = u33 ∧ f136 5 = (Value.int .i64 (k39 : Int)) ∧ f136 6 = u65 ∧ f136 7 = (Value.int .i64 (k71 : Int)) ∧ f136 8 = (Value.int .i64 (k100 : Int)) ∧ f136 9 = Value.int .i64 x133 ∧ InR .i64 x133 ∧ f136 10 = Value.int .i64 x134 ∧ InR .i64 x134 ∧ f136 13 = v_r_Table ∧ f136 14 = (Value.int .i64 ((r_Table).length : Int)) ∧ f136 15 = (Value.int .i64 (k12 : Int)) ∧ f136 21 = v_r_Table ∧ f136 22 = (Value.int .i64 ((r_Table).length : Int)) ∧ f136 23 = (Value.int .i64 (k39 : Int)) ∧ f136 30 = (Value.int .i64 ((r_Table).length : Int)) ∧ f136 31 = (Value.int .i64 (k71 : Int)) ∧ f136 36 = (Value.int .i64 ((r_Table).length : Int)) ∧ f136 37 = (Value.int .i64 (k100 : Int)) ∧ f136 42 = (Value.int .i64 ((r_Table).length : Int)) ∧ f136 43 = Value.int .i64 (k132 : Int) ∧ InR .i64 (k132 : Int) ∧ St wd2 wd137 [] := hI140
                      replace hb139 : p_impl_Ring_bracketFault_L5 x29 k39 r_Table k71 k100 x61 k132 x133 x134 = some ct135 := hb139
                      unfold p_impl_Ring_bracketFault_L5 at hb139
                      obtain ⟨hf143, hf144, hf145, hf146, hf147, hf148, hf149, hf150, hr151, hf152, hr153, hf154, hf155, hf156, hf157, hf158, hf159, hf160, hf161, hf162, hf163, hf164, hf165, hr166, hS167⟩ := hI140
                      refine W.seq ?_
                      refine W.region ?_
                      refine WL.val (Value.bool (decide ((k132 : Int) < ((r_Table).length : Int)))) _ (op_lss hf165 hf164) rfl ?_
                      have hl168 : (k132 : Int) < ((r_Table).length : Int) := by omega
                      refine WL.nil ?_
                      show W _ _ _ _ _ _
                      refine W.seq ?_
                      refine W.condT (decide ((k132 : Int) < ((r_Table).length : Int))) rfl (decide_eq_true hl168) ?_
                      refine W.skip ?_
                      show W _ _ _ _ _ _
                      refine W.seq ?_
                      refine W.block ?_
                      refine W.seq ?_
                      refine W.region ?_
                      refine WL.val (Value.int .i64 (k132 : Int)) _ (op_move hf165) rfl ?_
                      refine WL.val (Value.int .i64 (k132 : Int)) _ (op_assign rfl) rfl ?_
                      refine WL.nil ?_
                      show W _ _ _ _ _ _
                      refine W.seq ?_
                      obtain ⟨x200, hx203, hb139⟩ := bs hb139
                      obtain ⟨ha201, hb202, hx203⟩ := idx_some hx203
                      obtain ⟨u211, hc212, hr213⟩ := repSl.el hr35 hx203
                      obtain ⟨x230, hx233, hb139⟩ := bs hb139
                      obtain ⟨ha231, hb232, hx233⟩ := idx_some hx233
                      obtain ⟨u241, hc242, hr243⟩ := repSl.el hr213 hx233
                      obtain ⟨rfl, hr243⟩ := hr243
                      obtain ⟨x274, hx277, hb139⟩ := bs hb139
                      obtain ⟨ha275, hb276, hx277⟩ := idx_some hx277
                      obtain ⟨u285, hc286, hr287⟩ := repSl.el r_r_Table hx277
                      obtain ⟨x304, hx307, hb139⟩ := bs hb139
                      obtain ⟨ha305, hb306, hx307⟩ := idx_some hx307
                      obtain ⟨u315, hc316, hr317⟩ := repSl.el hr287 hx307
                      obtain ⟨x334, hx337, hb139⟩ := bs hb139
                      obtain ⟨ha335, hb336, hx337⟩ := idx_some hx337
                      obtain ⟨u345, hc346, hr347⟩ := repSl.el hr317 hx337
                      obtain ⟨rfl, hr347⟩ := hr347
                      refine W.draw mixo 20 [fun v _ => v = (Value.int .i64 x133) ∧ InR .i64 x133, fun v _ => v = u33, fun v _ => v = (Value.int .i64 (k39 : Int)) ∧ InR .i64 (k39 : Int), fun v _ => v = (Value.pointer (some (elA u33 ((k39 : Int)).toNat))), fun v _ => v = u211, fun v _ => v = (Value.int .i64 (k132 : Int)) ∧ InR .i64 (k132 : Int), fun v _ => v = (Value.pointer (some (elA u211 ((k132 : Int)).toNat))), fun v _ => v = (Value.int .i64 x230) ∧ InR .i64 x230, fun v _ => v = (Value.pointer (some ⟨b1, 0, none⟩)), fun v _ => v = v_r_Table, fun v _ => v = (Value.int .i64 (k132 : Int)) ∧ InR .i64 (k132 : Int), fun v _ => v = (Value.pointer (some (elA v_r_Table ((k132 : Int)).toNat))), fun v _ => v = u285, fun v _ => v = (Value.int .i64 (k71 : Int)) ∧ InR .i64 (k71 : Int), fun v _ => v = (Value.pointer (some (elA u285 ((k71 : Int)).toNat))), fun v _ => v = u315, fun v _ => v = (Value.int .i64 (k100 : Int)) ∧ InR .i64 (k100 : Int), fun v _ => v = (Value.pointer (some (elA u315 ((k100 : Int)).toNat))), fun v _ => v = (Value.int .i64 x334) ∧ InR .i64 x334, fun v _ => v = (Value.int .i64 (w64 (x230 * x334))) ∧ InR .i64 (w64 (x230 * x334))] (by kernel_rfl) (by kernel_rfl) (stabL ⟨(fun _ _ _ _ h => h), (fun _ _ _ _ h => h), (fun _ _ _ _ h => h), (fun _ _ _ _ h => h), (fun _ _ _ _ h => h), (fun _ _ _ _ h => h), (fun _ _ _ _ h => h), (fun _ _ _ _ h => h), (fun _ _ _ _ h => h), (fun _ _ _ _ h => h), (fun _ _ _ _ h => h), (fun _ _ _ _ h => h), (fun _ _ _ _ h => h), (fun _ _ _ _ h => h), (fun _ _ _ _ h => h), (fun _ _ _ _ h => h), (fun _ _ _ _ h => h), (fun _ _ _ _ h => h), (fun _ _ _ _ h => h), (fun _ _ _ _ h => h), trivial⟩) ⟨?_, ?_, ?_, ?_, ?_, ?_, ?_, ?_, ?_, ?_, ?_, ?_, ?_, ?_, ?_, ?_, ?_, ?_, ?_, ?_, trivial⟩ ?_
                      · intro f170 wd171 he172 hout173 hphi174
                        have hS175 : St wd2 wd171 [] := St.extend hS167 he172
                        have e176 : f170 9 = (Value.int .i64 x133) := (hout173 9 rfl).trans hf150
                        exact OpY.val (Value.int .i64 x133) wd171 rfl (op_move e176) (Ext.refl _) ⟨rfl, hr151⟩
                      · intro f177 wd178 he179 hout180 hphi181
                        have hS182 : St wd2 wd178 [] := St.extend hS167 he179
                        have e183 : f177 4 = u33 := (hout180 4 rfl).trans hf145
                        exact OpY.val u33 wd178 rfl (op_move e183) (Ext.refl _) rfl
                      · intro f184 wd185 he186 hout187 hphi188
                        have hS189 : St wd2 wd185 [] := St.extend hS167 he186
                        have e190 : f184 5 = (Value.int .i64 (k39 : Int)) := (hout187 5 rfl).trans hf146
                        exact OpY.val (Value.int .i64 (k39 : Int)) wd185 rfl (op_move e190) (Ext.refl _) ⟨rfl, hr57⟩
                      · intro f191 wd192 he193 hout194 hphi195
                        have hS196 : St wd2 wd192 [] := St.extend hS167 he193
                        have e197 : f191 47 = u33 := hphi195 1 47 _ rfl rfl rfl
                        obtain ⟨e198, hr199⟩ : f191 48 = (Value.int .i64 (k39 : Int)) ∧ InR .i64 (k39 : Int) := hphi195 2 48 _ rfl rfl rfl
                        exact OpY.val (Value.pointer (some (elA u33 ((k39 : Int)).toNat))) wd192 rfl (op_idx sl_65 (Ty.lift _ (Ext.trans hE7 hS196.ext) hr35) e197 e198 ha201 hb202) (Ext.refl _) rfl
                      · intro f204 wd205 he206 hout207 hphi208
                        have hS209 : St wd2 wd205 [] := St.extend hS167 he206
                        have e210 : f204 49 = (Value.pointer (some (elA u33 ((k39 : Int)).toNat))) := hphi208 3 49 _ rfl rfl rfl
                        exact OpY.val u211 wd205 rfl (op_load one_25 e210 (Ext.cell (Ext.trans hE7 hS209.ext) hc212)) (Ext.refl _) rfl
                      · intro f214 wd215 he216 hout217 hphi218
                        have hS219 : St wd2 wd215 [] := St.extend hS167 he216
                        have e220 : f214 11 = (Value.int .i64 (k132 : Int)) := (hout217 11 rfl).trans rfl
                        exact OpY.val (Value.int .i64 (k132 : Int)) wd215 rfl (op_move e220) (Ext.refl _) ⟨rfl, hr166⟩
                      · intro f221 wd222 he223 hout224 hphi225
                        have hS226 : St wd2 wd222 [] := St.extend hS167 he223
                        have e227 : f221 50 = u211 := hphi225 4 50 _ rfl rfl rfl
                        obtain ⟨e228, hr229⟩ : f221 51 = (Value.int .i64 (k132 : Int)) ∧ InR .i64 (k132 : Int) := hphi225 5 51 _ rfl rfl rfl
                        exact OpY.val (Value.pointer (some (elA u211 ((k132 : Int)).toNat))) wd222 rfl (op_idx sl_25 (Ty.lift _ (Ext.trans hE7 hS226.ext) hr213) e227 e228 ha231 hb232) (Ext.refl _) rfl
                      · intro f234 wd235 he236 hout237 hphi238
                        have hS239 : St wd2 wd235 [] := St.extend hS167 he236
                        have e240 : f234 52 = (Value.pointer (some (elA u211 ((k132 : Int)).toNat))) := hphi238 6 52 _ rfl rfl rfl
                        exact OpY.val (Value.int .i64 x230) wd235 rfl (op_load one_2 e240 (Ext.cell (Ext.trans hE7 hS239.ext) hc242)) (Ext.refl _) ⟨rfl, hr243⟩
                      · intro f244 wd245 he246 hout247 hphi248
                        have hS249 : St wd2 wd245 [] := St.extend hS167 he246
                        have e250 : f244 1 = (Value.pointer (some ⟨b1, 0, none⟩)) := (hout247 1 rfl).trans hf143
                        exact OpY.val (Value.pointer (some ⟨b1, 0, none⟩)) wd245 rfl (op_fieldAddr fd_29_0 e250) (Ext.refl _) rfl
                      · intro f251 wd252 he253 hout254 hphi255
                        have hS256 : St wd2 wd252 [] := St.extend hS167 he253
                        have e257 : f251 54 = (Value.pointer (some ⟨b1, 0, none⟩)) := hphi255 8 54 _ rfl rfl rfl
                        exact OpY.val v_r_Table wd252 rfl (op_load one_22 e257 (BoxAt.cell (BoxAt.lift hS256.ext hx6) rfl)) (Ext.refl _) rfl
                      · intro f258 wd259 he260 hout261 hphi262
                        have hS263 : St wd2 wd259 [] := St.extend hS167 he260
                        have e264 : f258 11 = (Value.int .i64 (k132 : Int)) := (hout261 11 rfl).trans rfl
                        exact OpY.val (Value.int .i64 (k132 : Int)) wd259 rfl (op_move e264) (Ext.refl _) ⟨rfl, hr166⟩
                      · intro f265 wd266 he267 hout268 hphi269
                        have hS270 : St wd2 wd266 [] := St.extend hS167 he267
                        have e271 : f265 55 = v_r_Table := hphi269 9 55 _ rfl rfl rfl
                        obtain ⟨e272, hr273⟩ : f265 56 = (Value.int .i64 (k132 : Int)) ∧ InR .i64 (k132 : Int) := hphi269 10 56 _ rfl rfl rfl
                        exact OpY.val (Value.pointer (some (elA v_r_Table ((k132 : Int)).toNat))) wd266 rfl (op_idx sl_22 (Ty.lift _ (Ext.trans hE7 hS270.ext) r_r_Table) e271 e272 ha275 hb276) (Ext.refl _) rfl
                      · intro f278 wd279 he280 hout281 hphi282
                        have hS283 : St wd2 wd279 [] := St.extend hS167 he280
                        have e284 : f278 57 = (Value.pointer (some (elA v_r_Table ((k132 : Int)).toNat))) := hphi282 11 57 _ rfl rfl rfl
                        exact OpY.val u285 wd279 rfl (op_load one_65 e284 (Ext.cell (Ext.trans hE7 hS283.ext) hc286)) (Ext.refl _) rfl
                      · intro f288 wd289 he290 hout291 hphi292
                        have hS293 : St wd2 wd289 [] := St.extend hS167 he290
                        have e294 : f288 7 = (Value.int .i64 (k71 : Int)) := (hout291 7 rfl).trans hf148
                        exact OpY.val (Value.int .i64 (k71 : Int)) wd289 rfl (op_move e294) (Ext.refl _) ⟨rfl, hr93⟩
                      · intro f295 wd296 he297 hout298 hphi299
                        have hS300 : St wd2 wd296 [] := St.extend hS167 he297
                        have e301 : f295 58 = u285 := hphi299 12 58 _ rfl rfl rfl
                        obtain ⟨e302, hr303⟩ : f295 59 = (Value.int .i64 (k71 : Int)) ∧ InR .i64 (k71 : Int) := hphi299 13 59 _ rfl rfl rfl
                        exact OpY.val (Value.pointer (some (elA u285 ((k71 : Int)).toNat))) wd296 rfl (op_idx sl_65 (Ty.lift _ (Ext.trans hE7 hS300.ext) hr287) e301 e302 ha305 hb306) (Ext.refl _) rfl
                      · intro f308 wd309 he310 hout311 hphi312
                        have hS313 : St wd2 wd309 [] := St.extend hS167 he310
                        have e314 : f308 60 = (Value.pointer (some (elA u285 ((k71 : Int)).toNat))) := hphi312 14 60 _ rfl rfl rfl
                        exact OpY.val u315 wd309 rfl (op_load one_25 e314 (Ext.cell (Ext.trans hE7 hS313.ext) hc316)) (Ext.refl _) rfl
                      · intro f318 wd319 he320 hout321 hphi322
                        have hS323 : St wd2 wd319 [] := St.extend hS167 he320
                        have e324 : f318 8 = (Value.int .i64 (k100 : Int)) := (hout321 8 rfl).trans hf149
                        exact OpY.val (Value.int .i64 (k100 : Int)) wd319 rfl (op_move e324) (Ext.refl _) ⟨rfl, hr125⟩
                      · intro f325 wd326 he327 hout328 hphi329
                        have hS330 : St wd2 wd326 [] := St.extend hS167 he327
                        have e331 : f325 61 = u315 := hphi329 15 61 _ rfl rfl rfl
                        obtain ⟨e332, hr333⟩ : f325 62 = (Value.int .i64 (k100 : Int)) ∧ InR .i64 (k100 : Int) := hphi329 16 62 _ rfl rfl rfl
                        exact OpY.val (Value.pointer (some (elA u315 ((k100 : Int)).toNat))) wd326 rfl (op_idx sl_25 (Ty.lift _ (Ext.trans hE7 hS330.ext) hr317) e331 e332 ha335 hb336) (Ext.refl _) rfl
                      · intro f338 wd339 he340 hout341 hphi342
                        have hS343 : St wd2 wd339 [] := St.extend hS167 he340
                        have e344 : f338 63 = (Value.pointer (some (elA u315 ((k100 : Int)).toNat))) := hphi342 17 63 _ rfl rfl rfl
                        exact OpY.val (Value.int .i64 x334) wd339 rfl (op_load one_2 e344 (Ext.cell (Ext.trans hE7 hS343.ext) hc346)) (Ext.refl _) ⟨rfl, hr347⟩
                      · intro f348 wd349 he350 hout351 hphi352
                        have hS353 : St wd2 wd349 [] := St.extend hS167 he350
                        obtain ⟨e354, hr355⟩ : f348 53 = (Value.int .i64 x230) ∧ InR .i64 x230 := hphi352 7 53 _ rfl rfl rfl
                        obtain ⟨e356, hr357⟩ : f348 64 = (Value.int .i64 x334) ∧ InR .i64 x334 := hphi352 18 64 _ rfl rfl rfl
                        exact OpY.val (Value.int .i64 (w64 (x230 * x334))) wd349 rfl (op_mul e354 e356) (Ext.refl _) ⟨rfl, (inR_wrap _ _)⟩
                      · intro f358 wd359 he360 hout361 hphi362
                        show WL _ _ _ _ _ _ _
                        have hS363 : St wd2 wd359 [] := St.extend hS167 he360
                        obtain ⟨e364, hr365⟩ : f358 46 = (Value.int .i64 x133) ∧ InR .i64 x133 := hphi362 0 46 _ (by decide) rfl rfl
                        obtain ⟨e366, hr367⟩ : f358 65 = (Value.int .i64 (w64 (x230 * x334))) ∧ InR .i64 (w64 (x230 * x334)) := hphi362 19 65 _ (by decide) rfl rfl
                        have e368 : f358 1 = (Value.pointer (some ⟨b1, 0, none⟩)) := (hout361 1 rfl).trans hf143
                        have e369 : f358 3 = (Value.int .i64 (k12 : Int)) := (hout361 3 rfl).trans hf144
                        have e370 : f358 4 = u33 := (hout361 4 rfl).trans hf145
                        have e371 : f358 5 = (Value.int .i64 (k39 : Int)) := (hout361 5 rfl).trans hf146
                        have e372 : f358 6 = u65 := (hout361 6 rfl).trans hf147
                        have e373 : f358 7 = (Value.int .i64 (k71 : Int)) := (hout361 7 rfl).trans hf148
                        have e374 : f358 8 = (Value.int .i64 (k100 : Int)) := (hout361 8 rfl).trans hf149
                        have e375 : f358 10 = (Value.int .i64 x134) := (hout361 10 rfl).trans hf152
                        have e376 : f358 11 = (Value.int .i64 (k132 : Int)) := (hout361 11 rfl).trans rfl
                        have e377 : f358 13 = v_r_Table := (hout361 13 rfl).trans hf154
                        have e378 : f358 14 = (Value.int .i64 ((r_Table).length : Int)) := (hout361 14 rfl).trans hf155
                        have e379 : f358 15 = (Value.int .i64 (k12 : Int)) := (hout361 15 rfl).trans hf156
                        have e380 : f358 21 = v_r_Table := (hout361 21 rfl).trans hf157
                        have e381 : f358 22 = (Value.int .i64 ((r_Table).length : Int)) := (hout361 22 rfl).trans hf158
                        have e382 : f358 23 = (Value.int .i64 (k39 : Int)) := (hout361 23 rfl).trans hf159
                        have e383 : f358 30 = (Value.int .i64 ((r_Table).length : Int)) := (hout361 30 rfl).trans hf160
                        have e384 : f358 31 = (Value.int .i64 (k71 : Int)) := (hout361 31 rfl).trans hf161
                        have e385 : f358 36 = (Value.int .i64 ((r_Table).length : Int)) := (hout361 36 rfl).trans hf162
                        have e386 : f358 37 = (Value.int .i64 (k100 : Int)) := (hout361 37 rfl).trans hf163
                        have e387 : f358 42 = (Value.int .i64 ((r_Table).length : Int)) := (hout361 42 rfl).trans hf164
                        have e388 : f358 43 = (Value.int .i64 (k132 : Int)) := (hout361 43 rfl).trans hf165
                        refine WL.val (Value.int .i64 (w64 (x133 + (w64 (x230 * x334))))) _ (op_add e364 e366) rfl ?_
                        refine WL.val (Value.int .i64 (w64 (x133 + (w64 (x230 * x334))))) _ (op_assign rfl) rfl ?_
                        refine WL.nil ?_
                        show W _ _ _ _ _ _
                        obtain ⟨x419, hx422, hb139⟩ := bs hb139
                        obtain ⟨ha420, hb421, hx422⟩ := idx_some hx422
                        obtain ⟨u430, hc431, hr432⟩ := repSl.el hr67 hx422
                        obtain ⟨x449, hx452, hb139⟩ := bs hb139
                        obtain ⟨ha450, hb451, hx452⟩ := idx_some hx452
                        obtain ⟨u460, hc461, hr462⟩ := repSl.el hr432 hx452
                        obtain ⟨rfl, hr462⟩ := hr462
                        obtain ⟨x486, hx489, hb139⟩ := bs hb139
                        obtain ⟨ha487, hb488, hx489⟩ := idx_some hx489
                        obtain ⟨u497, hc498, hr499⟩ := repSl.el hr35 hx489
                        obtain ⟨x516, hx519, hb139⟩ := bs hb139
                        obtain ⟨ha517, hb518, hx519⟩ := idx_some hx519
                        obtain ⟨u527, hc528, hr529⟩ := repSl.el hr499 hx519
                        obtain ⟨rfl, hr529⟩ := hr529
                        refine W.draw mixo 16 [fun v _ => v = (Value.int .i64 x134) ∧ InR .i64 x134, fun v _ => v = u65, fun v _ => v = (Value.int .i64 (k71 : Int)) ∧ InR .i64 (k71 : Int), fun v _ => v = (Value.pointer (some (elA u65 ((k71 : Int)).toNat))), fun v _ => v = u430, fun v _ => v = (Value.int .i64 (k132 : Int)) ∧ InR .i64 (k132 : Int), fun v _ => v = (Value.pointer (some (elA u430 ((k132 : Int)).toNat))), fun v _ => v = (Value.int .i64 x449) ∧ InR .i64 x449, fun v _ => v = u33, fun v _ => v = (Value.int .i64 (k132 : Int)) ∧ InR .i64 (k132 : Int), fun v _ => v = (Value.pointer (some (elA u33 ((k132 : Int)).toNat))), fun v _ => v = u497, fun v _ => v = (Value.int .i64 (k100 : Int)) ∧ InR .i64 (k100 : Int), fun v _ => v = (Value.pointer (some (elA u497 ((k100 : Int)).toNat))), fun v _ => v = (Value.int .i64 x516) ∧ InR .i64 x516, fun v _ => v = (Value.int .i64 (w64 (x449 * x516))) ∧ InR .i64 (w64 (x449 * x516))] (by kernel_rfl) (by kernel_rfl) (stabL ⟨(fun _ _ _ _ h => h), (fun _ _ _ _ h => h), (fun _ _ _ _ h => h), (fun _ _ _ _ h => h), (fun _ _ _ _ h => h), (fun _ _ _ _ h => h), (fun _ _ _ _ h => h), (fun _ _ _ _ h => h), (fun _ _ _ _ h => h), (fun _ _ _ _ h => h), (fun _ _ _ _ h => h), (fun _ _ _ _ h => h), (fun _ _ _ _ h => h), (fun _ _ _ _ h => h), (fun _ _ _ _ h => h), (fun _ _ _ _ h => h), trivial⟩) ⟨?_, ?_, ?_, ?_, ?_, ?_, ?_, ?_, ?_, ?_, ?_, ?_, ?_, ?_, ?_, ?_, trivial⟩ ?_
                        · intro f389 wd390 he391 hout392 hphi393
                          have hS394 : St wd2 wd390 [] := St.extend hS363 he391
                          have e395 : f389 10 = (Value.int .i64 x134) := (hout392 10 rfl).trans e375
                          exact OpY.val (Value.int .i64 x134) wd390 rfl (op_move e395) (Ext.refl _) ⟨rfl, hr153⟩
                        · intro f396 wd397 he398 hout399 hphi400
                          have hS401 : St wd2 wd397 [] := St.extend hS363 he398
                          have e402 : f396 6 = u65 := (hout399 6 rfl).trans e372
                          exact OpY.val u65 wd397 rfl (op_move e402) (Ext.refl _) rfl
                        · intro f403 wd404 he405 hout406 hphi407
                          have hS408 : St wd2 wd404 [] := St.extend hS363 he405
                          have e409 : f403 7 = (Value.int .i64 (k71 : Int)) := (hout406 7 rfl).trans e373
                          exact OpY.val (Value.int .i64 (k71 : Int)) wd404 rfl (op_move e409) (Ext.refl _) ⟨rfl, hr93⟩
                        · intro f410 wd411 he412 hout413 hphi414
                          have hS415 : St wd2 wd411 [] := St.extend hS363 he412
                          have e416 : f410 68 = u65 := hphi414 1 68 _ rfl rfl rfl
                          obtain ⟨e417, hr418⟩ : f410 69 = (Value.int .i64 (k71 : Int)) ∧ InR .i64 (k71 : Int) := hphi414 2 69 _ rfl rfl rfl
                          exact OpY.val (Value.pointer (some (elA u65 ((k71 : Int)).toNat))) wd411 rfl (op_idx sl_65 (Ty.lift _ (Ext.trans hE7 hS415.ext) hr67) e416 e417 ha420 hb421) (Ext.refl _) rfl
                        · intro f423 wd424 he425 hout426 hphi427
                          have hS428 : St wd2 wd424 [] := St.extend hS363 he425
                          have e429 : f423 70 = (Value.pointer (some (elA u65 ((k71 : Int)).toNat))) := hphi427 3 70 _ rfl rfl rfl
                          exact OpY.val u430 wd424 rfl (op_load one_25 e429 (Ext.cell (Ext.trans hE7 hS428.ext) hc431)) (Ext.refl _) rfl
                        · intro f433 wd434 he435 hout436 hphi437
                          have hS438 : St wd2 wd434 [] := St.extend hS363 he435
                          have e439 : f433 11 = (Value.int .i64 (k132 : Int)) := (hout436 11 rfl).trans e376
                          exact OpY.val (Value.int .i64 (k132 : Int)) wd434 rfl (op_move e439) (Ext.refl _) ⟨rfl, hr166⟩
                        · intro f440 wd441 he442 hout443 hphi444
                          have hS445 : St wd2 wd441 [] := St.extend hS363 he442
                          have e446 : f440 71 = u430 := hphi444 4 71 _ rfl rfl rfl
                          obtain ⟨e447, hr448⟩ : f440 72 = (Value.int .i64 (k132 : Int)) ∧ InR .i64 (k132 : Int) := hphi444 5 72 _ rfl rfl rfl
                          exact OpY.val (Value.pointer (some (elA u430 ((k132 : Int)).toNat))) wd441 rfl (op_idx sl_25 (Ty.lift _ (Ext.trans hE7 hS445.ext) hr432) e446 e447 ha450 hb451) (Ext.refl _) rfl
                        · intro f453 wd454 he455 hout456 hphi457
                          have hS458 : St wd2 wd454 [] := St.extend hS363 he455
                          have e459 : f453 73 = (Value.pointer (some (elA u430 ((k132 : Int)).toNat))) := hphi457 6 73 _ rfl rfl rfl
                          exact OpY.val (Value.int .i64 x449) wd454 rfl (op_load one_2 e459 (Ext.cell (Ext.trans hE7 hS458.ext) hc461)) (Ext.refl _) ⟨rfl, hr462⟩
                        · intro f463 wd464 he465 hout466 hphi467
                          have hS468 : St wd2 wd464 [] := St.extend hS363 he465
                          have e469 : f463 4 = u33 := (hout466 4 rfl).trans e370
                          exact OpY.val u33 wd464 rfl (op_move e469) (Ext.refl _) rfl
                        · intro f470 wd471 he472 hout473 hphi474
                          have hS475 : St wd2 wd471 [] := St.extend hS363 he472
                          have e476 : f470 11 = (Value.int .i64 (k132 : Int)) := (hout473 11 rfl).trans e376
                          exact OpY.val (Value.int .i64 (k132 : Int)) wd471 rfl (op_move e476) (Ext.refl _) ⟨rfl, hr166⟩
                        · intro f477 wd478 he479 hout480 hphi481
                          have hS482 : St wd2 wd478 [] := St.extend hS363 he479
                          have e483 : f477 75 = u33 := hphi481 8 75 _ rfl rfl rfl
                          obtain ⟨e484, hr485⟩ : f477 76 = (Value.int .i64 (k132 : Int)) ∧ InR .i64 (k132 : Int) := hphi481 9 76 _ rfl rfl rfl
                          exact OpY.val (Value.pointer (some (elA u33 ((k132 : Int)).toNat))) wd478 rfl (op_idx sl_65 (Ty.lift _ (Ext.trans hE7 hS482.ext) hr35) e483 e484 ha487 hb488) (Ext.refl _) rfl
                        · intro f490 wd491 he492 hout493 hphi494
                          have hS495 : St wd2 wd491 [] := St.extend hS363 he492
                          have e496 : f490 77 = (Value.pointer (some (elA u33 ((k132 : Int)).toNat))) := hphi494 10 77 _ rfl rfl rfl
                          exact OpY.val u497 wd491 rfl (op_load one_25 e496 (Ext.cell (Ext.trans hE7 hS495.ext) hc498)) (Ext.refl _) rfl
                        · intro f500 wd501 he502 hout503 hphi504
                          have hS505 : St wd2 wd501 [] := St.extend hS363 he502
                          have e506 : f500 8 = (Value.int .i64 (k100 : Int)) := (hout503 8 rfl).trans e374
                          exact OpY.val (Value.int .i64 (k100 : Int)) wd501 rfl (op_move e506) (Ext.refl _) ⟨rfl, hr125⟩
                        · intro f507 wd508 he509 hout510 hphi511
                          have hS512 : St wd2 wd508 [] := St.extend hS363 he509
                          have e513 : f507 78 = u497 := hphi511 11 78 _ rfl rfl rfl
                          obtain ⟨e514, hr515⟩ : f507 79 = (Value.int .i64 (k100 : Int)) ∧ InR .i64 (k100 : Int) := hphi511 12 79 _ rfl rfl rfl
                          exact OpY.val (Value.pointer (some (elA u497 ((k100 : Int)).toNat))) wd508 rfl (op_idx sl_25 (Ty.lift _ (Ext.trans hE7 hS512.ext) hr499) e513 e514 ha517 hb518) (Ext.refl _) rfl
                        · intro f520 wd521 he522 hout523 hphi524
                          have hS525 : St wd2 wd521 [] := St.extend hS363 he522
                          have e526 : f520 80 = (Value.pointer (some (elA u497 ((k100 : Int)).toNat))) := hphi524 13 80 _ rfl rfl rfl
                          exact OpY.val (Value.int .i64 x516) wd521 rfl (op_load one_2 e526 (Ext.cell (Ext.trans hE7 hS525.ext) hc528)) (Ext.refl _) ⟨rfl, hr529⟩
                        · intro f530 wd531 he532 hout533 hphi534
                          have hS535 : St wd2 wd531 [] := St.extend hS363 he532
                          obtain ⟨e536, hr537⟩ : f530 74 = (Value.int .i64 x449) ∧ InR .i64 x449 := hphi534 7 74 _ rfl rfl rfl
                          obtain ⟨e538, hr539⟩ : f530 81 = (Value.int .i64 x516) ∧ InR .i64 x516 := hphi534 14 81 _ rfl rfl rfl
                          exact OpY.val (Value.int .i64 (w64 (x449 * x516))) wd531 rfl (op_mul e536 e538) (Ext.refl _) ⟨rfl, (inR_wrap _ _)⟩
                        · intro f540 wd541 he542 hout543 hphi544
                          show WL _ _ _ _ _ _ _
                          have hS545 : St wd2 wd541 [] := St.extend hS363 he542
                          obtain ⟨e546, hr547⟩ : f540 67 = (Value.int .i64 x134) ∧ InR .i64 x134 := hphi544 0 67 _ (by decide) rfl rfl
                          obtain ⟨e548, hr549⟩ : f540 82 = (Value.int .i64 (w64 (x449 * x516))) ∧ InR .i64 (w64 (x449 * x516)) := hphi544 15 82 _ (by decide) rfl rfl
                          have e550 : f540 1 = (Value.pointer (some ⟨b1, 0, none⟩)) := (hout543 1 rfl).trans e368
                          have e551 : f540 3 = (Value.int .i64 (k12 : Int)) := (hout543 3 rfl).trans e369
                          have e552 : f540 4 = u33 := (hout543 4 rfl).trans e370
                          have e553 : f540 5 = (Value.int .i64 (k39 : Int)) := (hout543 5 rfl).trans e371
                          have e554 : f540 6 = u65 := (hout543 6 rfl).trans e372
                          have e555 : f540 7 = (Value.int .i64 (k71 : Int)) := (hout543 7 rfl).trans e373
                          have e556 : f540 8 = (Value.int .i64 (k100 : Int)) := (hout543 8 rfl).trans e374
                          have e557 : f540 9 = (Value.int .i64 (w64 (x133 + (w64 (x230 * x334))))) := (hout543 9 rfl).trans rfl
                          have e558 : f540 13 = v_r_Table := (hout543 13 rfl).trans e377
                          have e559 : f540 14 = (Value.int .i64 ((r_Table).length : Int)) := (hout543 14 rfl).trans e378
                          have e560 : f540 15 = (Value.int .i64 (k12 : Int)) := (hout543 15 rfl).trans e379
                          have e561 : f540 21 = v_r_Table := (hout543 21 rfl).trans e380
                          have e562 : f540 22 = (Value.int .i64 ((r_Table).length : Int)) := (hout543 22 rfl).trans e381
                          have e563 : f540 23 = (Value.int .i64 (k39 : Int)) := (hout543 23 rfl).trans e382
                          have e564 : f540 30 = (Value.int .i64 ((r_Table).length : Int)) := (hout543 30 rfl).trans e383
                          have e565 : f540 31 = (Value.int .i64 (k71 : Int)) := (hout543 31 rfl).trans e384
                          have e566 : f540 36 = (Value.int .i64 ((r_Table).length : Int)) := (hout543 36 rfl).trans e385
                          have e567 : f540 37 = (Value.int .i64 (k100 : Int)) := (hout543 37 rfl).trans e386
                          have e568 : f540 42 = (Value.int .i64 ((r_Table).length : Int)) := (hout543 42 rfl).trans e387
                          have e569 : f540 43 = (Value.int .i64 (k132 : Int)) := (hout543 43 rfl).trans e388
                          refine WL.val (Value.int .i64 (w64 (x134 + (w64 (x449 * x516))))) _ (op_add e546 e548) rfl ?_
                          refine WL.val (Value.int .i64 (w64 (x134 + (w64 (x449 * x516))))) _ (op_assign rfl) rfl ?_
                          refine WL.nil ?_
                          show W _ _ _ _ _ _
                          refine W.region ?_
                          refine WL.val (Value.int .i64 (w64 ((k132 : Int) + (1 : Int)))) _ (op_add e569 rfl) rfl ?_
                          refine WL.val (Value.int .i64 (w64 ((k132 : Int) + (1 : Int)))) _ (op_move rfl) rfl ?_
                          refine WL.nil ?_
                          obtain rfl := Option.some.inj hb139
                          show ∃ s, _ = Ctl.next s ∧ _
                          exact ⟨_, rfl, e550, e551, e552, e553, e554, e555, e556, e557, (inR_wrap _ _), rfl, (inR_wrap _ _), e558, e559, e560, e561, e562, e563, e564, e565, e566, e567, e568, (ctr_next hl168 hr129), (ctr_rng hl168 hr129), hS545⟩
                    · intro s575 f571 wd572 hs573 hI574
                      obtain ⟨x576, x577⟩ := s575
                      replace hI574 : f571 1 = (Value.pointer (some ⟨b1, 0, none⟩)) ∧ f571 3 = (Value.int .i64 (k12 : Int)) ∧ f571 4 = u33 ∧ f571 5 = (Value.int .i64 (k39 : Int)) ∧ f571 6 = u65 ∧ f571 7 = (Value.int .i64 (k71 : Int)) ∧ f571 8 = (Value.int .i64 (k100 : Int)) ∧ f571 9 = Value.int .i64 x576 ∧ InR .i64 x576 ∧ f571 10 = Value.int .i64 x577 ∧ InR .i64 x577 ∧ f571 13 = v_r_Table ∧ f571 14 = (Value.int .i64 ((r_Table).length : Int)) ∧ f571 15 = (Value.int .i64 (k12 : Int)) ∧ f571 21 = v_r_Table ∧ f571 22 = (Value.int .i64 ((r_Table).length : Int)) ∧ f571 23 = (Value.int .i64 (k39 : Int)) ∧ f571 30 = (Value.int .i64 ((r_Table).length : Int)) ∧ f571 31 = (Value.int .i64 (k71 : Int)) ∧ f571 36 = (Value.int .i64 ((r_Table).length : Int)) ∧ f571 37 = (Value.int .i64 (k100 : Int)) ∧ f571 42 = (Value.int .i64 ((r_Table).length : Int)) ∧ f571 43 = Value.int .i64 (((r_Table).length : Nat) : Int) ∧ InR .i64 (((r_Table).length : Nat) : Int) ∧ St wd2 wd572 [] := hI574
                      obtain ⟨hf578, hf579, hf580, hf581, hf582, hf583, hf584, hf585, hr586, hf587, hr588, hf589, hf590, hf591, hf592, hf593, hf594, hf595, hf596, hf597, hf598, hf599, hf600, hr601, hS602⟩ := hI574
                      refine W.seq ?_
                      refine W.region ?_
                      refine WL.val (Value.bool (decide ((((r_Table).length : Nat) : Int) < ((r_Table).length : Int)))) _ (op_lss hf600 hf599) rfl ?_
                      have hl603 : ¬ (((r_Table).length : Nat) : Int) < ((r_Table).length : Int) := by omega
                      refine WL.nil ?_
                      show W _ _ _ _ _ _
                      refine W.seq ?_
                      refine W.condF (decide ((((r_Table).length : Nat) : Int) < ((r_Table).length : Int))) rfl (decide_eq_false hl603) ?_
                      refine W.exit ?_
                      show _ = _ ∧ _
                      exact ⟨rfl, _, hs573, hf578, hf579, hf580, hf581, hf582, hf583, hf584, hf585, hr586, hf587, hr588, hf589, hf590, hf591, hf592, hf593, hf594, hf595, hf596, hf597, hf598, hS602⟩
                  · rintro f604 wd605 ⟨s607, rfl, hq606⟩
                    replace hb105 := onRes_fin hb105
                    obtain ⟨x608, x609⟩ := s607
                    replace hq606 : f604 1 = (Value.pointer (some ⟨b1, 0, none⟩)) ∧ f604 3 = (Value.int .i64 (k12 : Int)) ∧ f604 4 = u33 ∧ f604 5 = (Value.int .i64 (k39 : Int)) ∧ f604 6 = u65 ∧ f604 7 = (Value.int .i64 (k71 : Int)) ∧ f604 8 = (Value.int .i64 (k100 : Int)) ∧ f604 9 = Value.int .i64 x608 ∧ InR .i64 x608 ∧ f604 10 = Value.int .i64 x609 ∧ InR .i64 x609 ∧ f604 13 = v_r_Table ∧ f604 14 = (Value.int .i64 ((r_Table).length : Int)) ∧ f604 15 = (Value.int .i64 (k12 : Int)) ∧ f604 21 = v_r_Table ∧ f604 22 = (Value.int .i64 ((r_Table).length : Int)) ∧ f604 23 = (Value.int .i64 (k39 : Int)) ∧ f604 30 = (Value.int .i64 ((r_Table).length : Int)) ∧ f604 31 = (Value.int .i64 (k71 : Int)) ∧ f604 36 = (Value.int .i64 ((r_Table).length : Int)) ∧ f604 37 = (Value.int .i64 (k100 : Int)) ∧ St wd2 wd605 [] := hq606
                    replace hb105 : (_ : Option _) = _ := hb105
                    dsimp only at hb105
                    obtain ⟨hf610, hf611, hf612, hf613, hf614, hf615, hf616, hf617, hr618, hf619, hr620, hf621, hf622, hf623, hf624, hf625, hf626, hf627, hf628, hf629, hf630, hS631⟩ := hq606
                    show W _ _ _ _ _ _
                    refine W.seq ?_
                    refine W.region ?_
                    refine WL.val (Value.int .i64 x608) _ (op_move hf617) rfl ?_
                    refine WL.val (Value.int .i64 x609) _ (op_move hf619) rfl ?_
                    refine WL.val (Value.bool (x608 != x609)) _ (op_neq rfl rfl) rfl ?_
                    refine WL.nil ?_
                    show W _ _ _ _ _ _
                    refine W.cond (x608 != x609) rfl (fun hc632 => ?_) (fun hc632 => ?_)
                    · replace hb105 := ip hb105 hc632
                      refine W.seq ?_
                      refine W.region ?_
                      refine WL.val (Value.int .i64 (k12 : Int)) _ (op_move hf611) rfl ?_
                      refine WL.val (Value.int .i64 (k39 : Int)) _ (op_move hf613) rfl ?_
                      refine WL.val (Value.int .i64 (k71 : Int)) _ (op_move hf615) rfl ?_
                      refine WL.val (Value.int .i64 (k100 : Int)) _ (op_move hf616) rfl ?_
                      refine WL.litFlat (t := (Ty.i .i64)) (flat_i .i64) [(Value.int .i64 (3 : Int)), (Value.int .i64 (k12 : Int)), (Value.int .i64 (k39 : Int)), (Value.int .i64 (k71 : Int)), (Value.int .i64 (k100 : Int))] [(3 : Int), (k12 : Int), (k39 : Int), (k71 : Int), (k100 : Int)] hS631 sl_25 rfl rfl (fillL rfl ⟨rfl, rfl, rfl, rfl, rfl, rfl, rfl, rfl, rfl, rfl, rfl, rfl, rfl, rfl, rfl, trivial⟩) rfl rfl (litL ⟨⟨rfl, (inR_i64.2 (show (-9223372036854775808 : Int) ≤ 3 ∧ (3 : Int) ≤ 9223372036854775807 from by decide))⟩, ⟨rfl, hr25⟩, ⟨rfl, hr57⟩, ⟨rfl, hr93⟩, ⟨rfl, hr125⟩, trivial⟩) rfl ?_
                      intro u634 wd635 hS636 he637
                      replace hS636 : St wd2 wd635 [(Ty.sl (Ty.i .i64)).at u634 ([(3 : Int), (k12 : Int), (k39 : Int), (k71 : Int), (k100 : Int)] : (List Int))] := hS636
                      refine WL.val u634 _ (op_assign rfl) rfl ?_
                      refine WL.nil ?_
                      show W _ _ _ _ _ _
                      refine W.ret ?_
                      obtain rfl := Option.some.inj hb105
                      obtain rfl := hret108 _ rfl
                      replace hb76 := onRes_ret hb76
                      obtain rfl := Option.some.inj hb76
                      obtain rfl := hret79 _ rfl
                      replace hb44 := onRes_ret hb44
                      obtain rfl := Option.some.inj hb44
                      obtain rfl := hret47 _ rfl
                      replace hb17 := onRes_ret hb17
                      obtain rfl := Option.some.inj hb17
                      obtain rfl := hret20 _ rfl
                      replace h := onRes_ret h
                      obtain rfl := Option.some.inj h
                      show FinP _ _ _ _ _ _ _
                      exact FinP.ret _ (res1 rfl rfl) ⟨u634, rfl, (nil_cons), (Ext.trans hE7 hS636.ext), (St.out (St.pick hS636 [0] rfl) (hE7))⟩
                    · replace hb105 := inegb hb105 hc632
                      refine W.skip ?_
                      show W _ _ _ _ _ _
                      refine W.region ?_
                      refine WL.val (Value.int .i64 (w64 ((k100 : Int) + (1 : Int)))) _ (op_add hf630 rfl) rfl ?_
                      refine WL.val (Value.int .i64 (w64 ((k100 : Int) + (1 : Int)))) _ (op_move rfl) rfl ?_
                      refine WL.nil ?_
                      obtain rfl := Option.some.inj hb105
                      show ∃ s, _ = Ctl.next s ∧ _
                      exact ⟨_, rfl, hf610, hf611, hf612, hf613, hf614, hf615, hf621, hf622, hf623, hf624, hf625, hf626, hf627, hf628, hf629, (ctr_next hl127 hr97), (ctr_rng hl127 hr97), hS631⟩
                · intro s644 f640 wd641 hs642 hI643
                  obtain ⟨⟩ := s644
                  replace hI643 : f640 1 = (Value.pointer (some ⟨b1, 0, none⟩)) ∧ f640 3 = (Value.int .i64 (k12 : Int)) ∧ f640 4 = u33 ∧ f640 5 = (Value.int .i64 (k39 : Int)) ∧ f640 6 = u65 ∧ f640 7 = (Value.int .i64 (k71 : Int)) ∧ f640 13 = v_r_Table ∧ f640 14 = (Value.int .i64 ((r_Table).length : Int)) ∧ f640 15 = (Value.int .i64 (k12 : Int)) ∧ f640 21 = v_r_Table ∧ f640 22 = (Value.int .i64 ((r_Table).length : Int)) ∧ f640 23 = (Value.int .i64 (k39 : Int)) ∧ f640 30 = (Value.int .i64 ((r_Table).length : Int)) ∧ f640 31 = (Value.int .i64 (k71 : Int)) ∧ f640 36 = (Value.int .i64 ((r_Table).length : Int)) ∧ f640 37 = Value.int .i64 (((r_Table).length : Nat) : Int) ∧ InR .i64 (((r_Table).length : Nat) : Int) ∧ St wd2 wd641 [] := hI643
                  obtain ⟨hf645, hf646, hf647, hf648, hf649, hf650, hf651, hf652, hf653, hf654, hf655, hf656, hf657, hf658, hf659, hf660, hr661, hS662⟩ := hI643
                  refine W.seq ?_
                  refine W.region ?_
                  refine WL.val (Value.bool (decide ((((r_Table).length : Nat) : Int) < ((r_Table).length : Int)))) _ (op_lss hf660 hf659) rfl ?_
                  have hl663 : ¬ (((r_Table).length : Nat) : Int) < ((r_Table).length : Int) := by omega
                  refine WL.nil ?_
                  show W _ _ _ _ _ _
                  refine W.seq ?_
                  refine W.condF (decide ((((r_Table).length : Nat) : Int) < ((r_Table).length : Int))) rfl (decide_eq_false hl663) ?_
                  refine W.exit ?_
                  show _ = _ ∧ _
                  exact ⟨rfl, _, hs642, hf645, hf646, hf647, hf648, hf649, hf651, hf652, hf653, hf654, hf655, hf656, hf657, hf658, hS662⟩
              · rintro f664 wd665 ⟨s667, rfl, hq666⟩
                replace hb76 := onRes_fin hb76
                obtain ⟨⟩ := s667
                replace hq666 : f664 1 = (Value.pointer (some ⟨b1, 0, none⟩)) ∧ f664 3 = (Value.int .i64 (k12 : Int)) ∧ f664 4 = u33 ∧ f664 5 = (Value.int .i64 (k39 : Int)) ∧ f664 6 = u65 ∧ f664 13 = v_r_Table ∧ f664 14 = (Value.int .i64 ((r_Table).length : Int)) ∧ f664 15 = (Value.int .i64 (k12 : Int)) ∧ f664 21 = v_r_Table ∧ f664 22 = (Value.int .i64 ((r_Table).length : Int)) ∧ f664 23 = (Value.int .i64 (k39 : Int)) ∧ f664 30 = (Value.int .i64 ((r_Table).length : Int)) ∧ f664 31 = (Value.int .i64 (k71 : Int)) ∧ St wd2 wd665 [] := hq666
                obtain ⟨hf668, hf669, hf670, hf671, hf672, hf673, hf674, hf675, hf676, hf677, hf678, hf679, hf680, hS681⟩ := hq666
                show W _ _ _ _ _ _
                refine W.region ?_
                refine WL.val (Value.int .i64 (w64 ((k71 : Int) + (1 : Int)))) _ (op_add hf680 rfl) rfl ?_
                refine WL.val (Value.int .i64 (w64 ((k71 : Int) + (1 : Int)))) _ (op_move rfl) rfl ?_
                refine WL.nil ?_
                obtain rfl := Option.some.inj hb76
                show ∃ s, _ = Ctl.next s ∧ _
                exact ⟨_, rfl, hf668, hf669, hf670, hf671, hf672, hf673, hf674, hf675, hf676, hf677, hf678, hf679, (ctr_next hl95 hr68), (ctr_rng hl95 hr68), hS681⟩
            · intro s688 f684 wd685 hs686 hI687
              obtain ⟨⟩ := s688
              replace hI687 : f684 1 = (Value.pointer (some ⟨b1, 0, none⟩)) ∧ f684 3 = (Value.int .i64 (k12 : Int)) ∧ f684 4 = u33 ∧ f684 5 = (Value.int .i64 (k39 : Int)) ∧ f684 6 = u65 ∧ f684 13 = v_r_Table ∧ f684 14 = (Value.int .i64 ((r_Table).length : Int)) ∧ f684 15 = (Value.int .i64 (k12 : Int)) ∧ f684 21 = v_r_Table ∧ f684 22 = (Value.int .i64 ((r_Table).length : Int)) ∧ f684 23 = (Value.int .i64 (k39 : Int)) ∧ f684 30 = (Value.int .i64 ((r_Table).length : Int)) ∧ f684 31 = Value.int .i64 (((r_Table).length : Nat) : Int) ∧ InR .i64 (((r_Table).length : Nat) : Int) ∧ St wd2 wd685 [] := hI687
              obtain ⟨hf689, hf690, hf691, hf692, hf693, hf694, hf695, hf696, hf697, hf698, hf699, hf700, hf701, hr702, hS703⟩ := hI687
              refine W.seq ?_
              refine W.region ?_
              refine WL.val (Value.bool (decide ((((r_Table).length : Nat) : Int) < ((r_Table).length : Int)))) _ (op_lss hf701 hf700) rfl ?_
              have hl704 : ¬ (((r_Table).length : Nat) : Int) < ((r_Table).length : Int) := by omega
              refine WL.nil ?_
              show W _ _ _ _ _ _
              refine W.seq ?_
              refine W.condF (decide ((((r_Table).length : Nat) : Int) < ((r_Table).length : Int))) rfl (decide_eq_false hl704) ?_
              refine W.exit ?_
              show _ = _ ∧ _
              exact ⟨rfl, _, hs686, hf689, hf690, hf691, hf694, hf695, hf696, hf697, hf698, hf699, hS703⟩
          · rintro f705 wd706 ⟨s708, rfl, hq707⟩
            replace hb44 := onRes_fin hb44
            obtain ⟨⟩ := s708
            replace hq707 : f705 1 = (Value.pointer (some ⟨b1, 0, none⟩)) ∧ f705 3 = (Value.int .i64 (k12 : Int)) ∧ f705 4 = u33 ∧ f705 13 = v_r_Table ∧ f705 14 = (Value.int .i64 ((r_Table).length : Int)) ∧ f705 15 = (Value.int .i64 (k12 : Int)) ∧ f705 21 = v_r_Table ∧ f705 22 = (Value.int .i64 ((r_Table).length : Int)) ∧ f705 23 = (Value.int .i64 (k39 : Int)) ∧ St wd2 wd706 [] := hq707
            obtain ⟨hf709, hf710, hf711, hf712, hf713, hf714, hf715, hf716, hf717, hS718⟩ := hq707
            show W _ _ _ _ _ _
            refine W.region ?_
            refine WL.val (Value.int .i64 (w64 ((k39 : Int) + (1 : Int)))) _ (op_add hf717 rfl) rfl ?_
            refine WL.val (Value.int .i64 (w64 ((k39 : Int) + (1 : Int)))) _ (op_move rfl) rfl ?_
            refine WL.nil ?_
            obtain rfl := Option.some.inj hb44
            show ∃ s, _ = Ctl.next s ∧ _
            exact ⟨_, rfl, hf709, hf710, hf711, hf712, hf713, hf714, hf715, hf716, (ctr_next hl59 hr36), (ctr_rng hl59 hr36), hS718⟩
        · intro s725 f721 wd722 hs723 hI724
          obtain ⟨⟩ := s725
          replace hI724 : f721 1 = (Value.pointer (some ⟨b1, 0, none⟩)) ∧ f721 3 = (Value.int .i64 (k12 : Int)) ∧ f721 4 = u33 ∧ f721 13 = v_r_Table ∧ f721 14 = (Value.int .i64 ((r_Table).length : Int)) ∧ f721 15 = (Value.int .i64 (k12 : Int)) ∧ f721 21 = v_r_Table ∧ f721 22 = (Value.int .i64 ((r_Table).length : Int)) ∧ f721 23 = Value.int .i64 (((r_Table).length : Nat) : Int) ∧ InR .i64 (((r_Table).length : Nat) : Int) ∧ St wd2 wd722 [] := hI724
          obtain ⟨hf726, hf727, hf728, hf729, hf730, hf731, hf732, hf733, hf734, hr735, hS736⟩ := hI724
          refine W.seq ?_
          refine W.region ?_
          refine WL.val (Value.bool (decide ((((r_Table).length : Nat) : Int) < ((r_Table).length : Int)))) _ (op_lss hf734 hf733) rfl ?_
          have hl737 : ¬ (((r_Table).length : Nat) : Int) < ((r_Table).length : Int) := by omega
          refine WL.nil ?_
          show W _ _ _ _ _ _
          refine W.seq ?_
          refine W.condF (decide ((((r_Table).length : Nat) : Int) < ((r_Table).length : Int))) rfl (decide_eq_false hl737) ?_
          refine W.exit ?_
          show _ = _ ∧ _
          exact ⟨rfl, _, hs723, hf726, hf729, hf730, hf731, hS736⟩
      · rintro f738 wd739 ⟨s741, rfl, hq740⟩
        replace hb17 := onRes_fin hb17
        obtain ⟨⟩ := s741
        replace hq740 : f738 1 = (Value.pointer (some ⟨b1, 0, none⟩)) ∧ f738 13 = v_r_Table ∧ f738 14 = (Value.int .i64 ((r_Table).length : Int)) ∧ f738 15 = (Value.int .i64 (k12 : Int)) ∧ St wd2 wd739 [] := hq740
        obtain ⟨hf742, hf743, hf744, hf745, hS746⟩ := hq740
        show W _ _ _ _ _ _
        refine W.region ?_
        refine WL.val (Value.int .i64 (w64 ((k12 : Int) + (1 : Int)))) _ (op_add hf745 rfl) rfl ?_
        refine WL.val (Value.int .i64 (w64 ((k12 : Int) + (1 : Int)))) _ (op_move rfl) rfl ?_
        refine WL.nil ?_
        obtain rfl := Option.some.inj hb17
        show ∃ s, _ = Ctl.next s ∧ _
        exact ⟨_, rfl, hf742, hf743, hf744, (ctr_next hl27 hr9), (ctr_rng hl27 hr9), hS746⟩
    · intro s753 f749 wd750 hs751 hI752
      obtain ⟨⟩ := s753
      replace hI752 : f749 1 = (Value.pointer (some ⟨b1, 0, none⟩)) ∧ f749 13 = v_r_Table ∧ f749 14 = (Value.int .i64 ((r_Table).length : Int)) ∧ f749 15 = Value.int .i64 (((r_Table).length : Nat) : Int) ∧ InR .i64 (((r_Table).length : Nat) : Int) ∧ St wd2 wd750 [] := hI752
      obtain ⟨hf754, hf755, hf756, hf757, hr758, hS759⟩ := hI752
      refine W.seq ?_
      refine W.region ?_
      refine WL.val (Value.bool (decide ((((r_Table).length : Nat) : Int) < ((r_Table).length : Int)))) _ (op_lss hf757 hf756) rfl ?_
      have hl760 : ¬ (((r_Table).length : Nat) : Int) < ((r_Table).length : Int) := by omega
      refine WL.nil ?_
      show W _ _ _ _ _ _
      refine W.seq ?_
      refine W.condF (decide ((((r_Table).length : Nat) : Int) < ((r_Table).length : Int))) rfl (decide_eq_false hl760) ?_
      refine W.exit ?_
      show _ = _ ∧ _
      exact ⟨rfl, _, hs751, hS759⟩
  · rintro f761 wd762 ⟨s764, rfl, hq763⟩
    replace h := onRes_fin h
    obtain ⟨⟩ := s764
    replace hq763 : St wd2 wd762 [] := hq763
    have hS765 := hq763
    show W _ _ _ _ _ _
    refine W.seq ?_
    refine W.region ?_
    refine WL.val (Value.slice none 0 0) _ (op_assign rfl) rfl ?_
    refine WL.nil ?_
    show W _ _ _ _ _ _
    refine W.ret ?_
    obtain rfl := Option.some.inj h
    show FinP _ _ _ _ _ _ _
    exact FinP.ret _ (res1 rfl rfl) ⟨(Value.slice none 0 0), rfl, (fun _ => ⟨0, 0, rfl⟩), (Ext.trans hE7 hS765.ext), (St.out (St.pick (St.addNil (Ty.i .i64) hS765) [0] rfl) (hE7))⟩

theorem c_impl_Ring_fault {w : World} {r_Table : (List (List (List Int)))} {v_r_Table : Value} (r_r_Table : (Ty.sl (Ty.sl (Ty.sl (Ty.i .i64)))).rep w v_r_Table r_Table) {res : (List Int)} (h : p_impl_Ring_fault r_Table  = some res) :
    Ret Try.prog 82 #[(Value.agg #[v_r_Table])] w (fun v w' => ∃ (u0 : Value), v = u0 ∧ NilIff u0 res ∧ Ext w w' ∧ Sep w.heap.size w' [(Ty.sl (Ty.i .i64)).at u0 res]) := by
  unfold p_impl_Ring_fault at h
  have hS0 : St w w [] := St.start w
  refine Ret.start (fn := Try.f82) Try.func82 rfl 24 rfl rfl ?_
  refine W.seq ?_
  refine W.region ?_
  refine WL.box hS0 rfl (cs := [v_r_Table]) rfl rfl ?_
  intro b1 wd2 hS3 he4 hx5
  replace hS3 : St w wd2 [bx b1 [v_r_Table]] := hS3
  have hx6 := St.boxAt hS3 0 rfl
  have hE7 : Ext w wd2 := hS3.ext
  have hS8 : St wd2 wd2 [] := St.start wd2
  refine WL.val (Value.slice none 0 0) _ (op_assign rfl) rfl ?_
  refine WL.nil ?_
  show W _ _ _ _ _ _
  refine W.seq ?_
  refine W.seq ?_
  refine W.region ?_
  refine WL.val (Value.agg #[v_r_Table]) _ (op_loadBox st_29 rfl (BoxAt.lift hS8.ext hx6) rfl rfl) rfl ?_
  obtain ⟨x9, hx10, h⟩ := bs h
  refine WL.call _ (op_call fn_104 (args1 rfl)) (c_impl_Ring_unitFault (Ty.lift _ (Ext.trans hE7 hS8.ext) r_r_Table) hx10) rfl ?_
  rintro u11 wd13 ⟨_, rfl, hn12, he14, hs15⟩
  have hS16 := St.join hS8 he14 hs15
  replace hS16 : St wd2 wd13 [(Ty.sl (Ty.i .i64)).at u11 x9] := hS16
  refine WL.val u11 _ (op_assign rfl) rfl ?_
  refine WL.nil ?_
  show W _ _ _ _ _ _
  refine W.seq ?_
  refine W.region ?_
  refine WL.val u11 _ (op_move rfl) rfl ?_
  refine WL.val (Value.bool (!(x9).isEmpty)) _ (op_neqNilL sl_25 (St.rep (t := (Ty.sl (Ty.i .i64))) hS16 0 rfl) hn12 rfl rfl) rfl ?_
  refine WL.nil ?_
  show W _ _ _ _ _ _
  refine W.cond (!(x9).isEmpty) rfl (fun hc17 => ?_) (fun hc17 => ?_)
  · replace h := ip h hc17
    refine W.seq ?_
    refine W.region ?_
    refine WL.val u11 _ (op_move rfl) rfl ?_
    refine WL.val u11 _ (op_assign rfl) rfl ?_
    refine WL.nil ?_
    show W _ _ _ _ _ _
    refine W.ret ?_
    obtain rfl := Option.some.inj h
    show FinP _ _ _ _ _ _ _
    exact FinP.ret _ (res1 rfl rfl) ⟨u11, rfl, hn12, (Ext.trans hE7 hS16.ext), (St.out (St.pick hS16 [0] rfl) (hE7))⟩
  · replace h := inegb h hc17
    refine W.skip ?_
    show W _ _ _ _ _ _
    refine W.seq ?_
    refine W.seq ?_
    refine W.region ?_
    refine WL.val (Value.agg #[v_r_Table]) _ (op_loadBox st_29 rfl (BoxAt.lift hS16.ext hx6) rfl rfl) rfl ?_
    obtain ⟨x19, hx20, h⟩ := bs h
    refine WL.call _ (op_call fn_105 (args1 rfl)) (c_impl_Ring_dualFault (Ty.lift _ (Ext.trans hE7 hS16.ext) r_r_Table) hx20) rfl ?_
    rintro _ wd22 ⟨rfl, hr21, he23⟩
    have hS25 := St.extend hS16 he23
    replace hS25 : St wd2 wd22 [(Ty.sl (Ty.i .i64)).at u11 x9] := hS25
    refine WL.val (Value.int .i64 x19) _ (op_assign rfl) rfl ?_
    refine WL.nil ?_
    show W _ _ _ _ _ _
    refine W.seq ?_
    refine W.region ?_
    refine WL.val (Value.int .i64 x19) _ (op_move rfl) rfl ?_
    refine WL.val (Value.bool (decide (x19 ≥ (0 : Int)))) _ (op_geq rfl rfl) rfl ?_
    refine WL.nil ?_
    show W _ _ _ _ _ _
    refine W.cond (decide (x19 ≥ (0 : Int))) rfl (fun hc26 => ?_) (fun hc26 => ?_)
    · replace h := ip h hc26
      refine W.seq ?_
      refine W.region ?_
      refine WL.val (Value.int .i64 x19) _ (op_move rfl) rfl ?_
      refine WL.litFlat (t := (Ty.i .i64)) (flat_i .i64) [(Value.int .i64 (1 : Int)), (Value.int .i64 x19)] [(1 : Int), x19] hS25 sl_25 rfl rfl (fillL rfl ⟨rfl, rfl, rfl, rfl, rfl, rfl, trivial⟩) rfl rfl (litL ⟨⟨rfl, (inR_i64.2 (show (-9223372036854775808 : Int) ≤ 1 ∧ (1 : Int) ≤ 9223372036854775807 from by decide))⟩, ⟨rfl, hr21⟩, trivial⟩) rfl ?_
      intro u28 wd29 hS30 he31
      replace hS30 : St wd2 wd29 [(Ty.sl (Ty.i .i64)).at u11 x9, (Ty.sl (Ty.i .i64)).at u28 ([(1 : Int), x19] : (List Int))] := hS30
      refine WL.val u28 _ (op_assign rfl) rfl ?_
      refine WL.nil ?_
      show W _ _ _ _ _ _
      refine W.ret ?_
      obtain rfl := Option.some.inj h
      show FinP _ _ _ _ _ _ _
      exact FinP.ret _ (res1 rfl rfl) ⟨u28, rfl, (nil_cons), (Ext.trans hE7 hS30.ext), (St.out (St.pick hS30 [1] rfl) (hE7))⟩
    · replace h := inegb h hc26
      refine W.skip ?_
      show W _ _ _ _ _ _
      refine W.seq ?_
      refine W.seq ?_
      refine W.region ?_
      refine WL.val (Value.agg #[v_r_Table]) _ (op_loadBox st_29 rfl (BoxAt.lift hS25.ext hx6) rfl rfl) rfl ?_
      obtain ⟨x32, hx33, h⟩ := bs h
      refine WL.call _ (op_call fn_106 (args1 rfl)) (c_impl_Ring_turnFault (Ty.lift _ (Ext.trans hE7 hS25.ext) r_r_Table) hx33) rfl ?_
      rintro u34 wd36 ⟨_, rfl, hn35, he37, hs38⟩
      have hS39 := St.join hS25 he37 hs38
      replace hS39 : St wd2 wd36 [(Ty.sl (Ty.i .i64)).at u11 x9, (Ty.sl (Ty.i .i64)).at u34 x32] := hS39
      refine WL.val u34 _ (op_assign rfl) rfl ?_
      refine WL.nil ?_
      show W _ _ _ _ _ _
      refine W.seq ?_
      refine W.region ?_
      refine WL.val u34 _ (op_move rfl) rfl ?_
      refine WL.val (Value.bool (!(x32).isEmpty)) _ (op_neqNilL sl_25 (St.rep (t := (Ty.sl (Ty.i .i64))) hS39 1 rfl) hn35 rfl rfl) rfl ?_
      refine WL.nil ?_
      show W _ _ _ _ _ _
      refine W.cond (!(x32).isEmpty) rfl (fun hc40 => ?_) (fun hc40 => ?_)
      · replace h := ip h hc40
        refine W.seq ?_
        refine W.region ?_
        refine WL.val u34 _ (op_move rfl) rfl ?_
        refine WL.val u34 _ (op_assign rfl) rfl ?_
        refine WL.nil ?_
        show W _ _ _ _ _ _
        refine W.ret ?_
        obtain rfl := Option.some.inj h
        show FinP _ _ _ _ _ _ _
        exact FinP.ret _ (res1 rfl rfl) ⟨u34, rfl, hn35, (Ext.trans hE7 hS39.ext), (St.out (St.pick hS39 [1] rfl) (hE7))⟩
      · replace h := inegb h hc40
        refine W.skip ?_
        show W _ _ _ _ _ _
        refine W.seq ?_
        refine W.region ?_
        refine WL.val (Value.agg #[v_r_Table]) _ (op_loadBox st_29 rfl (BoxAt.lift hS39.ext hx6) rfl rfl) rfl ?_
        obtain ⟨x42, hx43, h⟩ := bs h
        refine WL.call _ (op_call fn_107 (args1 rfl)) (c_impl_Ring_bracketFault (Ty.lift _ (Ext.trans hE7 hS39.ext) r_r_Table) hx43) rfl ?_
        rintro u44 wd46 ⟨_, rfl, hn45, he47, hs48⟩
        have hS49 := St.join hS39 he47 hs48
        replace hS49 : St wd2 wd46 [(Ty.sl (Ty.i .i64)).at u11 x9, (Ty.sl (Ty.i .i64)).at u34 x32, (Ty.sl (Ty.i .i64)).at u44 x42] := hS49
        refine WL.val u44 _ (op_assign rfl) rfl ?_
        refine WL.nil ?_
        show W _ _ _ _ _ _
        refine W.ret ?_
        obtain rfl := Option.some.inj h
        show FinP _ _ _ _ _ _ _
        exact FinP.ret _ (res1 rfl rfl) ⟨u44, rfl, hn45, (Ext.trans hE7 hS49.ext), (St.out (St.pick hS49 [2] rfl) (hE7))⟩

theorem c_impl_IsRing {w : World} {r_Table : (List (List (List Int)))} {v_r_Table : Value} (r_r_Table : (Ty.sl (Ty.sl (Ty.sl (Ty.i .i64)))).rep w v_r_Table r_Table) {res : Bool} (h : p_impl_IsRing r_Table  = some res) :
    Ret Try.prog 57 #[(Value.agg #[v_r_Table])] w (fun v w' => v = Value.bool res ∧ Ext w w') := by
  unfold p_impl_IsRing at h
  have hS0 : St w w [] := St.start w
  refine Ret.start (fn := Try.f57) Try.func57 rfl 10 rfl rfl ?_
  refine W.seq ?_
  refine W.region ?_
  refine WL.box hS0 rfl (cs := [v_r_Table]) rfl rfl ?_
  intro b1 wd2 hS3 he4 hx5
  replace hS3 : St w wd2 [bx b1 [v_r_Table]] := hS3
  have hx6 := St.boxAt hS3 0 rfl
  have hE7 : Ext w wd2 := hS3.ext
  have hS8 : St wd2 wd2 [] := St.start wd2
  refine WL.val (Value.bool false) _ (op_assign rfl) rfl ?_
  refine WL.nil ?_
  show W _ _ _ _ _ _
  refine W.seq ?_
  refine W.region ?_
  refine WL.val (Value.agg #[v_r_Table]) _ (op_loadBox st_29 rfl (BoxAt.lift hS8.ext hx6) rfl rfl) rfl ?_
  obtain ⟨x9, hx10, h⟩ := bs h
  refine WL.call _ (op_call fn_81 (args1 rfl)) (c_impl_isCube (Ty.lift _ (Ext.trans hE7 hS8.ext) r_r_Table) hx10) rfl ?_
  rintro _ wd11 ⟨rfl, he12⟩
  have hS14 := St.extend hS8 he12
  replace hS14 : St wd2 wd11 [] := hS14
  refine WL.val (Value.bool x9) _ (op_move rfl) rfl ?_
  obtain ⟨x16, hj17, h⟩ := bs h
  refine WL.cut 4 (fun fq wq => fq 9 = Value.bool x16 ∧ St wd2 wq []) ?_ ?_
  · rcases Bool.eq_false_or_eq_true x9 with hc15 | hc15
    · replace hj17 := ip hj17 hc15
      refine WL.grun rfl (bool_of rfl hc15) ?_
      refine WL.val (Value.agg #[v_r_Table]) _ (op_loadBox st_29 rfl (BoxAt.lift hS14.ext hx6) rfl rfl) rfl ?_
      refine WL.grun rfl (bool_of rfl hc15) ?_
      obtain ⟨x21, hx22, hj17⟩ := bs hj17
      refine WL.call _ (op_call fn_82 (args1 rfl)) (c_impl_Ring_fault (Ty.lift _ (Ext.trans hE7 hS14.ext) r_r_Table) hx22) rfl ?_
      rintro u23 wd25 ⟨_, rfl, hn24, he26, hs27⟩
      have hS28 := St.join hS14 he26 hs27
      replace hS28 : St wd2 wd25 [(Ty.sl (Ty.i .i64)).at u23 x21] := hS28
      refine WL.grun rfl (bool_of rfl hc15) ?_
      refine WL.val (Value.bool (x21).isEmpty) _ (op_eqlNilL sl_25 (St.rep (t := (Ty.sl (Ty.i .i64))) hS28 0 rfl) hn24 rfl rfl) rfl ?_
      refine WL.val (Value.bool (x21).isEmpty) _ (op_pick_t (evb_of rfl hc15) rfl) rfl ?_
      refine WL.nil ?_
      obtain rfl := Option.some.inj hj17
      exact ⟨rfl, rfl, (St.pick hS28 [] rfl)⟩
    · replace hj17 := inegb hj17 hc15
      refine WL.gskip rfl (bool_of rfl hc15) rfl ?_
      refine WL.gskip rfl (bool_of rfl hc15) rfl ?_
      refine WL.gskip rfl (bool_of rfl hc15) rfl ?_
      refine WL.val (Value.bool false) _ (op_pick_f (evb_of rfl hc15) rfl) rfl ?_
      refine WL.nil ?_
      obtain rfl := Option.some.inj hj17
      exact ⟨rfl, rfl, hS14⟩
  · intro f18 wd19 hq20
    obtain ⟨hf29, hS30⟩ := hq20
    refine WL.val (Value.bool x16) _ (op_assign hf29) rfl ?_
    refine WL.nil ?_
    show W _ _ _ _ _ _
    refine W.ret ?_
    obtain rfl := Option.some.inj h
    show FinP _ _ _ _ _ _ _
    exact FinP.ret _ (res1 rfl rfl) ⟨rfl, (Ext.trans hE7 hS30.ext)⟩

theorem c_slices_Clone_Lint64_int64 {w : World} {s1 : (List Int)} {v_s1 : Value} (r_s1 : (Ty.sl (Ty.i .i64)).rep w v_s1 s1) {res : (List Int)} (h : p_slices_Clone_Lint64_int64 s1  = some res) :
    Ret Try.prog 114 #[v_s1] w (fun v w' => ∃ (u0 : Value), v = u0 ∧ Ext w w' ∧ Sep w.heap.size w' [(Ty.sl (Ty.i .i64)).at u0 res]) := by
  unfold p_slices_Clone_Lint64_int64 at h
  have hS0 : St w w [] := St.start w
  obtain ⟨p0, c0, hv0, hl10, hl20, hp0, hel0⟩ := id r_s1
  refine Ret.start (fn := Try.f114) Try.func114 rfl 8 rfl rfl ?_
  refine W.seq ?_
  refine W.region ?_
  refine WL.val (Value.slice none 0 0) _ (op_assign rfl) rfl ?_
  refine WL.nil ?_
  show W _ _ _ _ _ _
  refine W.seq ?_
  refine W.seq ?_
  refine W.region ?_
  refine WL.val v_s1 _ (op_move rfl) rfl ?_
  refine WL.val (Value.bool p0.isNone) _ (op_eqlNil (Eq.trans rfl hv0) rfl sl_25.1) rfl ?_
  refine WL.nil ?_
  show W _ _ _ _ _ _
  refine W.cond p0.isNone rfl (fun hc1 => ?_) (fun hc1 => ?_)
  · obtain rfl : p0 = none := by cases p0 <;> simp_all
    obtain rfl : s1 = [] := Classical.byContradiction fun hn => hp0 hn rfl
    simp [appL] at h
    subst h
    refine W.seq ?_
    refine W.region ?_
    refine WL.val (Value.slice none 0 0) _ (op_assign rfl) rfl ?_
    refine WL.nil ?_
    show W _ _ _ _ _ _
    refine W.ret ?_
    show FinP _ _ _ _ _ _ _
    exact FinP.ret _ (res1 rfl rfl) ⟨(Value.slice none 0 0), rfl, hS0.ext, (St.out (St.pick (St.addNil (Ty.i .i64) hS0) [0] rfl) (Ext.refl _))⟩
  · refine W.skip ?_
    show W _ _ _ _ _ _
    refine W.seq ?_
    refine W.region ?_
    refine WL.lit0 (t := (Ty.i .i64)) hS0 sl_25 rfl rfl ?_
    intro u2 wd3 hS4 he5
    replace hS4 : St w wd3 [(Ty.sl (Ty.i .i64)).at u2 ([] : (List Int))] := hS4
    refine WL.val v_s1 _ (op_move rfl) rfl ?_
    obtain ⟨x6, hx7, h⟩ := bs h
    refine WL.append (flat_i .i64) hS4 (k := 0) rfl sl_25 rfl rfl rfl rfl (Ty.lift _ hS4.ext r_s1) hx7 rfl ?_
    intro u8 wd9 hS10 hz11
    replace hS10 : St w wd9 [(Ty.sl (Ty.i .i64)).at u8 x6] := hS10
    refine WL.val u8 _ (op_assign rfl) rfl ?_
    refine WL.nil ?_
    show W _ _ _ _ _ _
    refine W.ret ?_
    obtain rfl := Option.some.inj h
    show FinP _ _ _ _ _ _ _
    exact FinP.ret _ (res1 rfl rfl) ⟨u8, rfl, hS10.ext, (St.out (St.pick hS10 [0] rfl) (Ext.refl _))⟩

theorem c_impl_Ring_opposite {w : World} {r_Table : (List (List (List Int)))} {v_r_Table : Value} (r_r_Table : (Ty.sl (Ty.sl (Ty.sl (Ty.i .i64)))).rep w v_r_Table r_Table) {res : (List (List (List Int)))} (h : p_impl_Ring_opposite r_Table  = some res) :
    Ret Try.prog 98 #[(Value.agg #[v_r_Table])] w (fun v w' => ∃ (u0 : Value), v = (Value.agg #[u0]) ∧ Ext w w' ∧ Sep w.heap.size w' [(Ty.sl (Ty.sl (Ty.sl (Ty.i .i64)))).at u0 res]) := by
  unfold p_impl_Ring_opposite at h
  have hS0 : St w w [] := St.start w
  refine Ret.start (fn := Try.f98) Try.func98 rfl 42 rfl rfl ?_
  refine W.seq ?_
  refine W.region ?_
  refine WL.box hS0 rfl (cs := [v_r_Table]) rfl rfl ?_
  intro b1 wd2 hS3 he4 hx5
  replace hS3 : St w wd2 [bx b1 [v_r_Table]] := hS3
  have hx6 := St.boxAt hS3 0 rfl
  have hE7 : Ext w wd2 := hS3.ext
  have hS8 : St wd2 wd2 [] := St.start wd2
  refine WL.alloc hS8 ze_29 (cs := [(Value.slice none 0 0)]) rfl rfl ?_
  intro b9 wd10 hS11 he12
  replace hS11 : St wd2 wd10 [bx b9 [(Value.slice none 0 0)]] := hS11
  refine WL.nil ?_
  show W _ _ _ _ _ _
  refine W.seq ?_
  refine W.region ?_
  refine WL.val (Value.agg #[(Value.slice none 0 0)]) _ (op_build bd_29 (parts := []) (partsL trivial) trivial rfl) rfl ?_
  refine WL.alloc hS11 ze_29 (cs := [(Value.slice none 0 0)]) rfl rfl ?_
  intro b13 wd14 hS15 he16
  replace hS15 : St wd2 wd14 [bx b9 [(Value.slice none 0 0)], bx b13 [(Value.slice none 0 0)]] := hS15
  have hS19 := St.addNil (Ty.sl (Ty.sl (Ty.i .i64))) hS15
  replace hS19 : St wd2 wd14 [bx b9 [(Value.slice none 0 0)], bx b13 [(Value.slice none 0 0)], (Ty.sl (Ty.sl (Ty.sl (Ty.i .i64)))).at (Value.slice none 0 0) ([] : (List (List (List Int))))] := hS19
  refine WL.storeBox [(Value.slice none 0 0)] hS19 (k := 1) rfl rfl rfl (us := [(Value.slice none 0 0)]) rfl sz_29 rfl rfl (all_rep (St.rep (t := (Ty.sl (Ty.sl (Ty.sl (Ty.i .i64))))) hS19 2 rfl) all_nil) rfl ?_
  intro wd17 hS18
  replace hS18 : St wd2 wd17 [bx b9 [(Value.slice none 0 0)], bx b13 [(Value.slice none 0 0)], (Ty.sl (Ty.sl (Ty.sl (Ty.i .i64)))).at (Value.slice none 0 0) ([] : (List (List (List Int))))] := hS18
  refine WL.nil ?_
  show W _ _ _ _ _ _
  refine W.seq ?_
  refine W.seq ?_
  refine W.region ?_
  refine WL.val (Value.pointer (some ⟨b1, 0, none⟩)) _ (op_fieldAddr fd_29_0 rfl) rfl ?_
  refine WL.val v_r_Table _ (op_load one_22 rfl (BoxAt.cell (BoxAt.lift hS18.ext hx6) rfl)) rfl ?_
  have hr20 := inR_len (Ty.lift _ (Ext.trans hE7 hS18.ext) r_r_Table)
  refine WL.val (Value.int .i64 ((r_Table).length : Int)) _ (op_lenL sl_22 (Ty.lift _ (Ext.trans hE7 hS18.ext) r_r_Table) rfl) rfl ?_
  refine WL.val (Value.int .i64 (0 : Int)) _ (op_move rfl) rfl ?_
  refine WL.nil ?_
  show W _ _ _ _ _ _
  obtain ⟨res21, hres22, h⟩ := bs h
  refine W.blockLoop (fun fq wq => ∃ s, res21 = Res.fin s ∧ ∃ (uu0 : Value), fq 2 = (Value.pointer (some ⟨b9, 0, none⟩)) ∧ fq 3 = (Value.pointer (some ⟨b13, 0, none⟩)) ∧ St wd2 wq [bx b9 [(Value.slice none 0 0)], bx b13 [uu0], (Ty.sl (Ty.sl (Ty.sl (Ty.i .i64)))).at uu0 s]) ?_ ?_
  · refine W.forN (fun k (s : (List (List (List Int)))) fq wq => ∃ (uu0 : Value), fq 1 = (Value.pointer (some ⟨b1, 0, none⟩)) ∧ fq 2 = (Value.pointer (some ⟨b9, 0, none⟩)) ∧ fq 3 = (Value.pointer (some ⟨b13, 0, none⟩)) ∧ fq 10 = (Value.int .i64 ((r_Table).length : Int)) ∧ fq 11 = Value.int .i64 (k : Int) ∧ InR .i64 (k : Int) ∧ St wd2 wq [bx b9 [(Value.slice none 0 0)], bx b13 [uu0], (Ty.sl (Ty.sl (Ty.sl (Ty.i .i64)))).at uu0 s]) hres22 ⟨(Value.slice none 0 0), rfl, rfl, rfl, rfl, rfl, (inR_i64.2 (show (-9223372036854775808 : Int) ≤ 0 ∧ (0 : Int) ≤ 9223372036854775807 from by decide)), hS18⟩ ?_ ?_
    · intro k23 x24 ct25 f26 wd27 hk28 hb29 hI30 hbrk31 hret32
      replace hI30 : ∃ (uu0 : Value), f26 1 = (Value.pointer (some ⟨b1, 0, none⟩)) ∧ f26 2 = (Value.pointer (some ⟨b9, 0, none⟩)) ∧ f26 3 = (Value.pointer (some ⟨b13, 0, none⟩)) ∧ f26 10 = (Value.int .i64 ((r_Table).length : Int)) ∧ f26 11 = Value.int .i64 (k23 : Int) ∧ InR .i64 (k23 : Int) ∧ St wd2 wd27 [bx b9 [(Value.slice none 0 0)], bx b13 [uu0], (Ty.sl (Ty.sl (Ty.sl (Ty.i .i64)))).at uu0 x24] := hI30
      replace hb29 : p_impl_Ring_opposite_L1 r_Table k23 x24 = some ct25 := hb29
      unfold p_impl_Ring_opposite_L1 at hb29
      obtain ⟨u33, hf34, hf35, hf36, hf37, hf38, hr39, hS40⟩ := hI30
      refine W.seq ?_
      refine W.region ?_
      refine WL.val (Value.bool (decide ((k23 : Int) < ((r_Table).length : Int)))) _ (op_lss hf38 hf37) rfl ?_
      have hl41 : (k23 : Int) < ((r_Table).length : Int) := by omega
      refine WL.nil ?_
      show W _ _ _ _ _ _
      refine W.seq ?_
      refine W.condT (decide ((k23 : Int) < ((r_Table).length : Int))) rfl (decide_eq_true hl41) ?_
      refine W.skip ?_
      show W _ _ _ _ _ _
      refine W.seq ?_
      refine W.block ?_
      refine W.seq ?_
      refine W.region ?_
      refine WL.val (Value.int .i64 (k23 : Int)) _ (op_move hf38) rfl ?_
      refine WL.val (Value.int .i64 (k23 : Int)) _ (op_assign rfl) rfl ?_
      refine WL.nil ?_
      show W _ _ _ _ _ _
      refine W.seq ?_
      refine W.region ?_
      refine WL.lit0 (t := (Ty.sl (Ty.i .i64))) hS40 sl_65 rfl rfl ?_
      intro u43 wd44 hS45 he46
      replace hS45 : St wd2 wd44 [bx b9 [(Value.slice none 0 0)], bx b13 [u33], (Ty.sl (Ty.sl (Ty.sl (Ty.i .i64)))).at u33 x24, (Ty.sl (Ty.sl (Ty.i .i64))).at u43 ([] : (List (List Int)))] := hS45
      refine WL.val u43 _ (op_assign rfl) rfl ?_
      refine WL.nil ?_
      show W _ _ _ _ _ _
      refine W.seq ?_
      refine W.seq ?_
      refine W.region ?_
      refine WL.val (Value.pointer (some ⟨b1, 0, none⟩)) _ (op_fieldAddr fd_29_0 hf34) rfl ?_
      refine WL.val v_r_Table _ (op_load one_22 rfl (BoxAt.cell (BoxAt.lift hS45.ext hx6) rfl)) rfl ?_
      have hr47 := inR_len (Ty.lift _ (Ext.trans hE7 hS45.ext) r_r_Table)
      refine WL.val (Value.int .i64 ((r_Table).length : Int)) _ (op_lenL sl_22 (Ty.lift _ (Ext.trans hE7 hS45.ext) r_r_Table) rfl) rfl ?_
      refine WL.val (Value.int .i64 (0 : Int)) _ (op_move rfl) rfl ?_
      refine WL.nil ?_
      show W _ _ _ _ _ _
      obtain ⟨res48, hres49, hb29⟩ := bs hb29
      refine W.blockLoop (fun fq wq => ∃ s, res48 = Res.fin s ∧ ∃ (uu0 : Value), fq 1 = (Value.pointer (some ⟨b1, 0, none⟩)) ∧ fq 2 = (Value.pointer (some ⟨b9, 0, none⟩)) ∧ fq 3 = (Value.pointer (some ⟨b13, 0, none⟩)) ∧ fq 5 = uu0 ∧ fq 10 = (Value.int .i64 ((r_Table).length : Int)) ∧ fq 11 = (Value.int .i64 (k23 : Int)) ∧ St wd2 wq [bx b9 [(Value.slice none 0 0)], bx b13 [u33], (Ty.sl (Ty.sl (Ty.sl (Ty.i .i64)))).at u33 x24, (Ty.sl (Ty.sl (Ty.i .i64))).at uu0 s]) ?_ ?_
      · refine W.forN (fun k (s : (List (List Int))) fq wq => ∃ (uu0 : Value), fq 1 = (Value.pointer (some ⟨b1, 0, none⟩)) ∧ fq 2 = (Value.pointer (some ⟨b9, 0, none⟩)) ∧ fq 3 = (Value.pointer (some ⟨b13, 0, none⟩)) ∧ fq 4 = (Value.int .i64 (k23 : Int)) ∧ fq 5 = uu0 ∧ fq 10 = (Value.int .i64 ((r_Table).length : Int)) ∧ fq 11 = (Value.int .i64 (k23 : Int)) ∧ fq 17 = (Value.int .i64 ((r_Table).length : Int)) ∧ fq 18 = Value.int .i64 (k : Int) ∧ InR .i64 (k : Int) ∧ St wd2 wq [bx b9 [(Value.slice none 0 0)], bx b13 [u33], (Ty.sl (Ty.sl (Ty.sl (Ty.i .i64)))).at u33 x24, (Ty.sl (Ty.sl (Ty.i .i64))).at uu0 s]) hres49 ⟨u43, hf34, hf35, hf36, rfl, rfl, hf37, hf38, rfl, rfl, (inR_i64.2 (show (-9223372036854775808 : Int) ≤ 0 ∧ (0 : Int) ≤ 9223372036854775807 from by decide)), hS45⟩ ?_ ?_
        · intro k50 x51 ct52 f53 wd54 hk55 hb56 hI57 hbrk58 hret59
          replace hI57 : ∃ (uu0 : Value), f53 1 = (Value.pointer (some ⟨b1, 0, none⟩)) ∧ f53 2 = (Value.pointer (some ⟨b9, 0, none⟩)) ∧ f53 3 = (Value.pointer (some ⟨b13, 0, none⟩)) ∧ f53 4 = (Value.int .i64 (k23 : Int)) ∧ f53 5 = uu0 ∧ f53 10 = (Value.int .i64 ((r_Table).length : Int)) ∧ f53 11 = (Value.int .i64 (k23 : Int)) ∧ f53 17 = (Value.int .i64 ((r_Table).length : Int)) ∧ f53 18 = Value.int .i64 (k50 : Int) ∧ InR .i64 (k50 : Int) ∧ St wd2 wd54 [bx b9 [(Value.slice none 0 0)], bx b13 [u33], (Ty.sl (Ty.sl (Ty.sl (Ty.i .i64)))).at u33 x24, (Ty.sl (Ty.sl (Ty.i .i64))).at uu0 x51] := hI57
          replace hb56 : p_impl_Ring_opposite_L2 r_Table k23 k50 x51 = some ct52 := hb56
          unfold p_impl_Ring_opposite_L2 at hb56
          obtain ⟨u60, hf61, hf62, hf63, hf64, hf65, hf66, hf67, hf68, hf69, hr70, hS71⟩ := hI57
          refine W.seq ?_
          refine W.region ?_
          refine WL.val (Value.bool (decide ((k50 : Int) < ((r_Table).length : Int)))) _ (op_lss hf69 hf68) rfl ?_
          have hl72 : (k50 : Int) < ((r_Table).length : Int) := by omega
          refine WL.nil ?_
          show W _ _ _ _ _ _
          refine W.seq ?_
          refine W.condT (decide ((k50 : Int) < ((r_Table).length : Int))) rfl (decide_eq_true hl72) ?_
          refine W.skip ?_
          show W _ _ _ _ _ _
          refine W.seq ?_
          refine W.block ?_
          refine W.seq ?_
          refine W.region ?_
          refine WL.val (Value.int .i64 (k50 : Int)) _ (op_move hf69) rfl ?_
          refine WL.val (Value.int .i64 (k50 : Int)) _ (op_assign rfl) rfl ?_
          refine WL.nil ?_
          show W _ _ _ _ _ _
          refine W.region ?_
          refine WL.val u60 _ (op_move hf65) rfl ?_
          refine WL.val (Value.pointer (some ⟨b1, 0, none⟩)) _ (op_fieldAddr fd_29_0 hf61) rfl ?_
          refine WL.val v_r_Table _ (op_load one_22 rfl (BoxAt.cell (BoxAt.lift hS71.ext hx6) rfl)) rfl ?_
          refine WL.val (Value.int .i64 (k50 : Int)) _ (op_move rfl) rfl ?_
          obtain ⟨x74, hx77, hb56⟩ := bs hb56
          obtain ⟨ha75, hb76, hx77⟩ := idx_some hx77
          refine WL.val (Value.pointer (some (elA v_r_Table ((k50 : Int)).toNat))) _ (op_idx sl_22 (Ty.lift _ (Ext.trans hE7 hS71.ext) r_r_Table) rfl rfl ha75 hb76) rfl ?_
          obtain ⟨u78, hc79, hr80⟩ := repSl.el r_r_Table hx77
          refine WL.val u78 _ (op_load one_65 rfl (Ext.cell (Ext.trans hE7 hS71.ext) hc79)) rfl ?_
          refine WL.val (Value.int .i64 (k23 : Int)) _ (op_move hf64) rfl ?_
          obtain ⟨x81, hx84, hb56⟩ := bs hb56
          obtain ⟨ha82, hb83, hx84⟩ := idx_some hx84
          refine WL.val (Value.pointer (some (elA u78 ((k23 : Int)).toNat))) _ (op_idx sl_65 (Ty.lift _ (Ext.trans hE7 hS71.ext) hr80) rfl rfl ha82 hb83) rfl ?_
          obtain ⟨u85, hc86, hr87⟩ := repSl.el hr80 hx84
          refine WL.val u85 _ (op_load one_25 rfl (Ext.cell (Ext.trans hE7 hS71.ext) hc86)) rfl ?_
          obtain ⟨x88, hx89, hb56⟩ := bs hb56
          refine WL.call _ (op_call fn_114 (args1 rfl)) (c_slices_Clone_Lint64_int64 (Ty.lift _ (Ext.trans hE7 hS71.ext) hr87) hx89) rfl ?_
          rintro u90 wd91 ⟨_, rfl, he92, hs93⟩
          have hS94 := St.join hS71 he92 hs93
          replace hS94 : St wd2 wd91 [bx b9 [(Value.slice none 0 0)], bx b13 [u33], (Ty.sl (Ty.sl (Ty.sl (Ty.i .i64)))).at u33 x24, (Ty.sl (Ty.sl (Ty.i .i64))).at u60 x51, (Ty.sl (Ty.i .i64)).at u90 x88] := hS94
          refine WL.lit [u90] hS94 sl_65 rfl rfl (fillL rfl ⟨rfl, rfl, (cells_rep (St.rep (t := (Ty.sl (Ty.i .i64))) hS94 4 rfl)), trivial⟩) rfl rfl ?_
          intro b99 wd96 hS97 he98 hx100
          replace hS97 : St wd2 wd96 [bx b9 [(Value.slice none 0 0)], bx b13 [u33], (Ty.sl (Ty.sl (Ty.sl (Ty.i .i64)))).at u33 x24, (Ty.sl (Ty.sl (Ty.i .i64))).at u60 x51, (Ty.sl (Ty.i .i64)).at u90 x88, bx b99 [u90]] := hS97
          obtain ⟨x101, hx102, hb56⟩ := bs hb56
          refine WL.appendRow hS97 (k := 3) (k2 := 4) (k3 := 5) rfl rfl rfl rfl sl_65 rfl rfl rfl rfl hx102 rfl ?_
          intro u103 wd104 hS105 hz106
          replace hS105 : St wd2 wd104 [bx b9 [(Value.slice none 0 0)], bx b13 [u33], (Ty.sl (Ty.sl (Ty.sl (Ty.i .i64)))).at u33 x24, (Ty.sl (Ty.sl (Ty.i .i64))).at u103 x101, emp, bx b99 [u90]] := hS105
          refine WL.val u103 _ (op_assign rfl) rfl ?_
          refine WL.nil ?_
          show W _ _ _ _ _ _
          refine W.region ?_
          refine WL.val (Value.int .i64 (w64 ((k50 : Int) + (1 : Int)))) _ (op_add hf69 rfl) rfl ?_
          refine WL.val (Value.int .i64 (w64 ((k50 : Int) + (1 : Int)))) _ (op_move rfl) rfl ?_
          refine WL.nil ?_
          obtain rfl := Option.some.inj hb56
          show ∃ s, _ = Ctl.next s ∧ _
          exact ⟨_, rfl, u103, hf61, hf62, hf63, hf64, rfl, hf66, hf67, hf68, (ctr_next hl72 hr47), (ctr_rng hl72 hr47), (St.pick hS105 [0, 1, 2, 3] rfl)⟩
        · intro x113 f108 wd109 hs110 hI111
          replace hI111 : ∃ (uu0 : Value), f108 1 = (Value.pointer (some ⟨b1, 0, none⟩)) ∧ f108 2 = (Value.pointer (some ⟨b9, 0, none⟩)) ∧ f108 3 = (Value.pointer (some ⟨b13, 0, none⟩)) ∧ f108 4 = (Value.int .i64 (k23 : Int)) ∧ f108 5 = uu0 ∧ f108 10 = (Value.int .i64 ((r_Table).length : Int)) ∧ f108 11 = (Value.int .i64 (k23 : Int)) ∧ f108 17 = (Value.int .i64 ((r_Table).length : Int)) ∧ f108 18 = Value.int .i64 (((r_Table).length : Nat) : Int) ∧ InR .i64 (((r_Table).length : Nat) : Int) ∧ St wd2 wd109 [bx b9 [(Value.slice none 0 0)], bx b13 [u33], (Ty.sl (Ty.sl (Ty.sl (Ty.i .i64)))).at u33 x24, (Ty.sl (Ty.sl (Ty.i .i64))).at uu0 x113] := hI111
          obtain ⟨u114, hf115, hf116, hf117, hf118, hf119, hf120, hf121, hf122, hf123, hr124, hS125⟩ := hI111
          refine W.seq ?_
          refine W.region ?_
          refine WL.val (Value.bool (decide ((((r_Table).length : Nat) : Int) < ((r_Table).length : Int)))) _ (op_lss hf123 hf122) rfl ?_
          have hl126 : ¬ (((r_Table).length : Nat) : Int) < ((r_Table).length : Int) := by omega
          refine WL.nil ?_
          show W _ _ _ _ _ _
          refine W.seq ?_
          refine W.condF (decide ((((r_Table).length : Nat) : Int) < ((r_Table).length : Int))) rfl (decide_eq_false hl126) ?_
          refine W.exit ?_
          show _ = _ ∧ _
          exact ⟨rfl, _, hs110, u114, hf115, hf116, hf117, hf119, hf120, hf121, hS125⟩
      · rintro f127 wd128 ⟨x131, rfl, hq129⟩
        replace hb29 := onRes_fin hb29
        replace hq129 : ∃ (uu0 : Value), f127 1 = (Value.pointer (some ⟨b1, 0, none⟩)) ∧ f127 2 = (Value.pointer (some ⟨b9, 0, none⟩)) ∧ f127 3 = (Value.pointer (some ⟨b13, 0, none⟩)) ∧ f127 5 = uu0 ∧ f127 10 = (Value.int .i64 ((r_Table).length : Int)) ∧ f127 11 = (Value.int .i64 (k23 : Int)) ∧ St wd2 wd128 [bx b9 [(Value.slice none 0 0)], bx b13 [u33], (Ty.sl (Ty.sl (Ty.sl (Ty.i .i64)))).at u33 x24, (Ty.sl (Ty.sl (Ty.i .i64))).at uu0 x131] := hq129
        obtain ⟨u132, hf133, hf134, hf135, hf136, hf137, hf138, hS139⟩ := hq129
        show W _ _ _ _ _ _
        refine W.region ?_
        refine WL.val (Value.pointer (some ⟨b13, 0, none⟩)) _ (op_fieldAddr fd_29_0 hf135) rfl ?_
        refine WL.val u33 _ (op_load one_22 rfl (BoxAt.cell (St.boxAt hS139 1 rfl) rfl)) rfl ?_
        refine WL.val u132 _ (op_move hf136) rfl ?_
        refine WL.lit [u132] hS139 sl_22 rfl rfl (fillL rfl ⟨rfl, rfl, (cells_rep (St.rep (t := (Ty.sl (Ty.sl (Ty.i .i64)))) hS139 3 rfl)), trivial⟩) rfl rfl ?_
        intro b144 wd141 hS142 he143 hx145
        replace hS142 : St wd2 wd141 [bx b9 [(Value.slice none 0 0)], bx b13 [u33], (Ty.sl (Ty.sl (Ty.sl (Ty.i .i64)))).at u33 x24, (Ty.sl (Ty.sl (Ty.i .i64))).at u132 x131, bx b144 [u132]] := hS142
        obtain ⟨x146, hx147, hb29⟩ := bs hb29
        refine WL.appendRow hS142 (k := 2) (k2 := 3) (k3 := 4) rfl rfl rfl rfl sl_22 rfl rfl rfl rfl hx147 rfl ?_
        intro u148 wd149 hS150 hz151
        replace hS150 : St wd2 wd149 [bx b9 [(Value.slice none 0 0)], bx b13 [u33], (Ty.sl (Ty.sl (Ty.sl (Ty.i .i64)))).at u148 x146, emp, bx b144 [u132]] := hS150
        refine WL.val (Value.pointer (some ⟨b13, 0, none⟩)) _ (op_fieldAddr fd_29_0 hf135) rfl ?_
        refine WL.storeBox [u148] hS150 (k := 1) rfl rfl rfl (us := [u148]) (cells_rep (St.rep (t := (Ty.sl (Ty.sl (Ty.sl (Ty.i .i64))))) hS150 2 rfl)) sz_22 rfl rfl (all_rep (St.rep (t := (Ty.sl (Ty.sl (Ty.sl (Ty.i .i64))))) hS150 2 rfl) all_nil) rfl ?_
        intro wd152 hS153
        replace hS153 : St wd2 wd152 [bx b9 [(Value.slice none 0 0)], bx b13 [u148], (Ty.sl (Ty.sl (Ty.sl (Ty.i .i64)))).at u148 x146, emp, bx b144 [u132]] := hS153
        refine WL.nil ?_
        show W _ _ _ _ _ _
        refine W.region ?_
        refine WL.val (Value.int .i64 (w64 ((k23 : Int) + (1 : Int)))) _ (op_add hf138 rfl) rfl ?_
        refine WL.val (Value.int .i64 (w64 ((k23 : Int) + (1 : Int)))) _ (op_move rfl) rfl ?_
        refine WL.nil ?_
        obtain rfl := Option.some.inj hb29
        show ∃ s, _ = Ctl.next s ∧ _
        exact ⟨_, rfl, u148, hf133, hf134, hf135, hf137, (ctr_next hl41 hr20), (ctr_rng hl41 hr20), (St.pick hS153 [0, 1, 2] rfl)⟩
    · intro x161 f156 wd157 hs158 hI159
      replace hI159 : ∃ (uu0 : Value), f156 1 = (Value.pointer (some ⟨b1, 0, none⟩)) ∧ f156 2 = (Value.pointer (some ⟨b9, 0, none⟩)) ∧ f156 3 = (Value.pointer (some ⟨b13, 0, none⟩)) ∧ f156 10 = (Value.int .i64 ((r_Table).length : Int)) ∧ f156 11 = Value.int .i64 (((r_Table).length : Nat) : Int) ∧ InR .i64 (((r_Table).length : Nat) : Int) ∧ St wd2 wd157 [bx b9 [(Value.slice none 0 0)], bx b13 [uu0], (Ty.sl (Ty.sl (Ty.sl (Ty.i .i64)))).at uu0 x161] := hI159
      obtain ⟨u162, hf163, hf164, hf165, hf166, hf167, hr168, hS169⟩ := hI159
      refine W.seq ?_
      refine W.region ?_
      refine WL.val (Value.bool (decide ((((r_Table).length : Nat) : Int) < ((r_Table).length : Int)))) _ (op_lss hf167 hf166) rfl ?_
      have hl170 : ¬ (((r_Table).length : Nat) : Int) < ((r_Table).length : Int) := by omega
      refine WL.nil ?_
      show W _ _ _ _ _ _
      refine W.seq ?_
      refine W.condF (decide ((((r_Table).length : Nat) : Int) < ((r_Table).length : Int))) rfl (decide_eq_false hl170) ?_
      refine W.exit ?_
      show _ = _ ∧ _
      exact ⟨rfl, _, hs158, u162, hf164, hf165, hS169⟩
  · rintro f171 wd172 ⟨x175, rfl, hq173⟩
    replace h := onRes_fin h
    replace hq173 : ∃ (uu0 : Value), f171 2 = (Value.pointer (some ⟨b9, 0, none⟩)) ∧ f171 3 = (Value.pointer (some ⟨b13, 0, none⟩)) ∧ St wd2 wd172 [bx b9 [(Value.slice none 0 0)], bx b13 [uu0], (Ty.sl (Ty.sl (Ty.sl (Ty.i .i64)))).at uu0 x175] := hq173
    obtain ⟨u176, hf177, hf178, hS179⟩ := hq173
    show W _ _ _ _ _ _
    refine W.seq ?_
    refine W.region ?_
    refine WL.val (Value.agg #[u176]) _ (op_loadBox st_29 hf178 (St.boxAt hS179 1 rfl) rfl rfl) rfl ?_
    refine WL.storeBox [u176] hS179 (k := 0) rfl hf177 rfl (us := [u176]) rfl sz_29 rfl rfl (all_rep (St.rep (t := (Ty.sl (Ty.sl (Ty.sl (Ty.i .i64))))) hS179 2 rfl) all_nil) rfl ?_
    intro wd180 hS181
    replace hS181 : St wd2 wd180 [bx b9 [u176], bx b13 [u176], (Ty.sl (Ty.sl (Ty.sl (Ty.i .i64)))).at u176 x175] := hS181
    refine WL.nil ?_
    show W _ _ _ _ _ _
    refine W.ret ?_
    obtain rfl := Option.some.inj h
    show FinP _ _ _ _ _ _ _
    exact FinP.ret _ (resC rfl hf177 st_29 (St.boxAt hS181 0 rfl) rfl) ⟨u176, rfl, (Ext.trans hE7 hS181.ext), (St.out (St.pick hS181 [2] rfl) (hE7))⟩

theorem c_slices_EqualFunc_LLLint64_LLLint64_LLint64_LLint64 {w : World} {s1 : (List (List (List Int)))} {v_s1 : Value} {s2 : (List (List (List Int)))} {v_s2 : Value} {eq : (List (List Int)) → (List (List Int)) → Option Bool} {v_eq : Value} (r_s1 : (Ty.sl (Ty.sl (Ty.sl (Ty.i .i64)))).rep w v_s1 s1) (r_s2 : (Ty.sl (Ty.sl (Ty.sl (Ty.i .i64)))).rep w v_s2 s2) (r_eq : FnT_lli_lli_to_b Try.prog v_eq w eq) {res : Bool} (h : p_slices_EqualFunc_LLLint64_LLLint64_LLint64_LLint64 s1 s2 eq  = some res) :
    Ret Try.prog 112 #[v_s1, v_s2, v_eq] w (fun v w' => v = Value.bool res ∧ Ext w w') := by
  unfold p_slices_EqualFunc_LLLint64_LLLint64_LLint64_LLint64 at h
  have hS0 : St w w [] := St.start w
  have q_eq := r_eq
  obtain ⟨g_eq, fst_eq, cap_eq, eq_eq, ok_eq, call_eq⟩ := q_eq
  subst eq_eq
  refine Ret.start (fn := Try.f112) Try.func112 rfl 32 rfl rfl ?_
  refine W.seq ?_
  refine W.region ?_
  refine WL.val (Value.bool false) _ (op_assign rfl) rfl ?_
  refine WL.nil ?_
  show W _ _ _ _ _ _
  refine W.seq ?_
  refine W.seq ?_
  refine W.region ?_
  refine WL.val v_s1 _ (op_move rfl) rfl ?_
  have hr1 := inR_len (Ty.lift _ hS0.ext r_s1)
  refine WL.val (Value.int .i64 ((s1).length : Int)) _ (op_lenL sl_22 (Ty.lift _ hS0.ext r_s1) rfl) rfl ?_
  refine WL.val v_s2 _ (op_move rfl) rfl ?_
  have hr2 := inR_len (Ty.lift _ hS0.ext r_s2)
  refine WL.val (Value.int .i64 ((s2).length : Int)) _ (op_lenL sl_22 (Ty.lift _ hS0.ext r_s2) rfl) rfl ?_
  refine WL.val (Value.bool (((s1).length : Int) != ((s2).length : Int))) _ (op_neq rfl rfl) rfl ?_
  refine WL.nil ?_
  show W _ _ _ _ _ _
  refine W.cond (((s1).length : Int) != ((s2).length : Int)) rfl (fun hc3 => ?_) (fun hc3 => ?_)
  · replace h := ip h hc3
    refine W.seq ?_
    refine W.region ?_
    refine WL.val (Value.bool false) _ (op_assign rfl) rfl ?_
    refine WL.nil ?_
    show W _ _ _ _ _ _
    refine W.ret ?_
    obtain rfl := Option.some.inj h
    show FinP _ _ _ _ _ _ _
    exact FinP.ret _ (res1 rfl rfl) ⟨rfl, hS0.ext⟩
  · replace h := inegb h hc3
    refine W.skip ?_
    show W _ _ _ _ _ _
    refine W.seq ?_
    refine W.seq ?_
    refine W.region ?_
    refine WL.val v_s1 _ (op_move rfl) rfl ?_
    have hr5 := inR_len (Ty.lift _ hS0.ext r_s1)
    refine WL.val (Value.int .i64 ((s1).length : Int)) _ (op_lenL sl_22 (Ty.lift _ hS0.ext r_s1) rfl) rfl ?_
    refine WL.val (Value.int .i64 (0 : Int)) _ (op_move rfl) rfl ?_
    refine WL.nil ?_
    show W _ _ _ _ _ _
    obtain ⟨res6, hres7, h⟩ := bs h
    refine W.blockLoop (fun fq wq => ∃ s, res6 = Res.fin s ∧ St w wq []) ?_ ?_
    · refine W.forN (fun k (s : Unit) fq wq => fq 1 = v_s2 ∧ fq 2 = (Value.func (.func g_eq) fst_eq cap_eq) ∧ fq 15 = v_s1 ∧ fq 16 = (Value.int .i64 ((s1).length : Int)) ∧ fq 17 = Value.int .i64 (k : Int) ∧ InR .i64 (k : Int) ∧ St w wq []) hres7 ⟨rfl, rfl, rfl, rfl, rfl, (inR_i64.2 (show (-9223372036854775808 : Int) ≤ 0 ∧ (0 : Int) ≤ 9223372036854775807 from by decide)), hS0⟩ ?_ ?_
      · intro k8 s48 ct9 f10 wd11 hk12 hb13 hI14 hbrk15 hret16
        obtain ⟨⟩ := s48
        replace hI14 : f10 1 = v_s2 ∧ f10 2 = (Value.func (.func g_eq) fst_eq cap_eq) ∧ f10 15 = v_s1 ∧ f10 16 = (Value.int .i64 ((s1).length : Int)) ∧ f10 17 = Value.int .i64 (k8 : Int) ∧ InR .i64 (k8 : Int) ∧ St w wd11 [] := hI14
        replace hb13 : p_slices_EqualFunc_LLLint64_LLLint64_LLint64_LLint64_L1 s1 s2 eq k8  = some ct9 := hb13
        unfold p_slices_EqualFunc_LLLint64_LLLint64_LLint64_LLint64_L1 at hb13
        obtain ⟨hf17, hf18, hf19, hf20, hf21, hr22, hS23⟩ := hI14
        refine W.seq ?_
        refine W.region ?_
        refine WL.val (Value.bool (decide ((k8 : Int) < ((s1).length : Int)))) _ (op_lss hf21 hf20) rfl ?_
        have hl24 : (k8 : Int) < ((s1).length : Int) := by omega
        refine WL.nil ?_
        show W _ _ _ _ _ _
        refine W.seq ?_
        refine W.condT (decide ((k8 : Int) < ((s1).length : Int))) rfl (decide_eq_true hl24) ?_
        refine W.skip ?_
        show W _ _ _ _ _ _
        refine W.seq ?_
        refine W.block ?_
        refine W.seq ?_
        refine W.region ?_
        refine WL.val (Value.int .i64 (k8 : Int)) _ (op_move hf21) rfl ?_
        obtain ⟨x26, hx29, hb13⟩ := bs hb13
        obtain ⟨ha27, hb28, hx29⟩ := idx_some hx29
        refine WL.val (Value.pointer (some (elA v_s1 ((k8 : Int)).toNat))) _ (op_idx sl_22 (Ty.lift _ hS23.ext r_s1) hf19 hf21 ha27 hb28) rfl ?_
        obtain ⟨u30, hc31, hr32⟩ := repSl.el r_s1 hx29
        refine WL.val u30 _ (op_load one_65 rfl (Ext.cell hS23.ext hc31)) rfl ?_
        refine WL.val (Value.int .i64 (k8 : Int)) _ (op_assign rfl) rfl ?_
        refine WL.val u30 _ (op_assign rfl) rfl ?_
        refine WL.nil ?_
        show W _ _ _ _ _ _
        refine W.seq ?_
        refine W.region ?_
        refine WL.val v_s2 _ (op_move hf17) rfl ?_
        refine WL.val (Value.int .i64 (k8 : Int)) _ (op_move rfl) rfl ?_
        obtain ⟨x33, hx36, hb13⟩ := bs hb13
        obtain ⟨ha34, hb35, hx36⟩ := idx_some hx36
        refine WL.val (Value.pointer (some (elA v_s2 ((k8 : Int)).toNat))) _ (op_idx sl_22 (Ty.lift _ hS23.ext r_s2) rfl rfl ha34 hb35) rfl ?_
        obtain ⟨u37, hc38, hr39⟩ := repSl.el r_s2 hx36
        refine WL.val u37 _ (op_load one_65 rfl (Ext.cell hS23.ext hc38)) rfl ?_
        refine WL.val u37 _ (op_assign rfl) rfl ?_
        refine WL.nil ?_
        show W _ _ _ _ _ _
        refine W.seq ?_
        refine W.region ?_
        refine WL.val (Value.func (.func g_eq) fst_eq cap_eq) _ (op_move hf18) rfl ?_
        refine WL.val u30 _ (op_move rfl) rfl ?_
        refine WL.val u37 _ (op_move rfl) rfl ?_
        obtain ⟨x40, hx41, hb13⟩ := bs hb13
        refine WL.call _ (op_callV rfl ok_eq (args2 rfl rfl)) (call_eq wd11 u30 x26 u37 x33 x40 hS23.ext (Ty.lift _ hS23.ext hr32) (Ty.lift _ hS23.ext hr39) hx41) rfl ?_
        rintro _ wd42 ⟨rfl, he43⟩
        have hS45 := St.extend hS23 he43
        refine WL.val (Value.bool (!x40)) _ (op_not rfl) rfl ?_
        refine WL.nil ?_
        show W _ _ _ _ _ _
        refine W.cond (!x40) rfl (fun hc46 => ?_) (fun hc46 => ?_)
        · replace hb13 := ip hb13 hc46
          refine W.seq ?_
          refine W.region ?_
          refine WL.val (Value.bool false) _ (op_assign rfl) rfl ?_
          refine WL.nil ?_
          show W _ _ _ _ _ _
          refine W.ret ?_
          obtain rfl := Option.some.inj hb13
          obtain rfl := hret16 _ rfl
          replace h := onRes_ret h
          obtain rfl := Option.some.inj h
          show FinP _ _ _ _ _ _ _
          exact FinP.ret _ (res1 rfl rfl) ⟨rfl, hS45.ext⟩
        · replace hb13 := inegb hb13 hc46
          refine W.skip ?_
          show W _ _ _ _ _ _
          refine W.region ?_
          refine WL.val (Value.int .i64 (w64 ((k8 : Int) + (1 : Int)))) _ (op_add hf21 rfl) rfl ?_
          refine WL.val (Value.int .i64 (w64 ((k8 : Int) + (1 : Int)))) _ (op_move rfl) rfl ?_
          refine WL.nil ?_
          obtain rfl := Option.some.inj hb13
          show ∃ s, _ = Ctl.next s ∧ _
          exact ⟨_, rfl, hf17, hf18, hf19, hf20, (ctr_next hl24 hr5), (ctr_rng hl24 hr5), hS45⟩
      · intro s53 f49 wd50 hs51 hI52
        obtain ⟨⟩ := s53
        replace hI52 : f49 1 = v_s2 ∧ f49 2 = (Value.func (.func g_eq) fst_eq cap_eq) ∧ f49 15 = v_s1 ∧ f49 16 = (Value.int .i64 ((s1).length : Int)) ∧ f49 17 = Value.int .i64 (((s1).length : Nat) : Int) ∧ InR .i64 (((s1).length : Nat) : Int) ∧ St w wd50 [] := hI52
        obtain ⟨hf54, hf55, hf56, hf57, hf58, hr59, hS60⟩ := hI52
        refine W.seq ?_
        refine W.region ?_
        refine WL.val (Value.bool (decide ((((s1).length : Nat) : Int) < ((s1).length : Int)))) _ (op_lss hf58 hf57) rfl ?_
        have hl61 : ¬ (((s1).length : Nat) : Int) < ((s1).length : Int) := by omega
        refine WL.nil ?_
        show W _ _ _ _ _ _
        refine W.seq ?_
        refine W.condF (decide ((((s1).length : Nat) : Int) < ((s1).length : Int))) rfl (decide_eq_false hl61) ?_
        refine W.exit ?_
        show _ = _ ∧ _
        exact ⟨rfl, _, hs51, hS60⟩
    · rintro f62 wd63 ⟨s65, rfl, hq64⟩
      replace h := onRes_fin h
      obtain ⟨⟩ := s65
      replace hq64 : St w wd63 [] := hq64
      have hS66 := hq64
      show W _ _ _ _ _ _
      refine W.seq ?_
      refine W.region ?_
      refine WL.val (Value.bool true) _ (op_assign rfl) rfl ?_
      refine WL.nil ?_
      show W _ _ _ _ _ _
      refine W.ret ?_
      obtain rfl := Option.some.inj h
      show FinP _ _ _ _ _ _ _
      exact FinP.ret _ (res1 rfl rfl) ⟨rfl, hS66.ext⟩

theorem c_slices_EqualFunc_LLint64_LLint64_Lint64_Lint64 {w : World} {s1 : (List (List Int))} {v_s1 : Value} {s2 : (List (List Int))} {v_s2 : Value} {eq : (List Int) → (List Int) → Option Bool} {v_eq : Value} (r_s1 : (Ty.sl (Ty.sl (Ty.i .i64))).rep w v_s1 s1) (r_s2 : (Ty.sl (Ty.sl (Ty.i .i64))).rep w v_s2 s2) (r_eq : FnT_li_li_to_b Try.prog v_eq w eq) {res : Bool} (h : p_slices_EqualFunc_LLint64_LLint64_Lint64_Lint64 s1 s2 eq  = some res) :
    Ret Try.prog 109 #[v_s1, v_s2, v_eq] w (fun v w' => v = Value.bool res ∧ Ext w w') := by
  unfold p_slices_EqualFunc_LLint64_LLint64_Lint64_Lint64 at h
  have hS0 : St w w [] := St.start w
  have q_eq := r_eq
  obtain ⟨g_eq, fst_eq, cap_eq, eq_eq, ok_eq, call_eq⟩ := q_eq
  subst eq_eq
  refine Ret.start (fn := Try.f109) Try.func109 rfl 32 rfl rfl ?_
  refine W.seq ?_
  refine W.region ?_
  refine WL.val (Value.bool false) _ (op_assign rfl) rfl ?_
  refine WL.nil ?_
  show W _ _ _ _ _ _
  refine W.seq ?_
  refine W.seq ?_
  refine W.region ?_
  refine WL.val v_s1 _ (op_move rfl) rfl ?_
  have hr1 := inR_len (Ty.lift _ hS0.ext r_s1)
  refine WL.val (Value.int .i64 ((s1).length : Int)) _ (op_lenL sl_65 (Ty.lift _ hS0.ext r_s1) rfl) rfl ?_
  refine WL.val v_s2 _ (op_move rfl) rfl ?_
  have hr2 := inR_len (Ty.lift _ hS0.ext r_s2)
  refine WL.val (Value.int .i64 ((s2).length : Int)) _ (op_lenL sl_65 (Ty.lift _ hS0.ext r_s2) rfl) rfl ?_
  refine WL.val (Value.bool (((s1).length : Int) != ((s2).length : Int))) _ (op_neq rfl rfl) rfl ?_
  refine WL.nil ?_
  show W _ _ _ _ _ _
  refine W.cond (((s1).length : Int) != ((s2).length : Int)) rfl (fun hc3 => ?_) (fun hc3 => ?_)
  · replace h := ip h hc3
    refine W.seq ?_
    refine W.region ?_
    refine WL.val (Value.bool false) _ (op_assign rfl) rfl ?_
    refine WL.nil ?_
    show W _ _ _ _ _ _
    refine W.ret ?_
    obtain rfl := Option.some.inj h
    show FinP _ _ _ _ _ _ _
    exact FinP.ret _ (res1 rfl rfl) ⟨rfl, hS0.ext⟩
  · replace h := inegb h hc3
    refine W.skip ?_
    show W _ _ _ _ _ _
    refine W.seq ?_
    refine W.seq ?_
    refine W.region ?_
    refine WL.val v_s1 _ (op_move rfl) rfl ?_
    have hr5 := inR_len (Ty.lift _ hS0.ext r_s1)
    refine WL.val (Value.int .i64 ((s1).length : Int)) _ (op_lenL sl_65 (Ty.lift _ hS0.ext r_s1) rfl) rfl ?_
    refine WL.val (Value.int .i64 (0 : Int)) _ (op_move rfl) rfl ?_
    refine WL.nil ?_
    show W _ _ _ _ _ _
    obtain ⟨res6, hres7, h⟩ := bs h
    refine W.blockLoop (fun fq wq => ∃ s, res6 = Res.fin s ∧ St w wq []) ?_ ?_
    · refine W.forN (fun k (s : Unit) fq wq => fq 1 = v_s2 ∧ fq 2 = (Value.func (.func g_eq) fst_eq cap_eq) ∧ fq 15 = v_s1 ∧ fq 16 = (Value.int .i64 ((s1).length : Int)) ∧ fq 17 = Value.int .i64 (k : Int) ∧ InR .i64 (k : Int) ∧ St w wq []) hres7 ⟨rfl, rfl, rfl, rfl, rfl, (inR_i64.2 (show (-9223372036854775808 : Int) ≤ 0 ∧ (0 : Int) ≤ 9223372036854775807 from by decide)), hS0⟩ ?_ ?_
      · intro k8 s48 ct9 f10 wd11 hk12 hb13 hI14 hbrk15 hret16
        obtain ⟨⟩ := s48
        replace hI14 : f10 1 = v_s2 ∧ f10 2 = (Value.func (.func g_eq) fst_eq cap_eq) ∧ f10 15 = v_s1 ∧ f10 16 = (Value.int .i64 ((s1).length : Int)) ∧ f10 17 = Value.int .i64 (k8 : Int) ∧ InR .i64 (k8 : Int) ∧ St w wd11 [] := hI14
        replace hb13 : p_slices_EqualFunc_LLint64_LLint64_Lint64_Lint64_L1 s1 s2 eq k8  = some ct9 := hb13
        unfold p_slices_EqualFunc_LLint64_LLint64_Lint64_Lint64_L1 at hb13
        obtain ⟨hf17, hf18, hf19, hf20, hf21, hr22, hS23⟩ := hI14
        refine W.seq ?_
        refine W.region ?_
        refine WL.val (Value.bool (decide ((k8 : Int) < ((s1).length : Int)))) _ (op_lss hf21 hf20) rfl ?_
        have hl24 : (k8 : Int) < ((s1).length : Int) := by omega
        refine WL.nil ?_
        show W _ _ _ _ _ _
        refine W.seq ?_
        refine W.condT (decide ((k8 : Int) < ((s1).length : Int))) rfl (decide_eq_true hl24) ?_
        refine W.skip ?_
        show W _ _ _ _ _ _
        refine W.seq ?_
        refine W.block ?_
        refine W.seq ?_
        refine W.region ?_
        refine WL.val (Value.int .i64 (k8 : Int)) _ (op_move hf21) rfl ?_
        obtain ⟨x26, hx29, hb13⟩ := bs hb13
        obtain ⟨ha27, hb28, hx29⟩ := idx_some hx29
        refine WL.val (Value.pointer (some (elA v_s1 ((k8 : Int)).toNat))) _ (op_idx sl_65 (Ty.lift _ hS23.ext r_s1) hf19 hf21 ha27 hb28) rfl ?_
        obtain ⟨u30, hc31, hr32⟩ := repSl.el r_s1 hx29
        refine WL.val u30 _ (op_load one_25 rfl (Ext.cell hS23.ext hc31)) rfl ?_
        refine WL.val (Value.int .i64 (k8 : Int)) _ (op_assign rfl) rfl ?_
        refine WL.val u30 _ (op_assign rfl) rfl ?_
        refine WL.nil ?_
        show W _ _ _ _ _ _
        refine W.seq ?_
        refine W.region ?_
        refine WL.val v_s2 _ (op_move hf17) rfl ?_
        refine WL.val (Value.int .i64 (k8 : Int)) _ (op_move rfl) rfl ?_
        obtain ⟨x33, hx36, hb13⟩ := bs hb13
        obtain ⟨ha34, hb35, hx36⟩ := idx_some hx36
        refine WL.val (Value.pointer (some (elA v_s2 ((k8 : Int)).toNat))) _ (op_idx sl_65 (Ty.lift _ hS23.ext r_s2) rfl rfl ha34 hb35) rfl ?_
        obtain ⟨u37, hc38, hr39⟩ := repSl.el r_s2 hx36
        refine WL.val u37 _ (op_load one_25 rfl (Ext.cell hS23.ext hc38)) rfl ?_
        refine WL.val u37 _ (op_assign rfl) rfl ?_
        refine WL.nil ?_
        show W _ _ _ _ _ _
        refine W.seq ?_
        refine W.region ?_
        refine WL.val (Value.func (.func g_eq) fst_eq cap_eq) _ (op_move hf18) rfl ?_
        refine WL.val u30 _ (op_move rfl) rfl ?_
        refine WL.val u37 _ (op_move rfl) rfl ?_
        obtain ⟨x40, hx41, hb13⟩ := bs hb13
        refine WL.call _ (op_callV rfl ok_eq (args2 rfl rfl)) (call_eq wd11 u30 x26 u37 x33 x40 hS23.ext (Ty.lift _ hS23.ext hr32) (Ty.lift _ hS23.ext hr39) hx41) rfl ?_
        rintro _ wd42 ⟨rfl, he43⟩
        have hS45 := St.extend hS23 he43
        refine WL.val (Value.bool (!x40)) _ (op_not rfl) rfl ?_
        refine WL.nil ?_
        show W _ _ _ _ _ _
        refine W.cond (!x40) rfl (fun hc46 => ?_) (fun hc46 => ?_)
        · replace hb13 := ip hb13 hc46
          refine W.seq ?_
          refine W.region ?_
          refine WL.val (Value.bool false) _ (op_assign rfl) rfl ?_
          refine WL.nil ?_
          show W _ _ _ _ _ _
          refine W.ret ?_
          obtain rfl := Option.some.inj hb13
          obtain rfl := hret16 _ rfl
          replace h := onRes_ret h
          obtain rfl := Option.some.inj h
          show FinP _ _ _ _ _ _ _
          exact FinP.ret _ (res1 rfl rfl) ⟨rfl, hS45.ext⟩
        · replace hb13 := inegb hb13 hc46
          refine W.skip ?_
          show W _ _ _ _ _ _
          refine W.region ?_
          refine WL.val (Value.int .i64 (w64 ((k8 : Int) + (1 : Int)))) _ (op_add hf21 rfl) rfl ?_
          refine WL.val (Value.int .i64 (w64 ((k8 : Int) + (1 : Int)))) _ (op_move rfl) rfl ?_
          refine WL.nil ?_
          obtain rfl := Option.some.inj hb13
          show ∃ s, _ = Ctl.next s ∧ _
          exact ⟨_, rfl, hf17, hf18, hf19, hf20, (ctr_next hl24 hr5), (ctr_rng hl24 hr5), hS45⟩
      · intro s53 f49 wd50 hs51 hI52
        obtain ⟨⟩ := s53
        replace hI52 : f49 1 = v_s2 ∧ f49 2 = (Value.func (.func g_eq) fst_eq cap_eq) ∧ f49 15 = v_s1 ∧ f49 16 = (Value.int .i64 ((s1).length : Int)) ∧ f49 17 = Value.int .i64 (((s1).length : Nat) : Int) ∧ InR .i64 (((s1).length : Nat) : Int) ∧ St w wd50 [] := hI52
        obtain ⟨hf54, hf55, hf56, hf57, hf58, hr59, hS60⟩ := hI52
        refine W.seq ?_
        refine W.region ?_
        refine WL.val (Value.bool (decide ((((s1).length : Nat) : Int) < ((s1).length : Int)))) _ (op_lss hf58 hf57) rfl ?_
        have hl61 : ¬ (((s1).length : Nat) : Int) < ((s1).length : Int) := by omega
        refine WL.nil ?_
        show W _ _ _ _ _ _
        refine W.seq ?_
        refine W.condF (decide ((((s1).length : Nat) : Int) < ((s1).length : Int))) rfl (decide_eq_false hl61) ?_
        refine W.exit ?_
        show _ = _ ∧ _
        exact ⟨rfl, _, hs51, hS60⟩
    · rintro f62 wd63 ⟨s65, rfl, hq64⟩
      replace h := onRes_fin h
      obtain ⟨⟩ := s65
      replace hq64 : St w wd63 [] := hq64
      have hS66 := hq64
      show W _ _ _ _ _ _
      refine W.seq ?_
      refine W.region ?_
      refine WL.val (Value.bool true) _ (op_assign rfl) rfl ?_
      refine WL.nil ?_
      show W _ _ _ _ _ _
      refine W.ret ?_
      obtain rfl := Option.some.inj h
      show FinP _ _ _ _ _ _ _
      exact FinP.ret _ (res1 rfl rfl) ⟨rfl, hS66.ext⟩

theorem c_slices_Equal_Lint64_int64 {w : World} {s1 : (List Int)} {v_s1 : Value} {s2 : (List Int)} {v_s2 : Value} (r_s1 : (Ty.sl (Ty.i .i64)).rep w v_s1 s1) (r_s2 : (Ty.sl (Ty.i .i64)).rep w v_s2 s2) {res : Bool} (h : p_slices_Equal_Lint64_int64 s1 s2  = some res) :
    Ret Try.prog 56 #[v_s1, v_s2] w (fun v w' => v = Value.bool res ∧ Ext w w') := by
  unfold p_slices_Equal_Lint64_int64 at h
  have hS0 : St w w [] := St.start w
  refine Ret.start (fn := Try.f56) Try.func56 rfl 26 rfl rfl ?_
  refine W.seq ?_
  refine W.region ?_
  refine WL.val (Value.bool false) _ (op_assign rfl) rfl ?_
  refine WL.nil ?_
  show W _ _ _ _ _ _
  refine W.seq ?_
  refine W.seq ?_
  refine W.region ?_
  refine WL.val v_s1 _ (op_move rfl) rfl ?_
  have hr1 := inR_len (Ty.lift _ hS0.ext r_s1)
  refine WL.val (Value.int .i64 ((s1).length : Int)) _ (op_lenL sl_25 (Ty.lift _ hS0.ext r_s1) rfl) rfl ?_
  refine WL.val v_s2 _ (op_move rfl) rfl ?_
  have hr2 := inR_len (Ty.lift _ hS0.ext r_s2)
  refine WL.val (Value.int .i64 ((s2).length : Int)) _ (op_lenL sl_25 (Ty.lift _ hS0.ext r_s2) rfl) rfl ?_
  refine WL.val (Value.bool (((s1).length : Int) != ((s2).length : Int))) _ (op_neq rfl rfl) rfl ?_
  refine WL.nil ?_
  show W _ _ _ _ _ _
  refine W.cond (((s1).length : Int) != ((s2).length : Int)) rfl (fun hc3 => ?_) (fun hc3 => ?_)
  · replace h := ip h hc3
    refine W.seq ?_
    refine W.region ?_
    refine WL.val (Value.bool false) _ (op_assign rfl) rfl ?_
    refine WL.nil ?_
    show W _ _ _ _ _ _
    refine W.ret ?_
    obtain rfl := Option.some.inj h
    show FinP _ _ _ _ _ _ _
    exact FinP.ret _ (res1 rfl rfl) ⟨rfl, hS0.ext⟩
  · replace h := inegb h hc3
    refine W.skip ?_
    show W _ _ _ _ _ _
    refine W.seq ?_
    refine W.seq ?_
    refine W.region ?_
    refine WL.val v_s1 _ (op_move rfl) rfl ?_
    have hr5 := inR_len (Ty.lift _ hS0.ext r_s1)
    refine WL.val (Value.int .i64 ((s1).length : Int)) _ (op_lenL sl_25 (Ty.lift _ hS0.ext r_s1) rfl) rfl ?_
    refine WL.val (Value.int .i64 (0 : Int)) _ (op_move rfl) rfl ?_
    refine WL.nil ?_
    show W _ _ _ _ _ _
    obtain ⟨res6, hres7, h⟩ := bs h
    refine W.blockLoop (fun fq wq => ∃ s, res6 = Res.fin s ∧ St w wq []) ?_ ?_
    · refine W.forN (fun k (s : Unit) fq wq => fq 0 = v_s1 ∧ fq 1 = v_s2 ∧ fq 12 = (Value.int .i64 ((s1).length : Int)) ∧ fq 13 = Value.int .i64 (k : Int) ∧ InR .i64 (k : Int) ∧ St w wq []) hres7 ⟨rfl, rfl, rfl, rfl, (inR_i64.2 (show (-9223372036854775808 : Int) ≤ 0 ∧ (0 : Int) ≤ 9223372036854775807 from by decide)), hS0⟩ ?_ ?_
      · intro k8 s115 ct9 f10 wd11 hk12 hb13 hI14 hbrk15 hret16
        obtain ⟨⟩ := s115
        replace hI14 : f10 0 = v_s1 ∧ f10 1 = v_s2 ∧ f10 12 = (Value.int .i64 ((s1).length : Int)) ∧ f10 13 = Value.int .i64 (k8 : Int) ∧ InR .i64 (k8 : Int) ∧ St w wd11 [] := hI14
        replace hb13 : p_slices_Equal_Lint64_int64_L1 s1 s2 k8  = some ct9 := hb13
        unfold p_slices_Equal_Lint64_int64_L1 at hb13
        obtain ⟨hf17, hf18, hf19, hf20, hr21, hS22⟩ := hI14
        refine W.seq ?_
        refine W.region ?_
        refine WL.val (Value.bool (decide ((k8 : Int) < ((s1).length : Int)))) _ (op_lss hf20 hf19) rfl ?_
        have hl23 : (k8 : Int) < ((s1).length : Int) := by omega
        refine WL.nil ?_
        show W _ _ _ _ _ _
        refine W.seq ?_
        refine W.condT (decide ((k8 : Int) < ((s1).length : Int))) rfl (decide_eq_true hl23) ?_
        refine W.skip ?_
        show W _ _ _ _ _ _
        refine W.seq ?_
        refine W.block ?_
        refine W.seq ?_
        refine W.region ?_
        refine WL.val (Value.int .i64 (k8 : Int)) _ (op_move hf20) rfl ?_
        refine WL.val (Value.int .i64 (k8 : Int)) _ (op_assign rfl) rfl ?_
        refine WL.nil ?_
        show W _ _ _ _ _ _
        refine W.seq ?_
        obtain ⟨x48, hx51, hb13⟩ := bs hb13
        obtain ⟨ha49, hb50, hx51⟩ := idx_some hx51
        obtain ⟨u59, hc60, hr61⟩ := repSl.el r_s1 hx51
        obtain ⟨rfl, hr61⟩ := hr61
        obtain ⟨x85, hx88, hb13⟩ := bs hb13
        obtain ⟨ha86, hb87, hx88⟩ := idx_some hx88
        obtain ⟨u96, hc97, hr98⟩ := repSl.el r_s2 hx88
        obtain ⟨rfl, hr98⟩ := hr98
        refine W.draw mixo 8 [fun v _ => v = v_s1, fun v _ => v = (Value.int .i64 (k8 : Int)) ∧ InR .i64 (k8 : Int), fun v _ => v = (Value.pointer (some (elA v_s1 ((k8 : Int)).toNat))), fun v _ => v = (Value.int .i64 x48) ∧ InR .i64 x48, fun v _ => v = v_s2, fun v _ => v = (Value.int .i64 (k8 : Int)) ∧ InR .i64 (k8 : Int), fun v _ => v = (Value.pointer (some (elA v_s2 ((k8 : Int)).toNat))), fun v _ => v = (Value.int .i64 x85) ∧ InR .i64 x85] (by kernel_rfl) (by kernel_rfl) (stabL ⟨(fun _ _ _ _ h => h), (fun _ _ _ _ h => h), (fun _ _ _ _ h => h), (fun _ _ _ _ h => h), (fun _ _ _ _ h => h), (fun _ _ _ _ h => h), (fun _ _ _ _ h => h), (fun _ _ _ _ h => h), trivial⟩) ⟨?_, ?_, ?_, ?_, ?_, ?_, ?_, ?_, trivial⟩ ?_
        · intro f25 wd26 he27 hout28 hphi29
          have hS30 : St w wd26 [] := St.extend hS22 he27
          have e31 : f25 0 = v_s1 := (hout28 0 rfl).trans hf17
          exact OpY.val v_s1 wd26 rfl (op_move e31) (Ext.refl _) rfl
        · intro f32 wd33 he34 hout35 hphi36
          have hS37 : St w wd33 [] := St.extend hS22 he34
          have e38 : f32 5 = (Value.int .i64 (k8 : Int)) := (hout35 5 rfl).trans rfl
          exact OpY.val (Value.int .i64 (k8 : Int)) wd33 rfl (op_move e38) (Ext.refl _) ⟨rfl, hr21⟩
        · intro f39 wd40 he41 hout42 hphi43
          have hS44 : St w wd40 [] := St.extend hS22 he41
          have e45 : f39 16 = v_s1 := hphi43 0 16 _ rfl rfl rfl
          obtain ⟨e46, hr47⟩ : f39 17 = (Value.int .i64 (k8 : Int)) ∧ InR .i64 (k8 : Int) := hphi43 1 17 _ rfl rfl rfl
          exact OpY.val (Value.pointer (some (elA v_s1 ((k8 : Int)).toNat))) wd40 rfl (op_idx sl_25 (Ty.lift _ hS44.ext r_s1) e45 e46 ha49 hb50) (Ext.refl _) rfl
        · intro f52 wd53 he54 hout55 hphi56
          have hS57 : St w wd53 [] := St.extend hS22 he54
          have e58 : f52 18 = (Value.pointer (some (elA v_s1 ((k8 : Int)).toNat))) := hphi56 2 18 _ rfl rfl rfl
          exact OpY.val (Value.int .i64 x48) wd53 rfl (op_load one_2 e58 (Ext.cell hS57.ext hc60)) (Ext.refl _) ⟨rfl, hr61⟩
        · intro f62 wd63 he64 hout65 hphi66
          have hS67 : St w wd63 [] := St.extend hS22 he64
          have e68 : f62 1 = v_s2 := (hout65 1 rfl).trans hf18
          exact OpY.val v_s2 wd63 rfl (op_move e68) (Ext.refl _) rfl
        · intro f69 wd70 he71 hout72 hphi73
          have hS74 : St w wd70 [] := St.extend hS22 he71
          have e75 : f69 5 = (Value.int .i64 (k8 : Int)) := (hout72 5 rfl).trans rfl
          exact OpY.val (Value.int .i64 (k8 : Int)) wd70 rfl (op_move e75) (Ext.refl _) ⟨rfl, hr21⟩
        · intro f76 wd77 he78 hout79 hphi80
          have hS81 : St w wd77 [] := St.extend hS22 he78
          have e82 : f76 20 = v_s2 := hphi80 4 20 _ rfl rfl rfl
          obtain ⟨e83, hr84⟩ : f76 21 = (Value.int .i64 (k8 : Int)) ∧ InR .i64 (k8 : Int) := hphi80 5 21 _ rfl rfl rfl
          exact OpY.val (Value.pointer (some (elA v_s2 ((k8 : Int)).toNat))) wd77 rfl (op_idx sl_25 (Ty.lift _ hS81.ext r_s2) e82 e83 ha86 hb87) (Ext.refl _) rfl
        · intro f89 wd90 he91 hout92 hphi93
          have hS94 : St w wd90 [] := St.extend hS22 he91
          have e95 : f89 22 = (Value.pointer (some (elA v_s2 ((k8 : Int)).toNat))) := hphi93 6 22 _ rfl rfl rfl
          exact OpY.val (Value.int .i64 x85) wd90 rfl (op_load one_2 e95 (Ext.cell hS94.ext hc97)) (Ext.refl _) ⟨rfl, hr98⟩
        · intro f99 wd100 he101 hout102 hphi103
          show WL _ _ _ _ _ _ _
          have hS104 : St w wd100 [] := St.extend hS22 he101
          obtain ⟨e105, hr106⟩ : f99 19 = (Value.int .i64 x48) ∧ InR .i64 x48 := hphi103 3 19 _ (by decide) rfl rfl
          obtain ⟨e107, hr108⟩ : f99 23 = (Value.int .i64 x85) ∧ InR .i64 x85 := hphi103 7 23 _ (by decide) rfl rfl
          have e109 : f99 0 = v_s1 := (hout102 0 rfl).trans hf17
          have e110 : f99 1 = v_s2 := (hout102 1 rfl).trans hf18
          have e111 : f99 12 = (Value.int .i64 ((s1).length : Int)) := (hout102 12 rfl).trans hf19
          have e112 : f99 13 = (Value.int .i64 (k8 : Int)) := (hout102 13 rfl).trans hf20
          refine WL.val (Value.bool (x48 != x85)) _ (op_neq e105 e107) rfl ?_
          refine WL.nil ?_
          show W _ _ _ _ _ _
          refine W.cond (x48 != x85) rfl (fun hc113 => ?_) (fun hc113 => ?_)
          · replace hb13 := ip hb13 hc113
            refine W.seq ?_
            refine W.region ?_
            refine WL.val (Value.bool false) _ (op_assign rfl) rfl ?_
            refine WL.nil ?_
            show W _ _ _ _ _ _
            refine W.ret ?_
            obtain rfl := Option.some.inj hb13
            obtain rfl := hret16 _ rfl
            replace h := onRes_ret h
            obtain rfl := Option.some.inj h
            show FinP _ _ _ _ _ _ _
            exact FinP.ret _ (res1 rfl rfl) ⟨rfl, hS104.ext⟩
          · replace hb13 := inegb hb13 hc113
            refine W.skip ?_
            show W _ _ _ _ _ _
            refine W.region ?_
            refine WL.val (Value.int .i64 (w64 ((k8 : Int) + (1 : Int)))) _ (op_add e112 rfl) rfl ?_
            refine WL.val (Value.int .i64 (w64 ((k8 : Int) + (1 : Int)))) _ (op_move rfl) rfl ?_
            refine WL.nil ?_
            obtain rfl := Option.some.inj hb13
            show ∃ s, _ = Ctl.next s ∧ _
            exact ⟨_, rfl, e109, e110, e111, (ctr_next hl23 hr5), (ctr_rng hl23 hr5), hS104⟩
      · intro s120 f116 wd117 hs118 hI119
        obtain ⟨⟩ := s120
        replace hI119 : f116 0 = v_s1 ∧ f116 1 = v_s2 ∧ f116 12 = (Value.int .i64 ((s1).length : Int)) ∧ f116 13 = Value.int .i64 (((s1).length : Nat) : Int) ∧ InR .i64 (((s1).length : Nat) : Int) ∧ St w wd117 [] := hI119
        obtain ⟨hf121, hf122, hf123, hf124, hr125, hS126⟩ := hI119
        refine W.seq ?_
        refine W.region ?_
        refine WL.val (Value.bool (decide ((((s1).length : Nat) : Int) < ((s1).length : Int)))) _ (op_lss hf124 hf123) rfl ?_
        have hl127 : ¬ (((s1).length : Nat) : Int) < ((s1).length : Int) := by omega
        refine WL.nil ?_
        show W _ _ _ _ _ _
        refine W.seq ?_
        refine W.condF (decide ((((s1).length : Nat) : Int) < ((s1).length : Int))) rfl (decide_eq_false hl127) ?_
        refine W.exit ?_
        show _ = _ ∧ _
        exact ⟨rfl, _, hs118, hS126⟩
    · rintro f128 wd129 ⟨s131, rfl, hq130⟩
      replace h := onRes_fin h
      obtain ⟨⟩ := s131
      replace hq130 : St w wd129 [] := hq130
      have hS132 := hq130
      show W _ _ _ _ _ _
      refine W.seq ?_
      refine W.region ?_
      refine WL.val (Value.bool true) _ (op_assign rfl) rfl ?_
      refine WL.nil ?_
      show W _ _ _ _ _ _
      refine W.ret ?_
      obtain rfl := Option.some.inj h
      show FinP _ _ _ _ _ _ _
      exact FinP.ret _ (res1 rfl rfl) ⟨rfl, hS132.ext⟩

theorem c_impl_equalTables_c1 {w : World} {x : (List (List Int))} {v_x : Value} {y : (List (List Int))} {v_y : Value} (r_x : (Ty.sl (Ty.sl (Ty.i .i64))).rep w v_x x) (r_y : (Ty.sl (Ty.sl (Ty.i .i64))).rep w v_y y) {res : Bool} (h : p_impl_equalTables_c1 x y  = some res) :
    Ret Try.prog 113 #[v_x, v_y] w (fun v w' => v = Value.bool res ∧ Ext w w') := by
  unfold p_impl_equalTables_c1 at h
  have hS0 : St w w [] := St.start w
  refine Ret.start (fn := Try.f113) Try.func113 rfl 8 rfl rfl ?_
  refine W.seq ?_
  refine W.region ?_
  refine WL.val (Value.bool false) _ (op_assign rfl) rfl ?_
  refine WL.nil ?_
  show W _ _ _ _ _ _
  refine W.seq ?_
  refine W.region ?_
  refine WL.val v_x _ (op_move rfl) rfl ?_
  refine WL.val v_y _ (op_move rfl) rfl ?_
  obtain ⟨x5, hx6, h⟩ := bs h
  refine WL.call _ (op_call fn_109 (args3 rfl rfl rfl)) (c_slices_EqualFunc_LLint64_LLint64_Lint64_Lint64 (Ty.lift _ hS0.ext r_x) (Ty.lift _ hS0.ext r_y) (⟨56, #[], #[], rfl, fn_56, fun wd1 u0_2 a0_2 u1_2 a1_2 r3 he2 ra0_2 ra1_2 hq4 => c_slices_Equal_Lint64_int64 ra0_2 ra1_2 hq4⟩) hx6) rfl ?_
  rintro _ wd7 ⟨rfl, he8⟩
  have hS10 := St.extend hS0 he8
  replace hS10 : St w wd7 [] := hS10
  refine WL.val (Value.bool x5) _ (op_assign rfl) rfl ?_
  refine WL.nil ?_
  show W _ _ _ _ _ _
  refine W.ret ?_
  obtain rfl := Option.some.inj h
  show FinP _ _ _ _ _ _ _
  exact FinP.ret _ (res1 rfl rfl) ⟨rfl, hS10.ext⟩

theorem c_impl_equalTables {w : World} {a : (List (List (List Int)))} {v_a : Value} {b : (List (List (List Int)))} {v_b : Value} (r_a : (Ty.sl (Ty.sl (Ty.sl (Ty.i .i64)))).rep w v_a a) (r_b : (Ty.sl (Ty.sl (Ty.sl (Ty.i .i64)))).rep w v_b b) {res : Bool} (h : p_impl_equalTables a b  = some res) :
    Ret Try.prog 97 #[v_a, v_b] w (fun v w' => v = Value.bool res ∧ Ext w w') := by
  unfold p_impl_equalTables at h
  have hS0 : St w w [] := St.start w
  refine Ret.start (fn := Try.f97) Try.func97 rfl 8 rfl rfl ?_
  refine W.seq ?_
  refine W.region ?_
  refine WL.val (Value.bool false) _ (op_assign rfl) rfl ?_
  refine WL.nil ?_
  show W _ _ _ _ _ _
  refine W.seq ?_
  refine W.region ?_
  refine WL.val v_a _ (op_move rfl) rfl ?_
  refine WL.val v_b _ (op_move rfl) rfl ?_
  obtain ⟨x5, hx6, h⟩ := bs h
  refine WL.call _ (op_call fn_112 (args3 rfl rfl rfl)) (c_slices_EqualFunc_LLLint64_LLLint64_LLint64_LLint64 (Ty.lift _ hS0.ext r_a) (Ty.lift _ hS0.ext r_b) (⟨113, #[], #[], rfl, fn_113, fun wd1 u0_2 a0_2 u1_2 a1_2 r3 he2 ra0_2 ra1_2 hq4 => c_impl_equalTables_c1 ra0_2 ra1_2 hq4⟩) hx6) rfl ?_
  rintro _ wd7 ⟨rfl, he8⟩
  have hS10 := St.extend hS0 he8
  replace hS10 : St w wd7 [] := hS10
  refine WL.val (Value.bool x5) _ (op_assign rfl) rfl ?_
  refine WL.nil ?_
  show W _ _ _ _ _ _
  refine W.ret ?_
  obtain rfl := Option.some.inj h
  show FinP _ _ _ _ _ _ _
  exact FinP.ret _ (res1 rfl rfl) ⟨rfl, hS10.ext⟩

theorem c_impl_Ring_isCommutative {w : World} {r_Table : (List (List (List Int)))} {v_r_Table : Value} (r_r_Table : (Ty.sl (Ty.sl (Ty.sl (Ty.i .i64)))).rep w v_r_Table r_Table) {res : Bool} (h : p_impl_Ring_isCommutative r_Table  = some res) :
    Ret Try.prog 71 #[(Value.agg #[v_r_Table])] w (fun v w' => v = Value.bool res ∧ Ext w w') := by
  unfold p_impl_Ring_isCommutative at h
  have hS0 : St w w [] := St.start w
  refine Ret.start (fn := Try.f71) Try.func71 rfl 9 rfl rfl ?_
  refine W.seq ?_
  refine W.region ?_
  refine WL.box hS0 rfl (cs := [v_r_Table]) rfl rfl ?_
  intro b1 wd2 hS3 he4 hx5
  replace hS3 : St w wd2 [bx b1 [v_r_Table]] := hS3
  have hx6 := St.boxAt hS3 0 rfl
  have hE7 : Ext w wd2 := hS3.ext
  have hS8 : St wd2 wd2 [] := St.start wd2
  refine WL.val (Value.bool false) _ (op_assign rfl) rfl ?_
  refine WL.nil ?_
  show W _ _ _ _ _ _
  refine W.seq ?_
  obtain ⟨x39, hx40, h⟩ := bs h
  refine W.draw mixo 5 [fun v _ => v = (Value.pointer (some ⟨b1, 0, none⟩)), fun v _ => v = v_r_Table, fun v w' => ∃ (uu0 : Value), v = (Value.agg #[uu0]) ∧ (Ty.sl (Ty.sl (Ty.sl (Ty.i .i64)))).rep w' uu0 r_Table, fun v w' => ∃ (uu0 : Value), v = (Value.agg #[uu0]) ∧ (Ty.sl (Ty.sl (Ty.sl (Ty.i .i64)))).rep w' uu0 x39, fun v w' => (Ty.sl (Ty.sl (Ty.sl (Ty.i .i64)))).rep w' v x39] (by kernel_rfl) (by kernel_rfl) (stabL ⟨(fun _ _ _ _ h => h), (fun _ _ _ _ h => h), (fun _ _ _ he ⟨uu0, h0, r0⟩ => ⟨uu0, h0, Ty.lift _ he r0⟩), (fun _ _ _ he ⟨uu0, h0, r0⟩ => ⟨uu0, h0, Ty.lift _ he r0⟩), (fun _ _ _ he h => Ty.lift _ he h), trivial⟩) ⟨?_, ?_, ?_, ?_, ?_, trivial⟩ ?_
  · intro f9 wd10 he11 hout12 hphi13
    have hS14 : St wd2 wd10 [] := St.extend hS8 he11
    have e15 : f9 1 = (Value.pointer (some ⟨b1, 0, none⟩)) := (hout12 1 rfl).trans rfl
    exact OpY.val (Value.pointer (some ⟨b1, 0, none⟩)) wd10 rfl (op_fieldAddr fd_29_0 e15) (Ext.refl _) rfl
  · intro f16 wd17 he18 hout19 hphi20
    have hS21 : St wd2 wd17 [] := St.extend hS8 he18
    have e22 : f16 3 = (Value.pointer (some ⟨b1, 0, none⟩)) := hphi20 0 3 _ rfl rfl rfl
    exact OpY.val v_r_Table wd17 rfl (op_load one_22 e22 (BoxAt.cell (BoxAt.lift hS21.ext hx6) rfl)) (Ext.refl _) rfl
  · intro f23 wd24 he25 hout26 hphi27
    have hS28 : St wd2 wd24 [] := St.extend hS8 he25
    have e29 : f23 1 = (Value.pointer (some ⟨b1, 0, none⟩)) := (hout26 1 rfl).trans rfl
    exact OpY.val (Value.agg #[v_r_Table]) wd24 rfl (op_loadBox st_29 e29 (BoxAt.lift hS28.ext hx6) rfl rfl) (Ext.refl _) ⟨v_r_Table, rfl, (Ty.lift _ (Ext.trans hE7 hS28.ext) r_r_Table)⟩
  · intro f30 wd31 he32 hout33 hphi34
    have hS35 : St wd2 wd31 [] := St.extend hS8 he32
    obtain ⟨u37, e36, hr38⟩ := hphi34 2 5 _ rfl rfl rfl
    refine OpY.call rfl (op_call fn_98 (args1 e36)) (Ret.mono (c_impl_Ring_opposite hr38 hx40) ?_)
    rintro _ wd42 ⟨u41, rfl, he43, hs44⟩
    exact ⟨he43, ⟨u41, rfl, (Sep.rep (t := (Ty.sl (Ty.sl (Ty.sl (Ty.i .i64))))) hs44 0 rfl)⟩⟩
  · intro f45 wd46 he47 hout48 hphi49
    have hS50 : St wd2 wd46 [] := St.extend hS8 he47
    obtain ⟨u52, e51, hr53⟩ := hphi49 3 6 _ rfl rfl rfl
    exact OpY.val u52 wd46 rfl (op_field fl_29_0 e51 rfl) (Ext.refl _) hr53
  · intro f54 wd55 he56 hout57 hphi58
    show WL _ _ _ _ _ _ _
    have hS59 : St wd2 wd55 [] := St.extend hS8 he56
    have e60 : f54 4 = v_r_Table := hphi58 1 4 _ (by decide) rfl rfl
    have e61 : (Ty.sl (Ty.sl (Ty.sl (Ty.i .i64)))).rep wd55 (f54 7) x39 := hphi58 4 7 _ (by decide) rfl rfl
    obtain ⟨x62, hx63, h⟩ := bs h
    refine WL.call _ (op_call fn_97 (args2 e60 rfl)) (c_impl_equalTables (Ty.lift _ (Ext.trans hE7 hS59.ext) r_r_Table) e61 hx63) rfl ?_
    rintro _ wd64 ⟨rfl, he65⟩
    have hS67 := St.extend hS59 he65
    replace hS67 : St wd2 wd64 [] := hS67
    refine WL.val (Value.bool x62) _ (op_assign rfl) rfl ?_
    refine WL.nil ?_
    show W _ _ _ _ _ _
    refine W.ret ?_
    obtain rfl := Option.some.inj h
    show FinP _ _ _ _ _ _ _
    exact FinP.ret _ (res1 rfl rfl) ⟨rfl, (Ext.trans hE7 hS67.ext)⟩

theorem c_impl_commuteCode {w : World} {r_Table : (List (List (List Int)))} {v_r_Table : Value} (r_r_Table : (Ty.sl (Ty.sl (Ty.sl (Ty.i .i64)))).rep w v_r_Table r_Table) {res : Int} (h : p_impl_commuteCode r_Table  = some res) :
    Ret Try.prog 38 #[(Value.agg #[v_r_Table])] w (fun v w' => v = Value.int .i64 res ∧ InR .i64 res ∧ Ext w w') := by
  unfold p_impl_commuteCode at h
  have hS0 : St w w [] := St.start w
  refine Ret.start (fn := Try.f38) Try.func38 rfl 9 rfl rfl ?_
  refine W.seq ?_
  refine W.region ?_
  refine WL.box hS0 rfl (cs := [v_r_Table]) rfl rfl ?_
  intro b1 wd2 hS3 he4 hx5
  replace hS3 : St w wd2 [bx b1 [v_r_Table]] := hS3
  have hx6 := St.boxAt hS3 0 rfl
  have hE7 : Ext w wd2 := hS3.ext
  have hS8 : St wd2 wd2 [] := St.start wd2
  refine WL.val (Value.int .i64 (0 : Int)) _ (op_assign rfl) rfl ?_
  refine WL.nil ?_
  show W _ _ _ _ _ _
  refine W.seq ?_
  refine W.seq ?_
  refine W.region ?_
  refine WL.val (Value.agg #[v_r_Table]) _ (op_loadBox st_29 rfl (BoxAt.lift hS8.ext hx6) rfl rfl) rfl ?_
  obtain ⟨x9, hx10, h⟩ := bs h
  refine WL.call _ (op_call fn_57 (args1 rfl)) (c_impl_IsRing (Ty.lift _ (Ext.trans hE7 hS8.ext) r_r_Table) hx10) rfl ?_
  rintro _ wd11 ⟨rfl, he12⟩
  have hS14 := St.extend hS8 he12
  replace hS14 : St wd2 wd11 [] := hS14
  refine WL.val (Value.bool (!x9)) _ (op_not rfl) rfl ?_
  refine WL.nil ?_
  show W _ _ _ _ _ _
  refine W.cond (!x9) rfl (fun hc15 => ?_) (fun hc15 => ?_)
  · replace h := ip h hc15
    refine W.seq ?_
    refine W.region ?_
    refine WL.val (Value.int .i64 (1 : Int)) _ (op_assign rfl) rfl ?_
    refine WL.nil ?_
    show W _ _ _ _ _ _
    refine W.ret ?_
    obtain rfl := Option.some.inj h
    show FinP _ _ _ _ _ _ _
    exact FinP.ret _ (res1 rfl rfl) ⟨rfl, (inR_i64.2 (show (-9223372036854775808 : Int) ≤ 1 ∧ (1 : Int) ≤ 9223372036854775807 from by decide)), (Ext.trans hE7 hS14.ext)⟩
  · replace h := inegb h hc15
    refine W.skip ?_
    show W _ _ _ _ _ _
    refine W.seq ?_
    refine W.seq ?_
    refine W.region ?_
    refine WL.val (Value.agg #[v_r_Table]) _ (op_loadBox st_29 rfl (BoxAt.lift hS14.ext hx6) rfl rfl) rfl ?_
    obtain ⟨x17, hx18, h⟩ := bs h
    refine WL.call _ (op_call fn_71 (args1 rfl)) (c_impl_Ring_isCommutative (Ty.lift _ (Ext.trans hE7 hS14.ext) r_r_Table) hx18) rfl ?_
    rintro _ wd19 ⟨rfl, he20⟩
    have hS22 := St.extend hS14 he20
    replace hS22 : St wd2 wd19 [] := hS22
    refine WL.val (Value.bool (!x17)) _ (op_not rfl) rfl ?_
    refine WL.nil ?_
    show W _ _ _ _ _ _
    refine W.cond (!x17) rfl (fun hc23 => ?_) (fun hc23 => ?_)
    · replace h := ip h hc23
      refine W.seq ?_
      refine W.region ?_
      refine WL.val (Value.int .i64 (5 : Int)) _ (op_assign rfl) rfl ?_
      refine WL.nil ?_
      show W _ _ _ _ _ _
      refine W.ret ?_
      obtain rfl := Option.some.inj h
      show FinP _ _ _ _ _ _ _
      exact FinP.ret _ (res1 rfl rfl) ⟨rfl, (inR_i64.2 (show (-9223372036854775808 : Int) ≤ 5 ∧ (5 : Int) ≤ 9223372036854775807 from by decide)), (Ext.trans hE7 hS22.ext)⟩
    · replace h := inegb h hc23
      refine W.skip ?_
      show W _ _ _ _ _ _
      refine W.seq ?_
      refine W.region ?_
      refine WL.val (Value.int .i64 (0 : Int)) _ (op_assign rfl) rfl ?_
      refine WL.nil ?_
      show W _ _ _ _ _ _
      refine W.ret ?_
      obtain rfl := Option.some.inj h
      show FinP _ _ _ _ _ _ _
      exact FinP.ret _ (res1 rfl rfl) ⟨rfl, (inR_i64.2 (show (-9223372036854775808 : Int) ≤ 0 ∧ (0 : Int) ≤ 9223372036854775807 from by decide)), (Ext.trans hE7 hS22.ext)⟩

theorem c_impl_areNumbers {w : World} {list : (List Int)} {v_list : Value} (r_list : (Ty.sl (Ty.i .i64)).rep w v_list list) {res : Bool} (h : p_impl_areNumbers list  = some res) :
    Ret Try.prog 72 #[v_list] w (fun v w' => v = Value.bool res ∧ Ext w w') := by
  unfold p_impl_areNumbers at h
  have hS0 : St w w [] := St.start w
  refine Ret.start (fn := Try.f72) Try.func72 rfl 5 rfl rfl ?_
  refine W.seq ?_
  refine W.region ?_
  refine WL.val (Value.bool false) _ (op_assign rfl) rfl ?_
  refine WL.nil ?_
  show W _ _ _ _ _ _
  refine W.seq ?_
  refine W.region ?_
  refine WL.val v_list _ (op_move rfl) rfl ?_
  obtain ⟨x1, hx2, h⟩ := bs h
  refine WL.call _ (op_call fn_76 (args3 rfl rfl rfl)) (c_impl_allWithin (Ty.lift _ hS0.ext r_list) (inR_i64.2 (show (-9223372036854775808 : Int) ≤ 0 ∧ (0 : Int) ≤ 9223372036854775807 from by decide)) (inR_i64.2 (show (-9223372036854775808 : Int) ≤ 55440 ∧ (55440 : Int) ≤ 9223372036854775807 from by decide)) hx2) rfl ?_
  rintro _ wd3 ⟨rfl, he4⟩
  have hS6 := St.extend hS0 he4
  replace hS6 : St w wd3 [] := hS6
  refine WL.val (Value.bool x1) _ (op_assign rfl) rfl ?_
  refine WL.nil ?_
  show W _ _ _ _ _ _
  refine W.ret ?_
  obtain rfl := Option.some.inj h
  show FinP _ _ _ _ _ _ _
  exact FinP.ret _ (res1 rfl rfl) ⟨rfl, hS6.ext⟩

theorem c_impl_Ring_isList {w : World} {r_Table : (List (List (List Int)))} {v_r_Table : Value} {x : (List Int)} {v_x : Value} (r_r_Table : (Ty.sl (Ty.sl (Ty.sl (Ty.i .i64)))).rep w v_r_Table r_Table) (r_x : (Ty.sl (Ty.i .i64)).rep w v_x x) {res : Bool} (h : p_impl_Ring_isList r_Table x  = some res) :
    Ret Try.prog 39 #[(Value.agg #[v_r_Table]), v_x] w (fun v w' => v = Value.bool res ∧ Ext w w') := by
  unfold p_impl_Ring_isList at h
  have hS0 : St w w [] := St.start w
  refine Ret.start (fn := Try.f39) Try.func39 rfl 15 rfl rfl ?_
  refine W.seq ?_
  refine W.region ?_
  refine WL.box hS0 rfl (cs := [v_r_Table]) rfl rfl ?_
  intro b1 wd2 hS3 he4 hx5
  replace hS3 : St w wd2 [bx b1 [v_r_Table]] := hS3
  have hx6 := St.boxAt hS3 0 rfl
  have hE7 : Ext w wd2 := hS3.ext
  have hS8 : St wd2 wd2 [] := St.start wd2
  refine WL.val (Value.bool false) _ (op_assign rfl) rfl ?_
  refine WL.nil ?_
  show W _ _ _ _ _ _
  refine W.seq ?_
  refine W.region ?_
  refine WL.val v_x _ (op_move rfl) rfl ?_
  have hr9 := inR_len (Ty.lift _ (Ext.trans hE7 hS8.ext) r_x)
  refine WL.val (Value.int .i64 ((x).length : Int)) _ (op_lenL sl_25 (Ty.lift _ (Ext.trans hE7 hS8.ext) r_x) rfl) rfl ?_
  refine WL.val (Value.pointer (some ⟨b1, 0, none⟩)) _ (op_fieldAddr fd_29_0 rfl) rfl ?_
  refine WL.val v_r_Table _ (op_load one_22 rfl (BoxAt.cell (BoxAt.lift hS8.ext hx6) rfl)) rfl ?_
  have hr10 := inR_len (Ty.lift _ (Ext.trans hE7 hS8.ext) r_r_Table)
  refine WL.val (Value.int .i64 ((r_Table).length : Int)) _ (op_lenL sl_22 (Ty.lift _ (Ext.trans hE7 hS8.ext) r_r_Table) rfl) rfl ?_
  refine WL.val (Value.bool (((x).length : Int) == ((r_Table).length : Int))) _ (op_eql rfl rfl) rfl ?_
  refine WL.val (Value.bool (((x).length : Int) == ((r_Table).length : Int))) _ (op_move rfl) rfl ?_
  obtain ⟨x12, hj13, h⟩ := bs h
  refine WL.cut 3 (fun fq wq => fq 14 = Value.bool x12 ∧ St wd2 wq []) ?_ ?_
  · rcases Bool.eq_false_or_eq_true (((x).length : Int) == ((r_Table).length : Int)) with hc11 | hc11
    · replace hj13 := ip hj13 hc11
      refine WL.grun rfl (bool_of rfl hc11) ?_
      refine WL.val v_x _ (op_move rfl) rfl ?_
      refine WL.grun rfl (bool_of rfl hc11) ?_
      obtain ⟨x17, hx18, hj13⟩ := bs hj13
      refine WL.call _ (op_call fn_72 (args1 rfl)) (c_impl_areNumbers (Ty.lift _ (Ext.trans hE7 hS8.ext) r_x) hx18) rfl ?_
      rintro _ wd19 ⟨rfl, he20⟩
      have hS22 := St.extend hS8 he20
      replace hS22 : St wd2 wd19 [] := hS22
      refine WL.val (Value.bool x17) _ (op_pick_t (evb_of rfl hc11) rfl) rfl ?_
      refine WL.nil ?_
      obtain rfl := Option.some.inj hj13
      exact ⟨rfl, rfl, hS22⟩
    · replace hj13 := inegb hj13 hc11
      refine WL.gskip rfl (bool_of rfl hc11) rfl ?_
      refine WL.gskip rfl (bool_of rfl hc11) rfl ?_
      refine WL.val (Value.bool false) _ (op_pick_f (evb_of rfl hc11) rfl) rfl ?_
      refine WL.nil ?_
      obtain rfl := Option.some.inj hj13
      exact ⟨rfl, rfl, hS8⟩
  · intro f14 wd15 hq16
    obtain ⟨hf23, hS24⟩ := hq16
    refine WL.val (Value.bool x12) _ (op_assign hf23) rfl ?_
    refine WL.nil ?_
    show W _ _ _ _ _ _
    refine W.ret ?_
    obtain rfl := Option.some.inj h
    show FinP _ _ _ _ _ _ _
    exact FinP.ret _ (res1 rfl rfl) ⟨rfl, (Ext.trans hE7 hS24.ext)⟩

theorem c_impl_dot {w : World} {a : (List Int)} {v_a : Value} {b : (List Int)} {v_b : Value} (r_a : (Ty.sl (Ty.i .i64)).rep w v_a a) (r_b : (Ty.sl (Ty.i .i64)).rep w v_b b) {res : Int} (h : p_impl_dot a b  = some res) :
    Ret Try.prog 73 #[v_a, v_b] w (fun v w' => v = Value.int .i64 res ∧ InR .i64 res ∧ Ext w w') := by
  unfold p_impl_dot at h
  have hS0 : St w w [] := St.start w
  refine Ret.start (fn := Try.f73) Try.func73 rfl 27 rfl rfl ?_
  refine W.seq ?_
  refine W.region ?_
  refine WL.val (Value.int .i64 (0 : Int)) _ (op_assign rfl) rfl ?_
  refine WL.nil ?_
  show W _ _ _ _ _ _
  refine W.seq ?_
  refine W.region ?_
  refine WL.val (Value.int .i64 (0 : Int)) _ (op_assign rfl) rfl ?_
  refine WL.nil ?_
  show W _ _ _ _ _ _
  refine W.seq ?_
  refine W.seq ?_
  refine W.region ?_
  refine WL.val v_a _ (op_move rfl) rfl ?_
  have hr1 := inR_len (Ty.lift _ hS0.ext r_a)
  refine WL.val (Value.int .i64 ((a).length : Int)) _ (op_lenL sl_25 (Ty.lift _ hS0.ext r_a) rfl) rfl ?_
  refine WL.val (Value.int .i64 (0 : Int)) _ (op_move rfl) rfl ?_
  refine WL.nil ?_
  show W _ _ _ _ _ _
  obtain ⟨res2, hres3, h⟩ := bs h
  refine W.blockLoop (fun fq wq => ∃ s, res2 = Res.fin s ∧ fq 5 = Value.int .i64 s ∧ InR .i64 s ∧ St w wq []) ?_ ?_
  · refine W.forN (fun k (s : Int) fq wq => fq 0 = v_a ∧ fq 1 = v_b ∧ fq 5 = Value.int .i64 s ∧ InR .i64 s ∧ fq 8 = (Value.int .i64 ((a).length : Int)) ∧ fq 9 = Value.int .i64 (k : Int) ∧ InR .i64 (k : Int) ∧ St w wq []) hres3 ⟨rfl, rfl, rfl, (inR_i64.2 (show (-9223372036854775808 : Int) ≤ 0 ∧ (0 : Int) ≤ 9223372036854775807 from by decide)), rfl, rfl, (inR_i64.2 (show (-9223372036854775808 : Int) ≤ 0 ∧ (0 : Int) ≤ 9223372036854775807 from by decide)), hS0⟩ ?_ ?_
    · intro k4 x5 ct6 f7 wd8 hk9 hb10 hI11 hbrk12 hret13
      replace hI11 : f7 0 = v_a ∧ f7 1 = v_b ∧ f7 5 = Value.int .i64 x5 ∧ InR .i64 x5 ∧ f7 8 = (Value.int .i64 ((a).length : Int)) ∧ f7 9 = Value.int .i64 (k4 : Int) ∧ InR .i64 (k4 : Int) ∧ St w wd8 [] := hI11
      replace hb10 : p_impl_dot_L1 a b k4 x5 = some ct6 := hb10
      unfold p_impl_dot_L1 at hb10
      obtain ⟨hf14, hf15, hf16, hr17, hf18, hf19, hr20, hS21⟩ := hI11
      refine W.seq ?_
      refine W.region ?_
      refine WL.val (Value.bool (decide ((k4 : Int) < ((a).length : Int)))) _ (op_lss hf19 hf18) rfl ?_
      have hl22 : (k4 : Int) < ((a).length : Int) := by omega
      refine WL.nil ?_
      show W _ _ _ _ _ _
      refine W.seq ?_
      refine W.condT (decide ((k4 : Int) < ((a).length : Int))) rfl (decide_eq_true hl22) ?_
      refine W.skip ?_
      show W _ _ _ _ _ _
      refine W.seq ?_
      refine W.block ?_
      refine W.seq ?_
      refine W.region ?_
      refine WL.val (Value.int .i64 (k4 : Int)) _ (op_move hf19) rfl ?_
      refine WL.val (Value.int .i64 (k4 : Int)) _ (op_assign rfl) rfl ?_
      refine WL.nil ?_
      show W _ _ _ _ _ _
      obtain ⟨x54, hx57, hb10⟩ := bs hb10
      obtain ⟨ha55, hb56, hx57⟩ := idx_some hx57
      obtain ⟨u65, hc66, hr67⟩ := repSl.el r_a hx57
      obtain ⟨rfl, hr67⟩ := hr67
      obtain ⟨x91, hx94, hb10⟩ := bs hb10
      obtain ⟨ha92, hb93, hx94⟩ := idx_some hx94
      obtain ⟨u102, hc103, hr104⟩ := repSl.el r_b hx94
      obtain ⟨rfl, hr104⟩ := hr104
      refine W.draw mixo 11 [fun v _ => v = (Value.int .i64 x5) ∧ InR .i64 x5, fun v _ => v = v_a, fun v _ => v = (Value.int .i64 (k4 : Int)) ∧ InR .i64 (k4 : Int), fun v _ => v = (Value.pointer (some (elA v_a ((k4 : Int)).toNat))), fun v _ => v = (Value.int .i64 x54) ∧ InR .i64 x54, fun v _ => v = v_b, fun v _ => v = (Value.int .i64 (k4 : Int)) ∧ InR .i64 (k4 : Int), fun v _ => v = (Value.pointer (some (elA v_b ((k4 : Int)).toNat))), fun v _ => v = (Value.int .i64 x91) ∧ InR .i64 x91, fun v _ => v = (Value.int .i64 (w64 (x54 * x91))) ∧ InR .i64 (w64 (x54 * x91)), fun v _ => v = (Value.int .i64 (((w64 (x54 * x91))).tmod (55441 : Int))) ∧ InR .i64 (((w64 (x54 * x91))).tmod (55441 : Int))] (by kernel_rfl) (by kernel_rfl) (stabL ⟨(fun _ _ _ _ h => h), (fun _ _ _ _ h => h), (fun _ _ _ _ h => h), (fun _ _ _ _ h => h), (fun _ _ _ _ h => h), (fun _ _ _ _ h => h), (fun _ _ _ _ h => h), (fun _ _ _ _ h => h), (fun _ _ _ _ h => h), (fun _ _ _ _ h => h), (fun _ _ _ _ h => h), trivial⟩) ⟨?_, ?_, ?_, ?_, ?_, ?_, ?_, ?_, ?_, ?_, ?_, trivial⟩ ?_
      · intro f24 wd25 he26 hout27 hphi28
        have hS29 : St w wd25 [] := St.extend hS21 he26
        have e30 : f24 5 = (Value.int .i64 x5) := (hout27 5 rfl).trans hf16
        exact OpY.val (Value.int .i64 x5) wd25 rfl (op_move e30) (Ext.refl _) ⟨rfl, hr17⟩
      · intro f31 wd32 he33 hout34 hphi35
        have hS36 : St w wd32 [] := St.extend hS21 he33
        have e37 : f31 0 = v_a := (hout34 0 rfl).trans hf14
        exact OpY.val v_a wd32 rfl (op_move e37) (Ext.refl _) rfl
      · intro f38 wd39 he40 hout41 hphi42
        have hS43 : St w wd39 [] := St.extend hS21 he40
        have e44 : f38 6 = (Value.int .i64 (k4 : Int)) := (hout41 6 rfl).trans rfl
        exact OpY.val (Value.int .i64 (k4 : Int)) wd39 rfl (op_move e44) (Ext.refl _) ⟨rfl, hr20⟩
      · intro f45 wd46 he47 hout48 hphi49
        have hS50 : St w wd46 [] := St.extend hS21 he47
        have e51 : f45 13 = v_a := hphi49 1 13 _ rfl rfl rfl
        obtain ⟨e52, hr53⟩ : f45 14 = (Value.int .i64 (k4 : Int)) ∧ InR .i64 (k4 : Int) := hphi49 2 14 _ rfl rfl rfl
        exact OpY.val (Value.pointer (some (elA v_a ((k4 : Int)).toNat))) wd46 rfl (op_idx sl_25 (Ty.lift _ hS50.ext r_a) e51 e52 ha55 hb56) (Ext.refl _) rfl
      · intro f58 wd59 he60 hout61 hphi62
        have hS63 : St w wd59 [] := St.extend hS21 he60
        have e64 : f58 15 = (Value.pointer (some (elA v_a ((k4 : Int)).toNat))) := hphi62 3 15 _ rfl rfl rfl
        exact OpY.val (Value.int .i64 x54) wd59 rfl (op_load one_2 e64 (Ext.cell hS63.ext hc66)) (Ext.refl _) ⟨rfl, hr67⟩
      · intro f68 wd69 he70 hout71 hphi72
        have hS73 : St w wd69 [] := St.extend hS21 he70
        have e74 : f68 1 = v_b := (hout71 1 rfl).trans hf15
        exact OpY.val v_b wd69 rfl (op_move e74) (Ext.refl _) rfl
      · intro f75 wd76 he77 hout78 hphi79
        have hS80 : St w wd76 [] := St.extend hS21 he77
        have e81 : f75 6 = (Value.int .i64 (k4 : Int)) := (hout78 6 rfl).trans rfl
        exact OpY.val (Value.int .i64 (k4 : Int)) wd76 rfl (op_move e81) (Ext.refl _) ⟨rfl, hr20⟩
      · intro f82 wd83 he84 hout85 hphi86
        have hS87 : St w wd83 [] := St.extend hS21 he84
        have e88 : f82 17 = v_b := hphi86 5 17 _ rfl rfl rfl
        obtain ⟨e89, hr90⟩ : f82 18 = (Value.int .i64 (k4 : Int)) ∧ InR .i64 (k4 : Int) := hphi86 6 18 _ rfl rfl rfl
        exact OpY.val (Value.pointer (some (elA v_b ((k4 : Int)).toNat))) wd83 rfl (op_idx sl_25 (Ty.lift _ hS87.ext r_b) e88 e89 ha92 hb93) (Ext.refl _) rfl
      · intro f95 wd96 he97 hout98 hphi99
        have hS100 : St w wd96 [] := St.extend hS21 he97
        have e101 : f95 19 = (Value.pointer (some (elA v_b ((k4 : Int)).toNat))) := hphi99 7 19 _ rfl rfl rfl
        exact OpY.val (Value.int .i64 x91) wd96 rfl (op_load one_2 e101 (Ext.cell hS100.ext hc103)) (Ext.refl _) ⟨rfl, hr104⟩
      · intro f105 wd106 he107 hout108 hphi109
        have hS110 : St w wd106 [] := St.extend hS21 he107
        obtain ⟨e111, hr112⟩ : f105 16 = (Value.int .i64 x54) ∧ InR .i64 x54 := hphi109 4 16 _ rfl rfl rfl
        obtain ⟨e113, hr114⟩ : f105 20 = (Value.int .i64 x91) ∧ InR .i64 x91 := hphi109 8 20 _ rfl rfl rfl
        exact OpY.val (Value.int .i64 (w64 (x54 * x91))) wd106 rfl (op_mul e111 e113) (Ext.refl _) ⟨rfl, (inR_wrap _ _)⟩
      · intro f115 wd116 he117 hout118 hphi119
        have hS120 : St w wd116 [] := St.extend hS21 he117
        obtain ⟨e121, hr122⟩ : f115 21 = (Value.int .i64 (w64 (x54 * x91))) ∧ InR .i64 (w64 (x54 * x91)) := hphi119 9 21 _ rfl rfl rfl
        exact OpY.val (Value.int .i64 (((w64 (x54 * x91))).tmod (55441 : Int))) wd116 rfl (op_rem (b := 55441) e121 rfl (by decide)) (Ext.refl _) ⟨rfl, (inR_tmod hr122)⟩
      · intro f123 wd124 he125 hout126 hphi127
        show WL _ _ _ _ _ _ _
        have hS128 : St w wd124 [] := St.extend hS21 he125
        obtain ⟨e129, hr130⟩ : f123 12 = (Value.int .i64 x5) ∧ InR .i64 x5 := hphi127 0 12 _ (by decide) rfl rfl
        obtain ⟨e131, hr132⟩ : f123 22 = (Value.int .i64 (((w64 (x54 * x91))).tmod (55441 : Int))) ∧ InR .i64 (((w64 (x54 * x91))).tmod (55441 : Int)) := hphi127 10 22 _ (by decide) rfl rfl
        have e133 : f123 0 = v_a := (hout126 0 rfl).trans hf14
        have e134 : f123 1 = v_b := (hout126 1 rfl).trans hf15
        have e135 : f123 8 = (Value.int .i64 ((a).length : Int)) := (hout126 8 rfl).trans hf18
        have e136 : f123 9 = (Value.int .i64 (k4 : Int)) := (hout126 9 rfl).trans hf19
        refine WL.val (Value.int .i64 (w64 (x5 + (((w64 (x54 * x91))).tmod (55441 : Int))))) _ (op_add e129 e131) rfl ?_
        refine WL.val (Value.int .i64 (w64 (x5 + (((w64 (x54 * x91))).tmod (55441 : Int))))) _ (op_assign rfl) rfl ?_
        refine WL.nil ?_
        show W _ _ _ _ _ _
        refine W.region ?_
        refine WL.val (Value.int .i64 (w64 ((k4 : Int) + (1 : Int)))) _ (op_add e136 rfl) rfl ?_
        refine WL.val (Value.int .i64 (w64 ((k4 : Int) + (1 : Int)))) _ (op_move rfl) rfl ?_
        refine WL.nil ?_
        obtain rfl := Option.some.inj hb10
        show ∃ s, _ = Ctl.next s ∧ _
        exact ⟨_, rfl, e133, e134, rfl, (inR_wrap _ _), e135, (ctr_next hl22 hr1), (ctr_rng hl22 hr1), hS128⟩
    · intro x143 f138 wd139 hs140 hI141
      replace hI141 : f138 0 = v_a ∧ f138 1 = v_b ∧ f138 5 = Value.int .i64 x143 ∧ InR .i64 x143 ∧ f138 8 = (Value.int .i64 ((a).length : Int)) ∧ f138 9 = Value.int .i64 (((a).length : Nat) : Int) ∧ InR .i64 (((a).length : Nat) : Int) ∧ St w wd139 [] := hI141
      obtain ⟨hf144, hf145, hf146, hr147, hf148, hf149, hr150, hS151⟩ := hI141
      refine W.seq ?_
      refine W.region ?_
      refine WL.val (Value.bool (decide ((((a).length : Nat) : Int) < ((a).length : Int)))) _ (op_lss hf149 hf148) rfl ?_
      have hl152 : ¬ (((a).length : Nat) : Int) < ((a).length : Int) := by omega
      refine WL.nil ?_
      show W _ _ _ _ _ _
      refine W.seq ?_
      refine W.condF (decide ((((a).length : Nat) : Int) < ((a).length : Int))) rfl (decide_eq_false hl152) ?_
      refine W.exit ?_
      show _ = _ ∧ _
      exact ⟨rfl, _, hs140, hf146, hr147, hS151⟩
  · rintro f153 wd154 ⟨x157, rfl, hq155⟩
    replace h := onRes_fin h
    replace hq155 : f153 5 = Value.int .i64 x157 ∧ InR .i64 x157 ∧ St w wd154 [] := hq155
    obtain ⟨hf158, hr159, hS160⟩ := hq155
    show W _ _ _ _ _ _
    refine W.seq ?_
    refine W.region ?_
    refine WL.val (Value.int .i64 x157) _ (op_move hf158) rfl ?_
    refine WL.val (Value.int .i64 ((x157).tmod (55441 : Int))) _ (op_rem (b := 55441) rfl rfl (by decide)) rfl ?_
    refine WL.val (Value.int .i64 ((x157).tmod (55441 : Int))) _ (op_assign rfl) rfl ?_
    refine WL.nil ?_
    show W _ _ _ _ _ _
    refine W.ret ?_
    obtain rfl := Option.some.inj h
    show FinP _ _ _ _ _ _ _
    exact FinP.ret _ (res1 rfl rfl) ⟨rfl, (inR_tmod hr159), hS160.ext⟩

theorem c_impl_Ring_isCharacter {w : World} {r_Table : (List (List (List Int)))} {v_r_Table : Value} {x : (List Int)} {v_x : Value} (r_r_Table : (Ty.sl (Ty.sl (Ty.sl (Ty.i .i64)))).rep w v_r_Table r_Table) (r_x : (Ty.sl (Ty.i .i64)).rep w v_x x) {res : Bool} (h : p_impl_Ring_isCharacter r_Table x  = some res) :
    Ret Try.prog 40 #[(Value.agg #[v_r_Table]), v_x] w (fun v w' => v = Value.bool res ∧ Ext w w') := by
  unfold p_impl_Ring_isCharacter at h
  have hS0 : St w w [] := St.start w
  refine Ret.start (fn := Try.f40) Try.func40 rfl 44 rfl rfl ?_
  refine W.seq ?_
  refine W.region ?_
  refine WL.box hS0 rfl (cs := [v_r_Table]) rfl rfl ?_
  intro b1 wd2 hS3 he4 hx5
  replace hS3 : St w wd2 [bx b1 [v_r_Table]] := hS3
  have hx6 := St.boxAt hS3 0 rfl
  have hE7 : Ext w wd2 := hS3.ext
  have hS8 : St wd2 wd2 [] := St.start wd2
  refine WL.val (Value.bool false) _ (op_assign rfl) rfl ?_
  refine WL.nil ?_
  show W _ _ _ _ _ _
  refine W.seq ?_
  refine W.seq ?_
  refine W.region ?_
  refine WL.val (Value.pointer (some ⟨b1, 0, none⟩)) _ (op_fieldAddr fd_29_0 rfl) rfl ?_
  refine WL.val v_r_Table _ (op_load one_22 rfl (BoxAt.cell (BoxAt.lift hS8.ext hx6) rfl)) rfl ?_
  have hr9 := inR_len (Ty.lift _ (Ext.trans hE7 hS8.ext) r_r_Table)
  refine WL.val (Value.int .i64 ((r_Table).length : Int)) _ (op_lenL sl_22 (Ty.lift _ (Ext.trans hE7 hS8.ext) r_r_Table) rfl) rfl ?_
  refine WL.val (Value.int .i64 (0 : Int)) _ (op_move rfl) rfl ?_
  refine WL.nil ?_
  show W _ _ _ _ _ _
  obtain ⟨res10, hres11, h⟩ := bs h
  refine W.blockLoop (fun fq wq => ∃ s, res10 = Res.fin s ∧ fq 1 = v_x ∧ St wd2 wq []) ?_ ?_
  · refine W.forN (fun k (s : Unit) fq wq => fq 1 = v_x ∧ fq 10 = v_r_Table ∧ fq 11 = (Value.int .i64 ((r_Table).length : Int)) ∧ fq 12 = Value.int .i64 (k : Int) ∧ InR .i64 (k : Int) ∧ St wd2 wq []) hres11 ⟨rfl, rfl, rfl, rfl, (inR_i64.2 (show (-9223372036854775808 : Int) ≤ 0 ∧ (0 : Int) ≤ 9223372036854775807 from by decide)), hS8⟩ ?_ ?_
    · intro k12 s234 ct13 f14 wd15 hk16 hb17 hI18 hbrk19 hret20
      obtain ⟨⟩ := s234
      replace hI18 : f14 1 = v_x ∧ f14 10 = v_r_Table ∧ f14 11 = (Value.int .i64 ((r_Table).length : Int)) ∧ f14 12 = Value.int .i64 (k12 : Int) ∧ InR .i64 (k12 : Int) ∧ St wd2 wd15 [] := hI18
      replace hb17 : p_impl_Ring_isCharacter_L1 r_Table x k12  = some ct13 := hb17
      unfold p_impl_Ring_isCharacter_L1 at hb17
      obtain ⟨hf21, hf22, hf23, hf24, hr25, hS26⟩ := hI18
      refine W.seq ?_
      refine W.region ?_
      refine WL.val (Value.bool (decide ((k12 : Int) < ((r_Table).length : Int)))) _ (op_lss hf24 hf23) rfl ?_
      have hl27 : (k12 : Int) < ((r_Table).length : Int) := by omega
      refine WL.nil ?_
      show W _ _ _ _ _ _
      refine W.seq ?_
      refine W.condT (decide ((k12 : Int) < ((r_Table).length : Int))) rfl (decide_eq_true hl27) ?_
      refine W.skip ?_
      show W _ _ _ _ _ _
      refine W.seq ?_
      refine W.block ?_
      refine W.seq ?_
      refine W.region ?_
      refine WL.val (Value.int .i64 (k12 : Int)) _ (op_move hf24) rfl ?_
      obtain ⟨x29, hx32, hb17⟩ := bs hb17
      obtain ⟨ha30, hb31, hx32⟩ := idx_some hx32
      refine WL.val (Value.pointer (some (elA v_r_Table ((k12 : Int)).toNat))) _ (op_idx sl_22 (Ty.lift _ (Ext.trans hE7 hS26.ext) r_r_Table) hf22 hf24 ha30 hb31) rfl ?_
      obtain ⟨u33, hc34, hr35⟩ := repSl.el r_r_Table hx32
      refine WL.val u33 _ (op_load one_65 rfl (Ext.cell (Ext.trans hE7 hS26.ext) hc34)) rfl ?_
      refine WL.val (Value.int .i64 (k12 : Int)) _ (op_assign rfl) rfl ?_
      refine WL.val u33 _ (op_assign rfl) rfl ?_
      refine WL.nil ?_
      show W _ _ _ _ _ _
      refine W.seq ?_
      refine W.region ?_
      refine WL.val u33 _ (op_move rfl) rfl ?_
      have hr36 := inR_len (Ty.lift _ (Ext.trans hE7 hS26.ext) hr35)
      refine WL.val (Value.int .i64 ((x29).length : Int)) _ (op_lenL sl_65 (Ty.lift _ (Ext.trans hE7 hS26.ext) hr35) rfl) rfl ?_
      refine WL.val (Value.int .i64 (0 : Int)) _ (op_move rfl) rfl ?_
      refine WL.nil ?_
      show W _ _ _ _ _ _
      obtain ⟨res37, hres38, hb17⟩ := bs hb17
      refine W.blockLoop (fun fq wq => ∃ s, res37 = Res.fin s ∧ fq 1 = v_x ∧ fq 10 = v_r_Table ∧ fq 11 = (Value.int .i64 ((r_Table).length : Int)) ∧ fq 12 = (Value.int .i64 (k12 : Int)) ∧ St wd2 wq []) ?_ ?_
      · refine W.forN (fun k (s : Unit) fq wq => fq 1 = v_x ∧ fq 5 = (Value.int .i64 (k12 : Int)) ∧ fq 10 = v_r_Table ∧ fq 11 = (Value.int .i64 ((r_Table).length : Int)) ∧ fq 12 = (Value.int .i64 (k12 : Int)) ∧ fq 17 = u33 ∧ fq 18 = (Value.int .i64 ((x29).length : Int)) ∧ fq 19 = Value.int .i64 (k : Int) ∧ InR .i64 (k : Int) ∧ St wd2 wq []) hres38 ⟨hf21, rfl, hf22, hf23, hf24, rfl, rfl, rfl, (inR_i64.2 (show (-9223372036854775808 : Int) ≤ 0 ∧ (0 : Int) ≤ 9223372036854775807 from by decide)), hS26⟩ ?_ ?_
        · intro k39 s207 ct40 f41 wd42 hk43 hb44 hI45 hbrk46 hret47
          obtain ⟨⟩ := s207
          replace hI45 : f41 1 = v_x ∧ f41 5 = (Value.int .i64 (k12 : Int)) ∧ f41 10 = v_r_Table ∧ f41 11 = (Value.int .i64 ((r_Table).length : Int)) ∧ f41 12 = (Value.int .i64 (k12 : Int)) ∧ f41 17 = u33 ∧ f41 18 = (Value.int .i64 ((x29).length : Int)) ∧ f41 19 = Value.int .i64 (k39 : Int) ∧ InR .i64 (k39 : Int) ∧ St wd2 wd42 [] := hI45
          replace hb44 : p_impl_Ring_isCharacter_L2 x29 x k12 k39  = some ct40 := hb44
          unfold p_impl_Ring_isCharacter_L2 at hb44
          obtain ⟨hf48, hf49, hf50, hf51, hf52, hf53, hf54, hf55, hr56, hS57⟩ := hI45
          refine W.seq ?_
          refine W.region ?_
          refine WL.val (Value.bool (decide ((k39 : Int) < ((x29).length : Int)))) _ (op_lss hf55 hf54) rfl ?_
          have hl58 : (k39 : Int) < ((x29).length : Int) := by omega
          refine WL.nil ?_
          show W _ _ _ _ _ _
          refine W.seq ?_
          refine W.condT (decide ((k39 : Int) < ((x29).length : Int))) rfl (decide_eq_true hl58) ?_
          refine W.skip ?_
          show W _ _ _ _ _ _
          refine W.seq ?_
          refine W.block ?_
          refine W.seq ?_
          refine W.region ?_
          refine WL.val (Value.int .i64 (k39 : Int)) _ (op_move hf55) rfl ?_
          obtain ⟨x60, hx63, hb44⟩ := bs hb44
          obtain ⟨ha61, hb62, hx63⟩ := idx_some hx63
          refine WL.val (Value.pointer (some (elA u33 ((k39 : Int)).toNat))) _ (op_idx sl_65 (Ty.lift _ (Ext.trans hE7 hS57.ext) hr35) hf53 hf55 ha61 hb62) rfl ?_
          obtain ⟨u64, hc65, hr66⟩ := repSl.el hr35 hx63
          refine WL.val u64 _ (op_load one_25 rfl (Ext.cell (Ext.trans hE7 hS57.ext) hc65)) rfl ?_
          refine WL.val (Value.int .i64 (k39 : Int)) _ (op_assign rfl) rfl ?_
          refine WL.val u64 _ (op_assign rfl) rfl ?_
          refine WL.nil ?_
          show W _ _ _ _ _ _
          refine W.seq ?_
          obtain ⟨x89, hx90, hb44⟩ := bs hb44
          obtain ⟨x118, hx121, hb44⟩ := bs hb44
          obtain ⟨ha119, hb120, hx121⟩ := idx_some hx121
          obtain ⟨u129, hc130, hr131⟩ := repSl.el r_x hx121
          obtain ⟨rfl, hr131⟩ := hr131
          obtain ⟨x155, hx158, hb44⟩ := bs hb44
          obtain ⟨ha156, hb157, hx158⟩ := idx_some hx158
          obtain ⟨u166, hc167, hr168⟩ := repSl.el r_x hx158
          obtain ⟨rfl, hr168⟩ := hr168
          refine W.draw mixo 13 [fun v _ => v = u64, fun v _ => v = v_x, fun v _ => v = (Value.int .i64 x89) ∧ InR .i64 x89, fun v _ => v = v_x, fun v _ => v = (Value.int .i64 (k12 : Int)) ∧ InR .i64 (k12 : Int), fun v _ => v = (Value.pointer (some (elA v_x ((k12 : Int)).toNat))), fun v _ => v = (Value.int .i64 x118) ∧ InR .i64 x118, fun v _ => v = v_x, fun v _ => v = (Value.int .i64 (k39 : Int)) ∧ InR .i64 (k39 : Int), fun v _ => v = (Value.pointer (some (elA v_x ((k39 : Int)).toNat))), fun v _ => v = (Value.int .i64 x155) ∧ InR .i64 x155, fun v _ => v = (Value.int .i64 (w64 (x118 * x155))) ∧ InR .i64 (w64 (x118 * x155)), fun v _ => v = (Value.int .i64 (((w64 (x118 * x155))).tmod (55441 : Int))) ∧ InR .i64 (((w64 (x118 * x155))).tmod (55441 : Int))] (by kernel_rfl) (by kernel_rfl) (stabL ⟨(fun _ _ _ _ h => h), (fun _ _ _ _ h => h), (fun _ _ _ _ h => h), (fun _ _ _ _ h => h), (fun _ _ _ _ h => h), (fun _ _ _ _ h => h), (fun _ _ _ _ h => h), (fun _ _ _ _ h => h), (fun _ _ _ _ h => h), (fun _ _ _ _ h => h), (fun _ _ _ _ h => h), (fun _ _ _ _ h => h), (fun _ _ _ _ h => h), trivial⟩) ⟨?_, ?_, ?_, ?_, ?_, ?_, ?_, ?_, ?_, ?_, ?_, ?_, ?_, trivial⟩ ?_
          · intro f67 wd68 he69 hout70 hphi71
            have hS72 : St wd2 wd68 [] := St.extend hS57 he69
            have e73 : f67 8 = u64 := (hout70 8 rfl).trans rfl
            exact OpY.val u64 wd68 rfl (op_move e73) (Ext.refl _) rfl
          · intro f74 wd75 he76 hout77 hphi78
            have hS79 : St wd2 wd75 [] := St.extend hS57 he76
            have e80 : f74 1 = v_x := (hout77 1 rfl).trans hf48
            exact OpY.val v_x wd75 rfl (op_move e80) (Ext.refl _) rfl
          · intro f81 wd82 he83 hout84 hphi85
            have hS86 : St wd2 wd82 [] := St.extend hS57 he83
            have e87 : f81 24 = u64 := hphi85 0 24 _ rfl rfl rfl
            have e88 : f81 25 = v_x := hphi85 1 25 _ rfl rfl rfl
            refine OpY.call rfl (op_call fn_73 (args2 e87 e88)) (Ret.mono (c_impl_dot (Ty.lift _ (Ext.trans hE7 hS86.ext) hr66) (Ty.lift _ (Ext.trans hE7 hS86.ext) r_x) hx90) ?_)
            rintro _ wd92 ⟨rfl, hr91, he93⟩
            exact ⟨he93, ⟨rfl, hr91⟩⟩
          · intro f95 wd96 he97 hout98 hphi99
            have hS100 : St wd2 wd96 [] := St.extend hS57 he97
            have e101 : f95 1 = v_x := (hout98 1 rfl).trans hf48
            exact OpY.val v_x wd96 rfl (op_move e101) (Ext.refl _) rfl
          · intro f102 wd103 he104 hout105 hphi106
            have hS107 : St wd2 wd103 [] := St.extend hS57 he104
            have e108 : f102 5 = (Value.int .i64 (k12 : Int)) := (hout105 5 rfl).trans hf49
            exact OpY.val (Value.int .i64 (k12 : Int)) wd103 rfl (op_move e108) (Ext.refl _) ⟨rfl, hr25⟩
          · intro f109 wd110 he111 hout112 hphi113
            have hS114 : St wd2 wd110 [] := St.extend hS57 he111
            have e115 : f109 27 = v_x := hphi113 3 27 _ rfl rfl rfl
            obtain ⟨e116, hr117⟩ : f109 28 = (Value.int .i64 (k12 : Int)) ∧ InR .i64 (k12 : Int) := hphi113 4 28 _ rfl rfl rfl
            exact OpY.val (Value.pointer (some (elA v_x ((k12 : Int)).toNat))) wd110 rfl (op_idx sl_25 (Ty.lift _ (Ext.trans hE7 hS114.ext) r_x) e115 e116 ha119 hb120) (Ext.refl _) rfl
          · intro f122 wd123 he124 hout125 hphi126
            have hS127 : St wd2 wd123 [] := St.extend hS57 he124
            have e128 : f122 29 = (Value.pointer (some (elA v_x ((k12 : Int)).toNat))) := hphi126 5 29 _ rfl rfl rfl
            exact OpY.val (Value.int .i64 x118) wd123 rfl (op_load one_2 e128 (Ext.cell (Ext.trans hE7 hS127.ext) hc130)) (Ext.refl _) ⟨rfl, hr131⟩
          · intro f132 wd133 he134 hout135 hphi136
            have hS137 : St wd2 wd133 [] := St.extend hS57 he134
            have e138 : f132 1 = v_x := (hout135 1 rfl).trans hf48
            exact OpY.val v_x wd133 rfl (op_move e138) (Ext.refl _) rfl
          · intro f139 wd140 he141 hout142 hphi143
            have hS144 : St wd2 wd140 [] := St.extend hS57 he141
            have e145 : f139 7 = (Value.int .i64 (k39 : Int)) := (hout142 7 rfl).trans rfl
            exact OpY.val (Value.int .i64 (k39 : Int)) wd140 rfl (op_move e145) (Ext.refl _) ⟨rfl, hr56⟩
          · intro f146 wd147 he148 hout149 hphi150
            have hS151 : St wd2 wd147 [] := St.extend hS57 he148
            have e152 : f146 31 = v_x := hphi150 7 31 _ rfl rfl rfl
            obtain ⟨e153, hr154⟩ : f146 32 = (Value.int .i64 (k39 : Int)) ∧ InR .i64 (k39 : Int) := hphi150 8 32 _ rfl rfl rfl
            exact OpY.val (Value.pointer (some (elA v_x ((k39 : Int)).toNat))) wd147 rfl (op_idx sl_25 (Ty.lift _ (Ext.trans hE7 hS151.ext) r_x) e152 e153 ha156 hb157) (Ext.refl _) rfl
          · intro f159 wd160 he161 hout162 hphi163
            have hS164 : St wd2 wd160 [] := St.extend hS57 he161
            have e165 : f159 33 = (Value.pointer (some (elA v_x ((k39 : Int)).toNat))) := hphi163 9 33 _ rfl rfl rfl
            exact OpY.val (Value.int .i64 x155) wd160 rfl (op_load one_2 e165 (Ext.cell (Ext.trans hE7 hS164.ext) hc167)) (Ext.refl _) ⟨rfl, hr168⟩
          · intro f169 wd170 he171 hout172 hphi173
            have hS174 : St wd2 wd170 [] := St.extend hS57 he171
            obtain ⟨e175, hr176⟩ : f169 30 = (Value.int .i64 x118) ∧ InR .i64 x118 := hphi173 6 30 _ rfl rfl rfl
            obtain ⟨e177, hr178⟩ : f169 34 = (Value.int .i64 x155) ∧ InR .i64 x155 := hphi173 10 34 _ rfl rfl rfl
            exact OpY.val (Value.int .i64 (w64 (x118 * x155))) wd170 rfl (op_mul e175 e177) (Ext.refl _) ⟨rfl, (inR_wrap _ _)⟩
          · intro f179 wd180 he181 hout182 hphi183
            have hS184 : St wd2 wd180 [] := St.extend hS57 he181
            obtain ⟨e185, hr186⟩ : f179 35 = (Value.int .i64 (w64 (x118 * x155))) ∧ InR .i64 (w64 (x118 * x155)) := hphi183 11 35 _ rfl rfl rfl
            exact OpY.val (Value.int .i64 (((w64 (x118 * x155))).tmod (55441 : Int))) wd180 rfl (op_rem (b := 55441) e185 rfl (by decide)) (Ext.refl _) ⟨rfl, (inR_tmod hr186)⟩
          · intro f187 wd188 he189 hout190 hphi191
            show WL _ _ _ _ _ _ _
            have hS192 : St wd2 wd188 [] := St.extend hS57 he189
            obtain ⟨e193, hr194⟩ : f187 26 = (Value.int .i64 x89) ∧ InR .i64 x89 := hphi191 2 26 _ (by decide) rfl rfl
            obtain ⟨e195, hr196⟩ : f187 36 = (Value.int .i64 (((w64 (x118 * x155))).tmod (55441 : Int))) ∧ InR .i64 (((w64 (x118 * x155))).tmod (55441 : Int)) := hphi191 12 36 _ (by decide) rfl rfl
            have e197 : f187 1 = v_x := (hout190 1 rfl).trans hf48
            have e198 : f187 5 = (Value.int .i64 (k12 : Int)) := (hout190 5 rfl).trans hf49
            have e199 : f187 10 = v_r_Table := (hout190 10 rfl).trans hf50
            have e200 : f187 11 = (Value.int .i64 ((r_Table).length : Int)) := (hout190 11 rfl).trans hf51
            have e201 : f187 12 = (Value.int .i64 (k12 : Int)) := (hout190 12 rfl).trans hf52
            have e202 : f187 17 = u33 := (hout190 17 rfl).trans hf53
            have e203 : f187 18 = (Value.int .i64 ((x29).length : Int)) := (hout190 18 rfl).trans hf54
            have e204 : f187 19 = (Value.int .i64 (k39 : Int)) := (hout190 19 rfl).trans hf55
            refine WL.val (Value.bool (x89 != (((w64 (x118 * x155))).tmod (55441 : Int)))) _ (op_neq e193 e195) rfl ?_
            refine WL.nil ?_
            show W _ _ _ _ _ _
            refine W.cond (x89 != (((w64 (x118 * x155))).tmod (55441 : Int))) rfl (fun hc205 => ?_) (fun hc205 => ?_)
            · replace hb44 := ip hb44 hc205
              refine W.seq ?_
              refine W.region ?_
              refine WL.val (Value.bool false) _ (op_assign rfl) rfl ?_
              refine WL.nil ?_
              show W _ _ _ _ _ _
              refine W.ret ?_
              obtain rfl := Option.some.inj hb44
              obtain rfl := hret47 _ rfl
              replace hb17 := onRes_ret hb17
              obtain rfl := Option.some.inj hb17
              obtain rfl := hret20 _ rfl
              replace h := onRes_ret h
              obtain rfl := Option.some.inj h
              show FinP _ _ _ _ _ _ _
              exact FinP.ret _ (res1 rfl rfl) ⟨rfl, (Ext.trans hE7 hS192.ext)⟩
            · replace hb44 := inegb hb44 hc205
              refine W.skip ?_
              show W _ _ _ _ _ _
              refine W.region ?_
              refine WL.val (Value.int .i64 (w64 ((k39 : Int) + (1 : Int)))) _ (op_add e204 rfl) rfl ?_
              refine WL.val (Value.int .i64 (w64 ((k39 : Int) + (1 : Int)))) _ (op_move rfl) rfl ?_
              refine WL.nil ?_
              obtain rfl := Option.some.inj hb44
              show ∃ s, _ = Ctl.next s ∧ _
              exact ⟨_, rfl, e197, e198, e199, e200, e201, e202, e203, (ctr_next hl58 hr36), (ctr_rng hl58 hr36), hS192⟩
        · intro s212 f208 wd209 hs210 hI211
          obtain ⟨⟩ := s212
          replace hI211 : f208 1 = v_x ∧ f208 5 = (Value.int .i64 (k12 : Int)) ∧ f208 10 = v_r_Table ∧ f208 11 = (Value.int .i64 ((r_Table).length : Int)) ∧ f208 12 = (Value.int .i64 (k12 : Int)) ∧ f208 17 = u33 ∧ f208 18 = (Value.int .i64 ((x29).length : Int)) ∧ f208 19 = Value.int .i64 (((x29).length : Nat) : Int) ∧ InR .i64 (((x29).length : Nat) : Int) ∧ St wd2 wd209 [] := hI211
          obtain ⟨hf213, hf214, hf215, hf216, hf217, hf218, hf219, hf220, hr221, hS222⟩ := hI211
          refine W.seq ?_
          refine W.region ?_
          refine WL.val (Value.bool (decide ((((x29).length : Nat) : Int) < ((x29).length : Int)))) _ (op_lss hf220 hf219) rfl ?_
          have hl223 : ¬ (((x29).length : Nat) : Int) < ((x29).length : Int) := by omega
          refine WL.nil ?_
          show W _ _ _ _ _ _
          refine W.seq ?_
          refine W.condF (decide ((((x29).length : Nat) : Int) < ((x29).length : Int))) rfl (decide_eq_false hl223) ?_
          refine W.exit ?_
          show _ = _ ∧ _
          exact ⟨rfl, _, hs210, hf213, hf215, hf216, hf217, hS222⟩
      · rintro f224 wd225 ⟨s227, rfl, hq226⟩
        replace hb17 := onRes_fin hb17
        obtain ⟨⟩ := s227
        replace hq226 : f224 1 = v_x ∧ f224 10 = v_r_Table ∧ f224 11 = (Value.int .i64 ((r_Table).length : Int)) ∧ f224 12 = (Value.int .i64 (k12 : Int)) ∧ St wd2 wd225 [] := hq226
        obtain ⟨hf228, hf229, hf230, hf231, hS232⟩ := hq226
        show W _ _ _ _ _ _
        refine W.region ?_
        refine WL.val (Value.int .i64 (w64 ((k12 : Int) + (1 : Int)))) _ (op_add hf231 rfl) rfl ?_
        refine WL.val (Value.int .i64 (w64 ((k12 : Int) + (1 : Int)))) _ (op_move rfl) rfl ?_
        refine WL.nil ?_
        obtain rfl := Option.some.inj hb17
        show ∃ s, _ = Ctl.next s ∧ _
        exact ⟨_, rfl, hf228, hf229, hf230, (ctr_next hl27 hr9), (ctr_rng hl27 hr9), hS232⟩
    · intro s239 f235 wd236 hs237 hI238
      obtain ⟨⟩ := s239
      replace hI238 : f235 1 = v_x ∧ f235 10 = v_r_Table ∧ f235 11 = (Value.int .i64 ((r_Table).length : Int)) ∧ f235 12 = Value.int .i64 (((r_Table).length : Nat) : Int) ∧ InR .i64 (((r_Table).length : Nat) : Int) ∧ St wd2 wd236 [] := hI238
      obtain ⟨hf240, hf241, hf242, hf243, hr244, hS245⟩ := hI238
      refine W.seq ?_
      refine W.region ?_
      refine WL.val (Value.bool (decide ((((r_Table).length : Nat) : Int) < ((r_Table).length : Int)))) _ (op_lss hf243 hf242) rfl ?_
      have hl246 : ¬ (((r_Table).length : Nat) : Int) < ((r_Table).length : Int) := by omega
      refine WL.nil ?_
      show W _ _ _ _ _ _
      refine W.seq ?_
      refine W.condF (decide ((((r_Table).length : Nat) : Int) < ((r_Table).length : Int))) rfl (decide_eq_false hl246) ?_
      refine W.exit ?_
      show _ = _ ∧ _
      exact ⟨rfl, _, hs237, hf240, hS245⟩
  · rintro f247 wd248 ⟨s250, rfl, hq249⟩
    replace h := onRes_fin h
    obtain ⟨⟩ := s250
    replace hq249 : f247 1 = v_x ∧ St wd2 wd248 [] := hq249
    obtain ⟨hf251, hS252⟩ := hq249
    show W _ _ _ _ _ _
    refine W.seq ?_
    refine W.region ?_
    refine WL.val v_x _ (op_move hf251) rfl ?_
    obtain ⟨x253, hx256, h⟩ := bs h
    obtain ⟨ha254, hb255, hx256⟩ := idx_some hx256
    refine WL.val (Value.pointer (some (elA v_x ((0 : Int)).toNat))) _ (op_idx sl_25 (Ty.lift _ (Ext.trans hE7 hS252.ext) r_x) rfl rfl ha254 hb255) rfl ?_
    obtain ⟨u257, hc258, hr259⟩ := repSl.el r_x hx256
    obtain ⟨rfl, hr259⟩ := hr259
    refine WL.val (Value.int .i64 x253) _ (op_load one_2 rfl (Ext.cell (Ext.trans hE7 hS252.ext) hc258)) rfl ?_
    refine WL.val (Value.bool (x253 == (1 : Int))) _ (op_eql rfl rfl) rfl ?_
    refine WL.val (Value.bool (x253 == (1 : Int))) _ (op_assign rfl) rfl ?_
    refine WL.nil ?_
    show W _ _ _ _ _ _
    refine W.ret ?_
    obtain rfl := Option.some.inj h
    show FinP _ _ _ _ _ _ _
    exact FinP.ret _ (res1 rfl rfl) ⟨rfl, (Ext.trans hE7 hS252.ext)⟩

theorem c_impl_IsCharacter {w : World} {r_Table : (List (List (List Int)))} {v_r_Table : Value} {x : (List Int)} {v_x : Value} (r_r_Table : (Ty.sl (Ty.sl (Ty.sl (Ty.i .i64)))).rep w v_r_Table r_Table) (r_x : (Ty.sl (Ty.i .i64)).rep w v_x x) {res : Bool × Int} (h : p_impl_IsCharacter r_Table x  = some res) :
    Ret Try.prog 13 #[(Value.agg #[v_r_Table]), v_x] w (fun v w' => v = (Value.tuple #[Value.bool res.1, Value.int .i64 res.2]) ∧ InR .i64 res.2 ∧ Ext w w') := by
  unfold p_impl_IsCharacter at h
  have hS0 : St w w [] := St.start w
  refine Ret.start (fn := Try.f13) Try.func13 rfl 19 rfl rfl ?_
  refine W.seq ?_
  refine W.region ?_
  refine WL.box hS0 rfl (cs := [v_r_Table]) rfl rfl ?_
  intro b1 wd2 hS3 he4 hx5
  replace hS3 : St w wd2 [bx b1 [v_r_Table]] := hS3
  have hx6 := St.boxAt hS3 0 rfl
  have hE7 : Ext w wd2 := hS3.ext
  have hS8 : St wd2 wd2 [] := St.start wd2
  refine WL.val (Value.bool false) _ (op_assign rfl) rfl ?_
  refine WL.val (Value.int .i64 (0 : Int)) _ (op_assign rfl) rfl ?_
  refine WL.nil ?_
  show W _ _ _ _ _ _
  refine W.seq ?_
  refine W.seq ?_
  refine W.region ?_
  refine WL.val (Value.agg #[v_r_Table]) _ (op_loadBox st_29 rfl (BoxAt.lift hS8.ext hx6) rfl rfl) rfl ?_
  obtain ⟨x9, hx10, h⟩ := bs h
  refine WL.call _ (op_call fn_38 (args1 rfl)) (c_impl_commuteCode (Ty.lift _ (Ext.trans hE7 hS8.ext) r_r_Table) hx10) rfl ?_
  rintro _ wd12 ⟨rfl, hr11, he13⟩
  have hS15 := St.extend hS8 he13
  replace hS15 : St wd2 wd12 [] := hS15
  refine WL.val (Value.int .i64 x9) _ (op_assign rfl) rfl ?_
  refine WL.nil ?_
  show W _ _ _ _ _ _
  refine W.seq ?_
  refine W.region ?_
  refine WL.val (Value.int .i64 x9) _ (op_move rfl) rfl ?_
  refine WL.val (Value.bool (x9 != (0 : Int))) _ (op_neq rfl rfl) rfl ?_
  refine WL.nil ?_
  show W _ _ _ _ _ _
  refine W.cond (x9 != (0 : Int)) rfl (fun hc16 => ?_) (fun hc16 => ?_)
  · replace h := ip h hc16
    refine W.seq ?_
    refine W.region ?_
    refine WL.val (Value.int .i64 x9) _ (op_move rfl) rfl ?_
    refine WL.val (Value.bool false) _ (op_assign rfl) rfl ?_
    refine WL.val (Value.int .i64 x9) _ (op_assign rfl) rfl ?_
    refine WL.nil ?_
    show W _ _ _ _ _ _
    refine W.ret ?_
    obtain rfl := Option.some.inj h
    show FinP _ _ _ _ _ _ _
    exact FinP.ret _ (res2 rfl rfl rfl) ⟨rfl, hr11, (Ext.trans hE7 hS15.ext)⟩
  · replace h := inegb h hc16
    refine W.skip ?_
    show W _ _ _ _ _ _
    refine W.seq ?_
    refine W.seq ?_
    refine W.region ?_
    refine WL.val (Value.agg #[v_r_Table]) _ (op_loadBox st_29 rfl (BoxAt.lift hS15.ext hx6) rfl rfl) rfl ?_
    refine WL.val v_x _ (op_move rfl) rfl ?_
    obtain ⟨x18, hx19, h⟩ := bs h
    refine WL.call _ (op_call fn_39 (args2 rfl rfl)) (c_impl_Ring_isList (Ty.lift _ (Ext.trans hE7 hS15.ext) r_r_Table) (Ty.lift _ (Ext.trans hE7 hS15.ext) r_x) hx19) rfl ?_
    rintro _ wd20 ⟨rfl, he21⟩
    have hS23 := St.extend hS15 he21
    replace hS23 : St wd2 wd20 [] := hS23
    refine WL.val (Value.bool (!x18)) _ (op_not rfl) rfl ?_
    refine WL.nil ?_
    show W _ _ _ _ _ _
    refine W.cond (!x18) rfl (fun hc24 => ?_) (fun hc24 => ?_)
    · replace h := ip h hc24
      refine W.seq ?_
      refine W.region ?_
      refine WL.val (Value.bool false) _ (op_assign rfl) rfl ?_
      refine WL.val (Value.int .i64 (2 : Int)) _ (op_assign rfl) rfl ?_
      refine WL.nil ?_
      show W _ _ _ _ _ _
      refine W.ret ?_
      obtain rfl := Option.some.inj h
      show FinP _ _ _ _ _ _ _
      exact FinP.ret _ (res2 rfl rfl rfl) ⟨rfl, (inR_i64.2 (show (-9223372036854775808 : Int) ≤ 2 ∧ (2 : Int) ≤ 9223372036854775807 from by decide)), (Ext.trans hE7 hS23.ext)⟩
    · replace h := inegb h hc24
      refine W.skip ?_
      show W _ _ _ _ _ _
      refine W.seq ?_
      refine W.region ?_
      refine WL.val (Value.agg #[v_r_Table]) _ (op_loadBox st_29 rfl (BoxAt.lift hS23.ext hx6) rfl rfl) rfl ?_
      refine WL.val v_x _ (op_move rfl) rfl ?_
      obtain ⟨x26, hx27, h⟩ := bs h
      refine WL.call _ (op_call fn_40 (args2 rfl rfl)) (c_impl_Ring_isCharacter (Ty.lift _ (Ext.trans hE7 hS23.ext) r_r_Table) (Ty.lift _ (Ext.trans hE7 hS23.ext) r_x) hx27) rfl ?_
      rintro _ wd28 ⟨rfl, he29⟩
      have hS31 := St.extend hS23 he29
      replace hS31 : St wd2 wd28 [] := hS31
      refine WL.val (Value.bool x26) _ (op_assign rfl) rfl ?_
      refine WL.val (Value.int .i64 (0 : Int)) _ (op_assign rfl) rfl ?_
      refine WL.nil ?_
      show W _ _ _ _ _ _
      refine W.ret ?_
      obtain rfl := Option.some.inj h
      show FinP _ _ _ _ _ _ _
      exact FinP.ret _ (res2 rfl rfl rfl) ⟨rfl, (inR_i64.2 (show (-9223372036854775808 : Int) ≤ 0 ∧ (0 : Int) ≤ 9223372036854775807 from by decide)), (Ext.trans hE7 hS31.ext)⟩

theorem c_laws_eqInt64S {w : World} {a : (List Int)} {v_a : Value} {b : (List Int)} {v_b : Value} (r_a : (Ty.sl (Ty.i .i64)).rep w v_a a) (r_b : (Ty.sl (Ty.i .i64)).rep w v_b b) {res : Bool} (h : p_laws_eqInt64S a b  = some res) :
    Ret Try.prog 15 #[v_a, v_b] w (fun v w' => v = Value.bool res ∧ Ext w w') := by
  unfold p_laws_eqInt64S at h
  have hS0 : St w w [] := St.start w
  refine Ret.start (fn := Try.f15) Try.func15 rfl 26 rfl rfl ?_
  refine W.seq ?_
  refine W.region ?_
  refine WL.val (Value.bool false) _ (op_assign rfl) rfl ?_
  refine WL.nil ?_
  show W _ _ _ _ _ _
  refine W.seq ?_
  refine W.seq ?_
  refine W.region ?_
  refine WL.val v_a _ (op_move rfl) rfl ?_
  have hr1 := inR_len (Ty.lift _ hS0.ext r_a)
  refine WL.val (Value.int .i64 ((a).length : Int)) _ (op_lenL sl_25 (Ty.lift _ hS0.ext r_a) rfl) rfl ?_
  refine WL.val v_b _ (op_move rfl) rfl ?_
  have hr2 := inR_len (Ty.lift _ hS0.ext r_b)
  refine WL.val (Value.int .i64 ((b).length : Int)) _ (op_lenL sl_25 (Ty.lift _ hS0.ext r_b) rfl) rfl ?_
  refine WL.val (Value.bool (((a).length : Int) != ((b).length : Int))) _ (op_neq rfl rfl) rfl ?_
  refine WL.nil ?_
  show W _ _ _ _ _ _
  refine W.cond (((a).length : Int) != ((b).length : Int)) rfl (fun hc3 => ?_) (fun hc3 => ?_)
  · replace h := ip h hc3
    refine W.seq ?_
    refine W.region ?_
    refine WL.val (Value.bool false) _ (op_assign rfl) rfl ?_
    refine WL.nil ?_
    show W _ _ _ _ _ _
    refine W.ret ?_
    obtain rfl := Option.some.inj h
    show FinP _ _ _ _ _ _ _
    exact FinP.ret _ (res1 rfl rfl) ⟨rfl, hS0.ext⟩
  · replace h := inegb h hc3
    refine W.skip ?_
    show W _ _ _ _ _ _
    refine W.seq ?_
    refine W.seq ?_
    refine W.region ?_
    refine WL.val (Value.int .i64 (0 : Int)) _ (op_assign rfl) rfl ?_
    refine WL.nil ?_
    show W _ _ _ _ _ _
    obtain ⟨res5, hres6, h⟩ := bs h
    refine W.blockLoop (fun fq wq => ∃ s, res5 = Res.fin s ∧ St w wq []) ?_ ?_
    · refine W.forN (fun k (s : Unit) fq wq => fq 0 = v_a ∧ fq 1 = v_b ∧ fq 5 = Value.int .i64 (k : Int) ∧ InR .i64 (k : Int) ∧ St w wq []) hres6 ⟨rfl, rfl, rfl, (inR_i64.2 (show (-9223372036854775808 : Int) ≤ 0 ∧ (0 : Int) ≤ 9223372036854775807 from by decide)), hS0⟩ ?_ ?_
      · intro k7 s113 ct8 f9 wd10 hk11 hb12 hI13 hbrk14 hret15
        obtain ⟨⟩ := s113
        replace hI13 : f9 0 = v_a ∧ f9 1 = v_b ∧ f9 5 = Value.int .i64 (k7 : Int) ∧ InR .i64 (k7 : Int) ∧ St w wd10 [] := hI13
        replace hb12 : p_laws_eqInt64S_L1 a b k7  = some ct8 := hb12
        unfold p_laws_eqInt64S_L1 at hb12
        obtain ⟨hf16, hf17, hf18, hr19, hS20⟩ := hI13
        refine W.seq ?_
        refine W.seq ?_
        refine W.region ?_
        refine WL.val (Value.int .i64 (k7 : Int)) _ (op_move hf18) rfl ?_
        refine WL.val v_a _ (op_move hf16) rfl ?_
        have hr21 := inR_len (Ty.lift _ hS20.ext r_a)
        refine WL.val (Value.int .i64 ((a).length : Int)) _ (op_lenL sl_25 (Ty.lift _ hS20.ext r_a) rfl) rfl ?_
        refine WL.val (Value.bool (decide ((k7 : Int) < ((a).length : Int)))) _ (op_lss rfl rfl) rfl ?_
        have hl22 : (k7 : Int) < ((a).length : Int) := by omega
        refine WL.nil ?_
        show W _ _ _ _ _ _
        refine W.condT (decide ((k7 : Int) < ((a).length : Int))) rfl (decide_eq_true hl22) ?_
        refine W.skip ?_
        show W _ _ _ _ _ _
        refine W.seq ?_
        refine W.block ?_
        refine W.seq ?_
        obtain ⟨x47, hx50, hb12⟩ := bs hb12
        obtain ⟨ha48, hb49, hx50⟩ := idx_some hx50
        obtain ⟨u58, hc59, hr60⟩ := repSl.el r_a hx50
        obtain ⟨rfl, hr60⟩ := hr60
        obtain ⟨x84, hx87, hb12⟩ := bs hb12
        obtain ⟨ha85, hb86, hx87⟩ := idx_some hx87
        obtain ⟨u95, hc96, hr97⟩ := repSl.el r_b hx87
        obtain ⟨rfl, hr97⟩ := hr97
        refine W.draw mixo 8 [fun v _ => v = v_a, fun v _ => v = (Value.int .i64 (k7 : Int)) ∧ InR .i64 (k7 : Int), fun v _ => v = (Value.pointer (some (elA v_a ((k7 : Int)).toNat))), fun v _ => v = (Value.int .i64 x47) ∧ InR .i64 x47, fun v _ => v = v_b, fun v _ => v = (Value.int .i64 (k7 : Int)) ∧ InR .i64 (k7 : Int), fun v _ => v = (Value.pointer (some (elA v_b ((k7 : Int)).toNat))), fun v _ => v = (Value.int .i64 x84) ∧ InR .i64 x84] (by kernel_rfl) (by kernel_rfl) (stabL ⟨(fun _ _ _ _ h => h), (fun _ _ _ _ h => h), (fun _ _ _ _ h => h), (fun _ _ _ _ h => h), (fun _ _ _ _ h => h), (fun _ _ _ _ h => h), (fun _ _ _ _ h => h), (fun _ _ _ _ h => h), trivial⟩) ⟨?_, ?_, ?_, ?_, ?_, ?_, ?_, ?_, trivial⟩ ?_
        · intro f24 wd25 he26 hout27 hphi28
          have hS29 : St w wd25 [] := St.extend hS20 he26
          have e30 : f24 0 = v_a := (hout27 0 rfl).trans hf16
          exact OpY.val v_a wd25 rfl (op_move e30) (Ext.refl _) rfl
        · intro f31 wd32 he33 hout34 hphi35
          have hS36 : St w wd32 [] := St.extend hS20 he33
          have e37 : f31 5 = (Value.int .i64 (k7 : Int)) := (hout34 5 rfl).trans hf18
          exact OpY.val (Value.int .i64 (k7 : Int)) wd32 rfl (op_move e37) (Ext.refl _) ⟨rfl, hr19⟩
        · intro f38 wd39 he40 hout41 hphi42
          have hS43 : St w wd39 [] := St.extend hS20 he40
          have e44 : f38 17 = v_a := hphi42 0 17 _ rfl rfl rfl
          obtain ⟨e45, hr46⟩ : f38 18 = (Value.int .i64 (k7 : Int)) ∧ InR .i64 (k7 : Int) := hphi42 1 18 _ rfl rfl rfl
          exact OpY.val (Value.pointer (some (elA v_a ((k7 : Int)).toNat))) wd39 rfl (op_idx sl_25 (Ty.lift _ hS43.ext r_a) e44 e45 ha48 hb49) (Ext.refl _) rfl
        · intro f51 wd52 he53 hout54 hphi55
          have hS56 : St w wd52 [] := St.extend hS20 he53
          have e57 : f51 19 = (Value.pointer (some (elA v_a ((k7 : Int)).toNat))) := hphi55 2 19 _ rfl rfl rfl
          exact OpY.val (Value.int .i64 x47) wd52 rfl (op_load one_2 e57 (Ext.cell hS56.ext hc59)) (Ext.refl _) ⟨rfl, hr60⟩
        · intro f61 wd62 he63 hout64 hphi65
          have hS66 : St w wd62 [] := St.extend hS20 he63
          have e67 : f61 1 = v_b := (hout64 1 rfl).trans hf17
          exact OpY.val v_b wd62 rfl (op_move e67) (Ext.refl _) rfl
        · intro f68 wd69 he70 hout71 hphi72
          have hS73 : St w wd69 [] := St.extend hS20 he70
          have e74 : f68 5 = (Value.int .i64 (k7 : Int)) := (hout71 5 rfl).trans hf18
          exact OpY.val (Value.int .i64 (k7 : Int)) wd69 rfl (op_move e74) (Ext.refl _) ⟨rfl, hr19⟩
        · intro f75 wd76 he77 hout78 hphi79
          have hS80 : St w wd76 [] := St.extend hS20 he77
          have e81 : f75 21 = v_b := hphi79 4 21 _ rfl rfl rfl
          obtain ⟨e82, hr83⟩ : f75 22 = (Value.int .i64 (k7 : Int)) ∧ InR .i64 (k7 : Int) := hphi79 5 22 _ rfl rfl rfl
          exact OpY.val (Value.pointer (some (elA v_b ((k7 : Int)).toNat))) wd76 rfl (op_idx sl_25 (Ty.lift _ hS80.ext r_b) e81 e82 ha85 hb86) (Ext.refl _) rfl
        · intro f88 wd89 he90 hout91 hphi92
          have hS93 : St w wd89 [] := St.extend hS20 he90
          have e94 : f88 23 = (Value.pointer (some (elA v_b ((k7 : Int)).toNat))) := hphi92 6 23 _ rfl rfl rfl
          exact OpY.val (Value.int .i64 x84) wd89 rfl (op_load one_2 e94 (Ext.cell hS93.ext hc96)) (Ext.refl _) ⟨rfl, hr97⟩
        · intro f98 wd99 he100 hout101 hphi102
          show WL _ _ _ _ _ _ _
          have hS103 : St w wd99 [] := St.extend hS20 he100
          obtain ⟨e104, hr105⟩ : f98 20 = (Value.int .i64 x47) ∧ InR .i64 x47 := hphi102 3 20 _ (by decide) rfl rfl
          obtain ⟨e106, hr107⟩ : f98 24 = (Value.int .i64 x84) ∧ InR .i64 x84 := hphi102 7 24 _ (by decide) rfl rfl
          have e108 : f98 0 = v_a := (hout101 0 rfl).trans hf16
          have e109 : f98 1 = v_b := (hout101 1 rfl).trans hf17
          have e110 : f98 5 = (Value.int .i64 (k7 : Int)) := (hout101 5 rfl).trans hf18
          refine WL.val (Value.bool (x47 != x84)) _ (op_neq e104 e106) rfl ?_
          refine WL.nil ?_
          show W _ _ _ _ _ _
          refine W.cond (x47 != x84) rfl (fun hc111 => ?_) (fun hc111 => ?_)
          · replace hb12 := ip hb12 hc111
            refine W.seq ?_
            refine W.region ?_
            refine WL.val (Value.bool false) _ (op_assign rfl) rfl ?_
            refine WL.nil ?_
            show W _ _ _ _ _ _
            refine W.ret ?_
            obtain rfl := Option.some.inj hb12
            obtain rfl := hret15 _ rfl
            replace h := onRes_ret h
            obtain rfl := Option.some.inj h
            show FinP _ _ _ _ _ _ _
            exact FinP.ret _ (res1 rfl rfl) ⟨rfl, hS103.ext⟩
          · replace hb12 := inegb hb12 hc111
            refine W.skip ?_
            show W _ _ _ _ _ _
            refine W.region ?_
            refine WL.val (Value.int .i64 (k7 : Int)) _ (op_move e110) rfl ?_
            refine WL.val (Value.int .i64 (w64 ((k7 : Int) + (1 : Int)))) _ (op_add rfl rfl) rfl ?_
            refine WL.val (Value.int .i64 (w64 ((k7 : Int) + (1 : Int)))) _ (op_assign rfl) rfl ?_
            refine WL.nil ?_
            obtain rfl := Option.some.inj hb12
            show ∃ s, _ = Ctl.next s ∧ _
            exact ⟨_, rfl, e108, e109, (ctr_next hl22 hr21), (ctr_rng hl22 hr21), hS103⟩
      · intro s118 f114 wd115 hs116 hI117
        obtain ⟨⟩ := s118
        replace hI117 : f114 0 = v_a ∧ f114 1 = v_b ∧ f114 5 = Value.int .i64 (((a).length : Nat) : Int) ∧ InR .i64 (((a).length : Nat) : Int) ∧ St w wd115 [] := hI117
        obtain ⟨hf119, hf120, hf121, hr122, hS123⟩ := hI117
        refine W.seq ?_
        refine W.seq ?_
        refine W.region ?_
        refine WL.val (Value.int .i64 (((a).length : Nat) : Int)) _ (op_move hf121) rfl ?_
        refine WL.val v_a _ (op_move hf119) rfl ?_
        have hr124 := inR_len (Ty.lift _ hS123.ext r_a)
        refine WL.val (Value.int .i64 ((a).length : Int)) _ (op_lenL sl_25 (Ty.lift _ hS123.ext r_a) rfl) rfl ?_
        refine WL.val (Value.bool (decide ((((a).length : Nat) : Int) < ((a).length : Int)))) _ (op_lss rfl rfl) rfl ?_
        have hl125 : ¬ (((a).length : Nat) : Int) < ((a).length : Int) := by omega
        refine WL.nil ?_
        show W _ _ _ _ _ _
        refine W.condF (decide ((((a).length : Nat) : Int) < ((a).length : Int))) rfl (decide_eq_false hl125) ?_
        refine W.exit ?_
        show _ = _ ∧ _
        exact ⟨rfl, _, hs116, hS123⟩
    · rintro f126 wd127 ⟨s129, rfl, hq128⟩
      replace h := onRes_fin h
      obtain ⟨⟩ := s129
      replace hq128 : St w wd127 [] := hq128
      have hS130 := hq128
      show W _ _ _ _ _ _
      refine W.seq ?_
      refine W.region ?_
      refine WL.val (Value.bool true) _ (op_assign rfl) rfl ?_
      refine WL.nil ?_
      show W _ _ _ _ _ _
      refine W.ret ?_
      obtain rfl := Option.some.inj h
      show FinP _ _ _ _ _ _ _
      exact FinP.ret _ (res1 rfl rfl) ⟨rfl, hS130.ext⟩

theorem c_laws_eqInt64SS {w : World} {a : (List (List Int))} {v_a : Value} {b : (List (List Int))} {v_b : Value} (r_a : (Ty.sl (Ty.sl (Ty.i .i64))).rep w v_a a) (r_b : (Ty.sl (Ty.sl (Ty.i .i64))).rep w v_b b) {res : Bool} (h : p_laws_eqInt64SS a b  = some res) :
    Ret Try.prog 74 #[v_a, v_b] w (fun v w' => v = Value.bool res ∧ Ext w w') := by
  unfold p_laws_eqInt64SS at h
  have hS0 : St w w [] := St.start w
  refine Ret.start (fn := Try.f74) Try.func74 rfl 27 rfl rfl ?_
  refine W.seq ?_
  refine W.region ?_
  refine WL.val (Value.bool false) _ (op_assign rfl) rfl ?_
  refine WL.nil ?_
  show W _ _ _ _ _ _
  refine W.seq ?_
  refine W.seq ?_
  refine W.region ?_
  refine WL.val v_a _ (op_move rfl) rfl ?_
  have hr1 := inR_len (Ty.lift _ hS0.ext r_a)
  refine WL.val (Value.int .i64 ((a).length : Int)) _ (op_lenL sl_65 (Ty.lift _ hS0.ext r_a) rfl) rfl ?_
  refine WL.val v_b _ (op_move rfl) rfl ?_
  have hr2 := inR_len (Ty.lift _ hS0.ext r_b)
  refine WL.val (Value.int .i64 ((b).length : Int)) _ (op_lenL sl_65 (Ty.lift _ hS0.ext r_b) rfl) rfl ?_
  refine WL.val (Value.bool (((a).length : Int) != ((b).length : Int))) _ (op_neq rfl rfl) rfl ?_
  refine WL.nil ?_
  show W _ _ _ _ _ _
  refine W.cond (((a).length : Int) != ((b).length : Int)) rfl (fun hc3 => ?_) (fun hc3 => ?_)
  · replace h := ip h hc3
    refine W.seq ?_
    refine W.region ?_
    refine WL.val (Value.bool false) _ (op_assign rfl) rfl ?_
    refine WL.nil ?_
    show W _ _ _ _ _ _
    refine W.ret ?_
    obtain rfl := Option.some.inj h
    show FinP _ _ _ _ _ _ _
    exact FinP.ret _ (res1 rfl rfl) ⟨rfl, hS0.ext⟩
  · replace h := inegb h hc3
    refine W.skip ?_
    show W _ _ _ _ _ _
    refine W.seq ?_
    refine W.seq ?_
    refine W.region ?_
    refine WL.val (Value.int .i64 (0 : Int)) _ (op_assign rfl) rfl ?_
    refine WL.nil ?_
    show W _ _ _ _ _ _
    obtain ⟨res5, hres6, h⟩ := bs h
    refine W.blockLoop (fun fq wq => ∃ s, res5 = Res.fin s ∧ St w wq []) ?_ ?_
    · refine W.forN (fun k (s : Unit) fq wq => fq 0 = v_a ∧ fq 1 = v_b ∧ fq 5 = Value.int .i64 (k : Int) ∧ InR .i64 (k : Int) ∧ St w wq []) hres6 ⟨rfl, rfl, rfl, (inR_i64.2 (show (-9223372036854775808 : Int) ≤ 0 ∧ (0 : Int) ≤ 9223372036854775807 from by decide)), hS0⟩ ?_ ?_
      · intro k7 s117 ct8 f9 wd10 hk11 hb12 hI13 hbrk14 hret15
        obtain ⟨⟩ := s117
        replace hI13 : f9 0 = v_a ∧ f9 1 = v_b ∧ f9 5 = Value.int .i64 (k7 : Int) ∧ InR .i64 (k7 : Int) ∧ St w wd10 [] := hI13
        replace hb12 : p_laws_eqInt64SS_L1 a b k7  = some ct8 := hb12
        unfold p_laws_eqInt64SS_L1 at hb12
        obtain ⟨hf16, hf17, hf18, hr19, hS20⟩ := hI13
        refine W.seq ?_
        refine W.seq ?_
        refine W.region ?_
        refine WL.val (Value.int .i64 (k7 : Int)) _ (op_move hf18) rfl ?_
        refine WL.val v_a _ (op_move hf16) rfl ?_
        have hr21 := inR_len (Ty.lift _ hS20.ext r_a)
        refine WL.val (Value.int .i64 ((a).length : Int)) _ (op_lenL sl_65 (Ty.lift _ hS20.ext r_a) rfl) rfl ?_
        refine WL.val (Value.bool (decide ((k7 : Int) < ((a).length : Int)))) _ (op_lss rfl rfl) rfl ?_
        have hl22 : (k7 : Int) < ((a).length : Int) := by omega
        refine WL.nil ?_
        show W _ _ _ _ _ _
        refine W.condT (decide ((k7 : Int) < ((a).length : Int))) rfl (decide_eq_true hl22) ?_
        refine W.skip ?_
        show W _ _ _ _ _ _
        refine W.seq ?_
        refine W.block ?_
        refine W.seq ?_
        obtain ⟨x47, hx50, hb12⟩ := bs hb12
        obtain ⟨ha48, hb49, hx50⟩ := idx_some hx50
        obtain ⟨u58, hc59, hr60⟩ := repSl.el r_a hx50
        obtain ⟨x84, hx87, hb12⟩ := bs hb12
        obtain ⟨ha85, hb86, hx87⟩ := idx_some hx87
        obtain ⟨u95, hc96, hr97⟩ := repSl.el r_b hx87
        refine W.draw mixo 8 [fun v _ => v = v_a, fun v _ => v = (Value.int .i64 (k7 : Int)) ∧ InR .i64 (k7 : Int), fun v _ => v = (Value.pointer (some (elA v_a ((k7 : Int)).toNat))), fun v _ => v = u58, fun v _ => v = v_b, fun v _ => v = (Value.int .i64 (k7 : Int)) ∧ InR .i64 (k7 : Int), fun v _ => v = (Value.pointer (some (elA v_b ((k7 : Int)).toNat))), fun v _ => v = u95] (by kernel_rfl) (by kernel_rfl) (stabL ⟨(fun _ _ _ _ h => h), (fun _ _ _ _ h => h), (fun _ _ _ _ h => h), (fun _ _ _ _ h => h), (fun _ _ _ _ h => h), (fun _ _ _ _ h => h), (fun _ _ _ _ h => h), (fun _ _ _ _ h => h), trivial⟩) ⟨?_, ?_, ?_, ?_, ?_, ?_, ?_, ?_, trivial⟩ ?_
        · intro f24 wd25 he26 hout27 hphi28
          have hS29 : St w wd25 [] := St.extend hS20 he26
          have e30 : f24 0 = v_a := (hout27 0 rfl).trans hf16
          exact OpY.val v_a wd25 rfl (op_move e30) (Ext.refl _) rfl
        · intro f31 wd32 he33 hout34 hphi35
          have hS36 : St w wd32 [] := St.extend hS20 he33
          have e37 : f31 5 = (Value.int .i64 (k7 : Int)) := (hout34 5 rfl).trans hf18
          exact OpY.val (Value.int .i64 (k7 : Int)) wd32 rfl (op_move e37) (Ext.refl _) ⟨rfl, hr19⟩
        · intro f38 wd39 he40 hout41 hphi42
          have hS43 : St w wd39 [] := St.extend hS20 he40
          have e44 : f38 17 = v_a := hphi42 0 17 _ rfl rfl rfl
          obtain ⟨e45, hr46⟩ : f38 18 = (Value.int .i64 (k7 : Int)) ∧ InR .i64 (k7 : Int) := hphi42 1 18 _ rfl rfl rfl
          exact OpY.val (Value.pointer (some (elA v_a ((k7 : Int)).toNat))) wd39 rfl (op_idx sl_65 (Ty.lift _ hS43.ext r_a) e44 e45 ha48 hb49) (Ext.refl _) rfl
        · intro f51 wd52 he53 hout54 hphi55
          have hS56 : St w wd52 [] := St.extend hS20 he53
          have e57 : f51 19 = (Value.pointer (some (elA v_a ((k7 : Int)).toNat))) := hphi55 2 19 _ rfl rfl rfl
          exact OpY.val u58 wd52 rfl (op_load one_25 e57 (Ext.cell hS56.ext hc59)) (Ext.refl _) rfl
        · intro f61 wd62 he63 hout64 hphi65
          have hS66 : St w wd62 [] := St.extend hS20 he63
          have e67 : f61 1 = v_b := (hout64 1 rfl).trans hf17
          exact OpY.val v_b wd62 rfl (op_move e67) (Ext.refl _) rfl
        · intro f68 wd69 he70 hout71 hphi72
          have hS73 : St w wd69 [] := St.extend hS20 he70
          have e74 : f68 5 = (Value.int .i64 (k7 : Int)) := (hout71 5 rfl).trans hf18
          exact OpY.val (Value.int .i64 (k7 : Int)) wd69 rfl (op_move e74) (Ext.refl _) ⟨rfl, hr19⟩
        · intro f75 wd76 he77 hout78 hphi79
          have hS80 : St w wd76 [] := St.extend hS20 he77
          have e81 : f75 21 = v_b := hphi79 4 21 _ rfl rfl rfl
          obtain ⟨e82, hr83⟩ : f75 22 = (Value.int .i64 (k7 : Int)) ∧ InR .i64 (k7 : Int) := hphi79 5 22 _ rfl rfl rfl
          exact OpY.val (Value.pointer (some (elA v_b ((k7 : Int)).toNat))) wd76 rfl (op_idx sl_65 (Ty.lift _ hS80.ext r_b) e81 e82 ha85 hb86) (Ext.refl _) rfl
        · intro f88 wd89 he90 hout91 hphi92
          have hS93 : St w wd89 [] := St.extend hS20 he90
          have e94 : f88 23 = (Value.pointer (some (elA v_b ((k7 : Int)).toNat))) := hphi92 6 23 _ rfl rfl rfl
          exact OpY.val u95 wd89 rfl (op_load one_25 e94 (Ext.cell hS93.ext hc96)) (Ext.refl _) rfl
        · intro f98 wd99 he100 hout101 hphi102
          show WL _ _ _ _ _ _ _
          have hS103 : St w wd99 [] := St.extend hS20 he100
          have e104 : f98 20 = u58 := hphi102 3 20 _ (by decide) rfl rfl
          have e105 : f98 24 = u95 := hphi102 7 24 _ (by decide) rfl rfl
          have e106 : f98 0 = v_a := (hout101 0 rfl).trans hf16
          have e107 : f98 1 = v_b := (hout101 1 rfl).trans hf17
          have e108 : f98 5 = (Value.int .i64 (k7 : Int)) := (hout101 5 rfl).trans hf18
          obtain ⟨x109, hx110, hb12⟩ := bs hb12
          refine WL.call _ (op_call fn_15 (args2 e104 e105)) (c_laws_eqInt64S (Ty.lift _ hS103.ext hr60) (Ty.lift _ hS103.ext hr97) hx110) rfl ?_
          rintro _ wd111 ⟨rfl, he112⟩
          have hS114 := St.extend hS103 he112
          replace hS114 : St w wd111 [] := hS114
          refine WL.val (Value.bool (!x109)) _ (op_not rfl) rfl ?_
          refine WL.nil ?_
          show W _ _ _ _ _ _
          refine W.cond (!x109) rfl (fun hc115 => ?_) (fun hc115 => ?_)
          · replace hb12 := ip hb12 hc115
            refine W.seq ?_
            refine W.region ?_
            refine WL.val (Value.bool false) _ (op_assign rfl) rfl ?_
            refine WL.nil ?_
            show W _ _ _ _ _ _
            refine W.ret ?_
            obtain rfl := Option.some.inj hb12
            obtain rfl := hret15 _ rfl
            replace h := onRes_ret h
            obtain rfl := Option.some.inj h
            show FinP _ _ _ _ _ _ _
            exact FinP.ret _ (res1 rfl rfl) ⟨rfl, hS114.ext⟩
          · replace hb12 := inegb hb12 hc115
            refine W.skip ?_
            show W _ _ _ _ _ _
            refine W.region ?_
            refine WL.val (Value.int .i64 (k7 : Int)) _ (op_move e108) rfl ?_
            refine WL.val (Value.int .i64 (w64 ((k7 : Int) + (1 : Int)))) _ (op_add rfl rfl) rfl ?_
            refine WL.val (Value.int .i64 (w64 ((k7 : Int) + (1 : Int)))) _ (op_assign rfl) rfl ?_
            refine WL.nil ?_
            obtain rfl := Option.some.inj hb12
            show ∃ s, _ = Ctl.next s ∧ _
            exact ⟨_, rfl, e106, e107, (ctr_next hl22 hr21), (ctr_rng hl22 hr21), hS114⟩
      · intro s122 f118 wd119 hs120 hI121
        obtain ⟨⟩ := s122
        replace hI121 : f118 0 = v_a ∧ f118 1 = v_b ∧ f118 5 = Value.int .i64 (((a).length : Nat) : Int) ∧ InR .i64 (((a).length : Nat) : Int) ∧ St w wd119 [] := hI121
        obtain ⟨hf123, hf124, hf125, hr126, hS127⟩ := hI121
        refine W.seq ?_
        refine W.seq ?_
        refine W.region ?_
        refine WL.val (Value.int .i64 (((a).length : Nat) : Int)) _ (op_move hf125) rfl ?_
        refine WL.val v_a _ (op_move hf123) rfl ?_
        have hr128 := inR_len (Ty.lift _ hS127.ext r_a)
        refine WL.val (Value.int .i64 ((a).length : Int)) _ (op_lenL sl_65 (Ty.lift _ hS127.ext r_a) rfl) rfl ?_
        refine WL.val (Value.bool (decide ((((a).length : Nat) : Int) < ((a).length : Int)))) _ (op_lss rfl rfl) rfl ?_
        have hl129 : ¬ (((a).length : Nat) : Int) < ((a).length : Int) := by omega
        refine WL.nil ?_
        show W _ _ _ _ _ _
        refine W.condF (decide ((((a).length : Nat) : Int) < ((a).length : Int))) rfl (decide_eq_false hl129) ?_
        refine W.exit ?_
        show _ = _ ∧ _
        exact ⟨rfl, _, hs120, hS127⟩
    · rintro f130 wd131 ⟨s133, rfl, hq132⟩
      replace h := onRes_fin h
      obtain ⟨⟩ := s133
      replace hq132 : St w wd131 [] := hq132
      have hS134 := hq132
      show W _ _ _ _ _ _
      refine W.seq ?_
      refine W.region ?_
      refine WL.val (Value.bool true) _ (op_assign rfl) rfl ?_
      refine WL.nil ?_
      show W _ _ _ _ _ _
      refine W.ret ?_
      obtain rfl := Option.some.inj h
      show FinP _ _ _ _ _ _ _
      exact FinP.ret _ (res1 rfl rfl) ⟨rfl, hS134.ext⟩

theorem c_laws_eqInt64SSS {w : World} {a : (List (List (List Int)))} {v_a : Value} {b : (List (List (List Int)))} {v_b : Value} (r_a : (Ty.sl (Ty.sl (Ty.sl (Ty.i .i64)))).rep w v_a a) (r_b : (Ty.sl (Ty.sl (Ty.sl (Ty.i .i64)))).rep w v_b b) {res : Bool} (h : p_laws_eqInt64SSS a b  = some res) :
    Ret Try.prog 41 #[v_a, v_b] w (fun v w' => v = Value.bool res ∧ Ext w w') := by
  unfold p_laws_eqInt64SSS at h
  have hS0 : St w w [] := St.start w
  refine Ret.start (fn := Try.f41) Try.func41 rfl 27 rfl rfl ?_
  refine W.seq ?_
  refine W.region ?_
  refine WL.val (Value.bool false) _ (op_assign rfl) rfl ?_
  refine WL.nil ?_
  show W _ _ _ _ _ _
  refine W.seq ?_
  refine W.seq ?_
  refine W.region ?_
  refine WL.val v_a _ (op_move rfl) rfl ?_
  have hr1 := inR_len (Ty.lift _ hS0.ext r_a)
  refine WL.val (Value.int .i64 ((a).length : Int)) _ (op_lenL sl_22 (Ty.lift _ hS0.ext r_a) rfl) rfl ?_
  refine WL.val v_b _ (op_move rfl) rfl ?_
  have hr2 := inR_len (Ty.lift _ hS0.ext r_b)
  refine WL.val (Value.int .i64 ((b).length : Int)) _ (op_lenL sl_22 (Ty.lift _ hS0.ext r_b) rfl) rfl ?_
  refine WL.val (Value.bool (((a).length : Int) != ((b).length : Int))) _ (op_neq rfl rfl) rfl ?_
  refine WL.nil ?_
  show W _ _ _ _ _ _
  refine W.cond (((a).length : Int) != ((b).length : Int)) rfl (fun hc3 => ?_) (fun hc3 => ?_)
  · replace h := ip h hc3
    refine W.seq ?_
    refine W.region ?_
    refine WL.val (Value.bool false) _ (op_assign rfl) rfl ?_
    refine WL.nil ?_
    show W _ _ _ _ _ _
    refine W.ret ?_
    obtain rfl := Option.some.inj h
    show FinP _ _ _ _ _ _ _
    exact FinP.ret _ (res1 rfl rfl) ⟨rfl, hS0.ext⟩
  · replace h := inegb h hc3
    refine W.skip ?_
    show W _ _ _ _ _ _
    refine W.seq ?_
    refine W.seq ?_
    refine W.region ?_
    refine WL.val (Value.int .i64 (0 : Int)) _ (op_assign rfl) rfl ?_
    refine WL.nil ?_
    show W _ _ _ _ _ _
    obtain ⟨res5, hres6, h⟩ := bs h
    refine W.blockLoop (fun fq wq => ∃ s, res5 = Res.fin s ∧ St w wq []) ?_ ?_
    · refine W.forN (fun k (s : Unit) fq wq => fq 0 = v_a ∧ fq 1 = v_b ∧ fq 5 = Value.int .i64 (k : Int) ∧ InR .i64 (k : Int) ∧ St w wq []) hres6 ⟨rfl, rfl, rfl, (inR_i64.2 (show (-9223372036854775808 : Int) ≤ 0 ∧ (0 : Int) ≤ 9223372036854775807 from by decide)), hS0⟩ ?_ ?_
      · intro k7 s117 ct8 f9 wd10 hk11 hb12 hI13 hbrk14 hret15
        obtain ⟨⟩ := s117
        replace hI13 : f9 0 = v_a ∧ f9 1 = v_b ∧ f9 5 = Value.int .i64 (k7 : Int) ∧ InR .i64 (k7 : Int) ∧ St w wd10 [] := hI13
        replace hb12 : p_laws_eqInt64SSS_L1 a b k7  = some ct8 := hb12
        unfold p_laws_eqInt64SSS_L1 at hb12
        obtain ⟨hf16, hf17, hf18, hr19, hS20⟩ := hI13
        refine W.seq ?_
        refine W.seq ?_
        refine W.region ?_
        refine WL.val (Value.int .i64 (k7 : Int)) _ (op_move hf18) rfl ?_
        refine WL.val v_a _ (op_move hf16) rfl ?_
        have hr21 := inR_len (Ty.lift _ hS20.ext r_a)
        refine WL.val (Value.int .i64 ((a).length : Int)) _ (op_lenL sl_22 (Ty.lift _ hS20.ext r_a) rfl) rfl ?_
        refine WL.val (Value.bool (decide ((k7 : Int) < ((a).length : Int)))) _ (op_lss rfl rfl) rfl ?_
        have hl22 : (k7 : Int) < ((a).length : Int) := by omega
        refine WL.nil ?_
        show W _ _ _ _ _ _
        refine W.condT (decide ((k7 : Int) < ((a).length : Int))) rfl (decide_eq_true hl22) ?_
        refine W.skip ?_
        show W _ _ _ _ _ _
        refine W.seq ?_
        refine W.block ?_
        refine W.seq ?_
        obtain ⟨x47, hx50, hb12⟩ := bs hb12
        obtain ⟨ha48, hb49, hx50⟩ := idx_some hx50
        obtain ⟨u58, hc59, hr60⟩ := repSl.el r_a hx50
        obtain ⟨x84, hx87, hb12⟩ := bs hb12
        obtain ⟨ha85, hb86, hx87⟩ := idx_some hx87
        obtain ⟨u95, hc96, hr97⟩ := repSl.el r_b hx87
        refine W.draw mixo 8 [fun v _ => v = v_a, fun v _ => v = (Value.int .i64 (k7 : Int)) ∧ InR .i64 (k7 : Int), fun v _ => v = (Value.pointer (some (elA v_a ((k7 : Int)).toNat))), fun v _ => v = u58, fun v _ => v = v_b, fun v _ => v = (Value.int .i64 (k7 : Int)) ∧ InR .i64 (k7 : Int), fun v _ => v = (Value.pointer (some (elA v_b ((k7 : Int)).toNat))), fun v _ => v = u95] (by kernel_rfl) (by kernel_rfl) (stabL ⟨(fun _ _ _ _ h => h), (fun _ _ _ _ h => h), (fun _ _ _ _ h => h), (fun _ _ _ _ h => h), (fun _ _ _ _ h => h), (fun _ _ _ _ h => h), (fun _ _ _ _ h => h), (fun _ _ _ _ h => h), trivial⟩) ⟨?_, ?_, ?_, ?_, ?_, ?_, ?_, ?_, trivial⟩ ?_
        · intro f24 wd25 he26 hout27 hphi28
          have hS29 : St w wd25 [] := St.extend hS20 he26
          have e30 : f24 0 = v_a := (hout27 0 rfl).trans hf16
          exact OpY.val v_a wd25 rfl (op_move e30) (Ext.refl _) rfl
        · intro f31 wd32 he33 hout34 hphi35
          have hS36 : St w wd32 [] := St.extend hS20 he33
          have e37 : f31 5 = (Value.int .i64 (k7 : Int)) := (hout34 5 rfl).trans hf18
          exact OpY.val (Value.int .i64 (k7 : Int)) wd32 rfl (op_move e37) (Ext.refl _) ⟨rfl, hr19⟩
        · intro f38 wd39 he40 hout41 hphi42
          have hS43 : St w wd39 [] := St.extend hS20 he40
          have e44 : f38 17 = v_a := hphi42 0 17 _ rfl rfl rfl
          obtain ⟨e45, hr46⟩ : f38 18 = (Value.int .i64 (k7 : Int)) ∧ InR .i64 (k7 : Int) := hphi42 1 18 _ rfl rfl rfl
          exact OpY.val (Value.pointer (some (elA v_a ((k7 : Int)).toNat))) wd39 rfl (op_idx sl_22 (Ty.lift _ hS43.ext r_a) e44 e45 ha48 hb49) (Ext.refl _) rfl
        · intro f51 wd52 he53 hout54 hphi55
          have hS56 : St w wd52 [] := St.extend hS20 he53
          have e57 : f51 19 = (Value.pointer (some (elA v_a ((k7 : Int)).toNat))) := hphi55 2 19 _ rfl rfl rfl
          exact OpY.val u58 wd52 rfl (op_load one_65 e57 (Ext.cell hS56.ext hc59)) (Ext.refl _) rfl
        · intro f61 wd62 he63 hout64 hphi65
          have hS66 : St w wd62 [] := St.extend hS20 he63
          have e67 : f61 1 = v_b := (hout64 1 rfl).trans hf17
          exact OpY.val v_b wd62 rfl (op_move e67) (Ext.refl _) rfl
        · intro f68 wd69 he70 hout71 hphi72
          have hS73 : St w wd69 [] := St.extend hS20 he70
          have e74 : f68 5 = (Value.int .i64 (k7 : Int)) := (hout71 5 rfl).trans hf18
          exact OpY.val (Value.int .i64 (k7 : Int)) wd69 rfl (op_move e74) (Ext.refl _) ⟨rfl, hr19⟩
        · intro f75 wd76 he77 hout78 hphi79
          have hS80 : St w wd76 [] := St.extend hS20 he77
          have e81 : f75 21 = v_b := hphi79 4 21 _ rfl rfl rfl
          obtain ⟨e82, hr83⟩ : f75 22 = (Value.int .i64 (k7 : Int)) ∧ InR .i64 (k7 : Int) := hphi79 5 22 _ rfl rfl rfl
          exact OpY.val (Value.pointer (some (elA v_b ((k7 : Int)).toNat))) wd76 rfl (op_idx sl_22 (Ty.lift _ hS80.ext r_b) e81 e82 ha85 hb86) (Ext.refl _) rfl
        · intro f88 wd89 he90 hout91 hphi92
          have hS93 : St w wd89 [] := St.extend hS20 he90
          have e94 : f88 23 = (Value.pointer (some (elA v_b ((k7 : Int)).toNat))) := hphi92 6 23 _ rfl rfl rfl
          exact OpY.val u95 wd89 rfl (op_load one_65 e94 (Ext.cell hS93.ext hc96)) (Ext.refl _) rfl
        · intro f98 wd99 he100 hout101 hphi102
          show WL _ _ _ _ _ _ _
          have hS103 : St w wd99 [] := St.extend hS20 he100
          have e104 : f98 20 = u58 := hphi102 3 20 _ (by decide) rfl rfl
          have e105 : f98 24 = u95 := hphi102 7 24 _ (by decide) rfl rfl
          have e106 : f98 0 = v_a := (hout101 0 rfl).trans hf16
          have e107 : f98 1 = v_b := (hout101 1 rfl).trans hf17
          have e108 : f98 5 = (Value.int .i64 (k7 : Int)) := (hout101 5 rfl).trans hf18
          obtain ⟨x109, hx110, hb12⟩ := bs hb12
          refine WL.call _ (op_call fn_74 (args2 e104 e105)) (c_laws_eqInt64SS (Ty.lift _ hS103.ext hr60) (Ty.lift _ hS103.ext hr97) hx110) rfl ?_
          rintro _ wd111 ⟨rfl, he112⟩
          have hS114 := St.extend hS103 he112
          replace hS114 : St w wd111 [] := hS114
          refine WL.val (Value.bool (!x109)) _ (op_not rfl) rfl ?_
          refine WL.nil ?_
          show W _ _ _ _ _ _
          refine W.cond (!x109) rfl (fun hc115 => ?_) (fun hc115 => ?_)
          · replace hb12 := ip hb12 hc115
            refine W.seq ?_
            refine W.region ?_
            refine WL.val (Value.bool false) _ (op_assign rfl) rfl ?_
            refine WL.nil ?_
            show W _ _ _ _ _ _
            refine W.ret ?_
            obtain rfl := Option.some.inj hb12
            obtain rfl := hret15 _ rfl
            replace h := onRes_ret h
            obtain rfl := Option.some.inj h
            show FinP _ _ _ _ _ _ _
            exact FinP.ret _ (res1 rfl rfl) ⟨rfl, hS114.ext⟩
          · replace hb12 := inegb hb12 hc115
            refine W.skip ?_
            show W _ _ _ _ _ _
            refine W.region ?_
            refine WL.val (Value.int .i64 (k7 : Int)) _ (op_move e108) rfl ?_
            refine WL.val (Value.int .i64 (w64 ((k7 : Int) + (1 : Int)))) _ (op_add rfl rfl) rfl ?_
            refine WL.val (Value.int .i64 (w64 ((k7 : Int) + (1 : Int)))) _ (op_assign rfl) rfl ?_
            refine WL.nil ?_
            obtain rfl := Option.some.inj hb12
            show ∃ s, _ = Ctl.next s ∧ _
            exact ⟨_, rfl, e106, e107, (ctr_next hl22 hr21), (ctr_rng hl22 hr21), hS114⟩
      · intro s122 f118 wd119 hs120 hI121
        obtain ⟨⟩ := s122
        replace hI121 : f118 0 = v_a ∧ f118 1 = v_b ∧ f118 5 = Value.int .i64 (((a).length : Nat) : Int) ∧ InR .i64 (((a).length : Nat) : Int) ∧ St w wd119 [] := hI121
        obtain ⟨hf123, hf124, hf125, hr126, hS127⟩ := hI121
        refine W.seq ?_
        refine W.seq ?_
        refine W.region ?_
        refine WL.val (Value.int .i64 (((a).length : Nat) : Int)) _ (op_move hf125) rfl ?_
        refine WL.val v_a _ (op_move hf123) rfl ?_
        have hr128 := inR_len (Ty.lift _ hS127.ext r_a)
        refine WL.val (Value.int .i64 ((a).length : Int)) _ (op_lenL sl_22 (Ty.lift _ hS127.ext r_a) rfl) rfl ?_
        refine WL.val (Value.bool (decide ((((a).length : Nat) : Int) < ((a).length : Int)))) _ (op_lss rfl rfl) rfl ?_
        have hl129 : ¬ (((a).length : Nat) : Int) < ((a).length : Int) := by omega
        refine WL.nil ?_
        show W _ _ _ _ _ _
        refine W.condF (decide ((((a).length : Nat) : Int) < ((a).length : Int))) rfl (decide_eq_false hl129) ?_
        refine W.exit ?_
        show _ = _ ∧ _
        exact ⟨rfl, _, hs120, hS127⟩
    · rintro f130 wd131 ⟨s133, rfl, hq132⟩
      replace h := onRes_fin h
      obtain ⟨⟩ := s133
      replace hq132 : St w wd131 [] := hq132
      have hS134 := hq132
      show W _ _ _ _ _ _
      refine W.seq ?_
      refine W.region ?_
      refine WL.val (Value.bool true) _ (op_assign rfl) rfl ?_
      refine WL.nil ?_
      show W _ _ _ _ _ _
      refine W.ret ?_
      obtain rfl := Option.some.inj h
      show FinP _ _ _ _ _ _ _
      exact FinP.ret _ (res1 rfl rfl) ⟨rfl, hS134.ext⟩

theorem c_laws_eqRing {w : World} {a_Table : (List (List (List Int)))} {v_a_Table : Value} {b_Table : (List (List (List Int)))} {v_b_Table : Value} (r_a_Table : (Ty.sl (Ty.sl (Ty.sl (Ty.i .i64)))).rep w v_a_Table a_Table) (r_b_Table : (Ty.sl (Ty.sl (Ty.sl (Ty.i .i64)))).rep w v_b_Table b_Table) {res : Bool} (h : p_laws_eqRing a_Table b_Table  = some res) :
    Ret Try.prog 14 #[(Value.agg #[v_a_Table]), (Value.agg #[v_b_Table])] w (fun v w' => v = Value.bool res ∧ Ext w w') := by
  unfold p_laws_eqRing at h
  have hS0 : St w w [] := St.start w
  refine Ret.start (fn := Try.f14) Try.func14 rfl 11 rfl rfl ?_
  refine W.seq ?_
  refine W.region ?_
  refine WL.box hS0 rfl (cs := [v_a_Table]) rfl rfl ?_
  intro b1 wd2 hS3 he4 hx5
  replace hS3 : St w wd2 [bx b1 [v_a_Table]] := hS3
  have hx6 := St.boxAt hS3 0 rfl
  have hE7 : Ext w wd2 := hS3.ext
  have hS8 : St wd2 wd2 [] := St.start wd2
  refine WL.box hS8 rfl (cs := [v_b_Table]) rfl rfl ?_
  intro b9 wd10 hS11 he12 hx13
  replace hS11 : St wd2 wd10 [bx b9 [v_b_Table]] := hS11
  have hx14 := St.boxAt hS11 0 rfl
  have hE15 : Ext w wd10 := (Ext.trans hE7 hS11.ext)
  have hE16 : Ext wd2 wd10 := hS11.ext
  have hS17 : St wd10 wd10 [] := St.start wd10
  refine WL.val (Value.bool false) _ (op_assign rfl) rfl ?_
  refine WL.nil ?_
  show W _ _ _ _ _ _
  refine W.seq ?_
  refine W.seq ?_
  refine W.region ?_
  refine WL.val (Value.pointer (some ⟨b1, 0, none⟩)) _ (op_fieldAddr fd_29_0 rfl) rfl ?_
  refine WL.val v_a_Table _ (op_load one_22 rfl (BoxAt.cell (BoxAt.lift (Ext.trans hE16 hS17.ext) hx6) rfl)) rfl ?_
  refine WL.val (Value.pointer (some ⟨b9, 0, none⟩)) _ (op_fieldAddr fd_29_0 rfl) rfl ?_
  refine WL.val v_b_Table _ (op_load one_22 rfl (BoxAt.cell (BoxAt.lift hS17.ext hx14) rfl)) rfl ?_
  obtain ⟨x18, hx19, h⟩ := bs h
  refine WL.call _ (op_call fn_41 (args2 rfl rfl)) (c_laws_eqInt64SSS (Ty.lift _ (Ext.trans hE15 hS17.ext) r_a_Table) (Ty.lift _ (Ext.trans hE15 hS17.ext) r_b_Table) hx19) rfl ?_
  rintro _ wd20 ⟨rfl, he21⟩
  have hS23 := St.extend hS17 he21
  replace hS23 : St wd10 wd20 [] := hS23
  refine WL.val (Value.bool (!x18)) _ (op_not rfl) rfl ?_
  refine WL.nil ?_
  show W _ _ _ _ _ _
  refine W.cond (!x18) rfl (fun hc24 => ?_) (fun hc24 => ?_)
  · replace h := ip h hc24
    refine W.seq ?_
    refine W.region ?_
    refine WL.val (Value.bool false) _ (op_assign rfl) rfl ?_
    refine WL.nil ?_
    show W _ _ _ _ _ _
    refine W.ret ?_
    obtain rfl := Option.some.inj h
    show FinP _ _ _ _ _ _ _
    exact FinP.ret _ (res1 rfl rfl) ⟨rfl, (Ext.trans hE15 hS23.ext)⟩
  · replace h := inegb h hc24
    refine W.skip ?_
    show W _ _ _ _ _ _
    refine W.seq ?_
    refine W.region ?_
    refine WL.val (Value.bool true) _ (op_assign rfl) rfl ?_
    refine WL.nil ?_
    show W _ _ _ _ _ _
    refine W.ret ?_
    obtain rfl := Option.some.inj h
    show FinP _ _ _ _ _ _ _
    exact FinP.ret _ (res1 rfl rfl) ⟨rfl, (Ext.trans hE15 hS23.ext)⟩

end Go.VG
