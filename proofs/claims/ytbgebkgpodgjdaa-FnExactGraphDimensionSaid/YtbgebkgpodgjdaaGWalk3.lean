/- The walks, part 3: each Go function returns what its plain twin returns. No condition beyond what each names. -/
import Derived.Test.YtbgebkgpodgjdaaGWalk2
set_option linter.all false
namespace Go.VG
open Go.Proofs
attribute [local irreducible] W WL Sep FinP

theorem c_impl_Ring_turnFault {w : World} {r_Table : (List (List (List Int)))} {v_r_Table : Value} (r_r_Table : (Ty.sl (Ty.sl (Ty.sl (Ty.i .i64)))).rep w v_r_Table r_Table) {res : (List Int)} (h : p_impl_Ring_turnFault r_Table  = some res) :
    Ret Try.prog 66 #[(Value.agg #[v_r_Table])] w (fun v w' => ∃ (u0 : Value), v = u0 ∧ NilIff u0 res ∧ Ext w w' ∧ Sep w.heap.size w' [(Ty.sl (Ty.i .i64)).at u0 res]) := by
  unfold p_impl_Ring_turnFault at h
  have hS0 : St w w [] := St.start w
  refine Ret.start (fn := Try.f66) Try.func66 rfl 80 rfl rfl ?_
  refine W.seq (W.region ?_)
  refine WL.box hS0 rfl (cs := [v_r_Table]) rfl rfl ?_
  intro b1 wd2 hS3 he4 hx5
  replace hS3 : St w wd2 [bx b1 [v_r_Table]] := hS3
  have hx6 := St.boxAt hS3 0 rfl
  have hE7 : Ext w wd2 := hS3.ext
  have hS8 : St wd2 wd2 [] := St.start wd2
  refine WL.val (Value.slice none 0 0) _ (op_assign rfl) rfl ?_
  refine WL.nil ?_
  refine W.seq (W.region ?_)
  refine WL.val (Value.agg #[v_r_Table]) _ (op_loadBox st_30 rfl (BoxAt.lift hS8.ext hx6) rfl rfl) rfl ?_
  obtain ⟨x9, hx10, h⟩ := bs h
  refine WL.call _ (op_call fn_33 (args1 rfl)) (c_impl_Ring_duals (Ty.lift _ (Ext.trans hE7 hS8.ext) r_r_Table) hx10) rfl ?_
  rintro u11 wd12 ⟨_, rfl, he13, hs14⟩
  have hS15 := St.join hS8 he13 hs14
  replace hS15 : St wd2 wd12 [(Ty.sl (Ty.i .i64)).at u11 x9] := hS15
  have hb16 := St.rep (t := (Ty.sl (Ty.i .i64))) hS15 0 rfl
  have hE17 : Ext w wd12 := (Ext.trans hE7 hS15.ext)
  have hE18 : Ext wd2 wd12 := hS15.ext
  have hS19 : St wd12 wd12 [] := St.start wd12
  refine WL.val u11 _ (op_assign rfl) rfl ?_
  refine WL.nil ?_
  refine W.seq (W.seq (W.region ?_))
  refine WL.val (Value.pointer (some ⟨b1, 0, none⟩)) _ (op_fieldAddr fd_30_0 rfl) rfl ?_
  refine WL.val v_r_Table _ (op_load one_22 rfl (BoxAt.cell (BoxAt.lift (Ext.trans hE18 hS19.ext) hx6) rfl)) rfl ?_
  have hr20 := inR_len (Ty.lift _ (Ext.trans hE17 hS19.ext) r_r_Table)
  refine WL.val (Value.int .i64 ((r_Table).length : Int)) _ (op_lenL sl_22 (Ty.lift _ (Ext.trans hE17 hS19.ext) r_r_Table) rfl) rfl ?_
  refine WL.val (Value.int .i64 (0 : Int)) _ (op_move rfl) rfl ?_
  refine WL.nil ?_
  show W _ _ _ _ _ _
  obtain ⟨res21, hres22, h⟩ := bs h
  refine W.blockLoop (fun fq wq => ∃ s, res21 = Res.fin s ∧ St wd12 wq []) ?_ ?_
  · refine W.forN (fun k (s : Unit) fq wq => fq 1 = (Value.pointer (some ⟨b1, 0, none⟩)) ∧ fq 3 = u11 ∧ fq 12 = (Value.int .i64 ((r_Table).length : Int)) ∧ fq 13 = Value.int .i64 (k : Int) ∧ InR .i64 (k : Int) ∧ St wd12 wq []) hres22 ⟨rfl, rfl, rfl, rfl, (inL rfl), hS19⟩ ?_ ?_
    · intro k23 s852 ct24 f25 wd26 hk27 hb28 hI29 hbrk30 hret31
      obtain ⟨⟩ := s852
      replace hI29 : f25 1 = (Value.pointer (some ⟨b1, 0, none⟩)) ∧ f25 3 = u11 ∧ f25 12 = (Value.int .i64 ((r_Table).length : Int)) ∧ f25 13 = Value.int .i64 (k23 : Int) ∧ InR .i64 (k23 : Int) ∧ St wd12 wd26 [] := hI29
      replace hb28 : p_impl_Ring_turnFault_L1 r_Table x9 k23  = some ct24 := hb28
      unfold p_impl_Ring_turnFault_L1 at hb28
      obtain ⟨hf32, hf33, hf34, hf35, hr36, hS37⟩ := hI29
      refine W.seq (W.region ?_)
      refine WL.val (Value.bool (decide ((k23 : Int) < ((r_Table).length : Int)))) _ (op_lss hf35 hf34) rfl ?_
      have hl38 : (k23 : Int) < ((r_Table).length : Int) := by omega
      refine WL.nil ?_
      refine W.seq ?_
      refine W.condT (decide ((k23 : Int) < ((r_Table).length : Int))) rfl (decide_eq_true hl38) ?_
      refine W.skip ?_
      refine W.seq ?_
      refine W.block ?_
      refine W.seq (W.region ?_)
      refine WL.val (Value.int .i64 (k23 : Int)) _ (op_move hf35) rfl ?_
      refine WL.val (Value.int .i64 (k23 : Int)) _ (op_assign rfl) rfl ?_
      refine WL.nil ?_
      refine W.seq (W.region ?_)
      refine WL.val (Value.pointer (some ⟨b1, 0, none⟩)) _ (op_fieldAddr fd_30_0 hf32) rfl ?_
      refine WL.val v_r_Table _ (op_load one_22 rfl (BoxAt.cell (BoxAt.lift (Ext.trans hE18 hS37.ext) hx6) rfl)) rfl ?_
      have hr40 := inR_len (Ty.lift _ (Ext.trans hE17 hS37.ext) r_r_Table)
      refine WL.val (Value.int .i64 ((r_Table).length : Int)) _ (op_lenL sl_22 (Ty.lift _ (Ext.trans hE17 hS37.ext) r_r_Table) rfl) rfl ?_
      refine WL.val (Value.int .i64 (0 : Int)) _ (op_move rfl) rfl ?_
      refine WL.nil ?_
      show W _ _ _ _ _ _
      obtain ⟨res41, hres42, hb28⟩ := bs hb28
      refine W.blockLoop (fun fq wq => ∃ s, res41 = Res.fin s ∧ fq 1 = (Value.pointer (some ⟨b1, 0, none⟩)) ∧ fq 3 = u11 ∧ fq 12 = (Value.int .i64 ((r_Table).length : Int)) ∧ fq 13 = (Value.int .i64 (k23 : Int)) ∧ St wd12 wq []) ?_ ?_
      · refine W.forN (fun k (s : Unit) fq wq => fq 1 = (Value.pointer (some ⟨b1, 0, none⟩)) ∧ fq 3 = u11 ∧ fq 4 = (Value.int .i64 (k23 : Int)) ∧ fq 12 = (Value.int .i64 ((r_Table).length : Int)) ∧ fq 13 = (Value.int .i64 (k23 : Int)) ∧ fq 18 = (Value.int .i64 ((r_Table).length : Int)) ∧ fq 19 = Value.int .i64 (k : Int) ∧ InR .i64 (k : Int) ∧ St wd12 wq []) hres42 ⟨hf32, hf33, rfl, hf34, hf35, rfl, rfl, (inL rfl), hS37⟩ ?_ ?_
        · intro k43 s826 ct44 f45 wd46 hk47 hb48 hI49 hbrk50 hret51
          obtain ⟨⟩ := s826
          replace hI49 : f45 1 = (Value.pointer (some ⟨b1, 0, none⟩)) ∧ f45 3 = u11 ∧ f45 4 = (Value.int .i64 (k23 : Int)) ∧ f45 12 = (Value.int .i64 ((r_Table).length : Int)) ∧ f45 13 = (Value.int .i64 (k23 : Int)) ∧ f45 18 = (Value.int .i64 ((r_Table).length : Int)) ∧ f45 19 = Value.int .i64 (k43 : Int) ∧ InR .i64 (k43 : Int) ∧ St wd12 wd46 [] := hI49
          replace hb48 : p_impl_Ring_turnFault_L2 r_Table k23 x9 k43  = some ct44 := hb48
          unfold p_impl_Ring_turnFault_L2 at hb48
          obtain ⟨hf52, hf53, hf54, hf55, hf56, hf57, hf58, hr59, hS60⟩ := hI49
          refine W.seq (W.region ?_)
          refine WL.val (Value.bool (decide ((k43 : Int) < ((r_Table).length : Int)))) _ (op_lss hf58 hf57) rfl ?_
          have hl61 : (k43 : Int) < ((r_Table).length : Int) := by omega
          refine WL.nil ?_
          refine W.seq ?_
          refine W.condT (decide ((k43 : Int) < ((r_Table).length : Int))) rfl (decide_eq_true hl61) ?_
          refine W.skip ?_
          refine W.seq ?_
          refine W.block ?_
          refine W.seq (W.region ?_)
          refine WL.val (Value.int .i64 (k43 : Int)) _ (op_move hf58) rfl ?_
          refine WL.val (Value.int .i64 (k43 : Int)) _ (op_assign rfl) rfl ?_
          refine WL.nil ?_
          refine W.seq (W.region ?_)
          refine WL.val (Value.pointer (some ⟨b1, 0, none⟩)) _ (op_fieldAddr fd_30_0 hf52) rfl ?_
          refine WL.val v_r_Table _ (op_load one_22 rfl (BoxAt.cell (BoxAt.lift (Ext.trans hE18 hS60.ext) hx6) rfl)) rfl ?_
          have hr63 := inR_len (Ty.lift _ (Ext.trans hE17 hS60.ext) r_r_Table)
          refine WL.val (Value.int .i64 ((r_Table).length : Int)) _ (op_lenL sl_22 (Ty.lift _ (Ext.trans hE17 hS60.ext) r_r_Table) rfl) rfl ?_
          refine WL.val (Value.int .i64 (0 : Int)) _ (op_move rfl) rfl ?_
          refine WL.nil ?_
          show W _ _ _ _ _ _
          obtain ⟨res64, hres65, hb48⟩ := bs hb48
          refine W.blockLoop (fun fq wq => ∃ s, res64 = Res.fin s ∧ fq 1 = (Value.pointer (some ⟨b1, 0, none⟩)) ∧ fq 3 = u11 ∧ fq 4 = (Value.int .i64 (k23 : Int)) ∧ fq 12 = (Value.int .i64 ((r_Table).length : Int)) ∧ fq 13 = (Value.int .i64 (k23 : Int)) ∧ fq 18 = (Value.int .i64 ((r_Table).length : Int)) ∧ fq 19 = (Value.int .i64 (k43 : Int)) ∧ St wd12 wq []) ?_ ?_
          · refine W.forN (fun k (s : Unit) fq wq => fq 1 = (Value.pointer (some ⟨b1, 0, none⟩)) ∧ fq 3 = u11 ∧ fq 4 = (Value.int .i64 (k23 : Int)) ∧ fq 5 = (Value.int .i64 (k43 : Int)) ∧ fq 12 = (Value.int .i64 ((r_Table).length : Int)) ∧ fq 13 = (Value.int .i64 (k23 : Int)) ∧ fq 18 = (Value.int .i64 ((r_Table).length : Int)) ∧ fq 19 = (Value.int .i64 (k43 : Int)) ∧ fq 24 = (Value.int .i64 ((r_Table).length : Int)) ∧ fq 25 = Value.int .i64 (k : Int) ∧ InR .i64 (k : Int) ∧ St wd12 wq []) hres65 ⟨hf52, hf53, hf54, rfl, hf55, hf56, hf57, hf58, rfl, rfl, (inL rfl), hS60⟩ ?_ ?_
            · intro k66 s794 ct67 f68 wd69 hk70 hb71 hI72 hbrk73 hret74
              obtain ⟨⟩ := s794
              replace hI72 : f68 1 = (Value.pointer (some ⟨b1, 0, none⟩)) ∧ f68 3 = u11 ∧ f68 4 = (Value.int .i64 (k23 : Int)) ∧ f68 5 = (Value.int .i64 (k43 : Int)) ∧ f68 12 = (Value.int .i64 ((r_Table).length : Int)) ∧ f68 13 = (Value.int .i64 (k23 : Int)) ∧ f68 18 = (Value.int .i64 ((r_Table).length : Int)) ∧ f68 19 = (Value.int .i64 (k43 : Int)) ∧ f68 24 = (Value.int .i64 ((r_Table).length : Int)) ∧ f68 25 = Value.int .i64 (k66 : Int) ∧ InR .i64 (k66 : Int) ∧ St wd12 wd69 [] := hI72
              replace hb71 : p_impl_Ring_turnFault_L3 r_Table k23 k43 x9 k66  = some ct67 := hb71
              unfold p_impl_Ring_turnFault_L3 at hb71
              obtain ⟨hf75, hf76, hf77, hf78, hf79, hf80, hf81, hf82, hf83, hf84, hr85, hS86⟩ := hI72
              refine W.seq (W.region ?_)
              refine WL.val (Value.bool (decide ((k66 : Int) < ((r_Table).length : Int)))) _ (op_lss hf84 hf83) rfl ?_
              have hl87 : (k66 : Int) < ((r_Table).length : Int) := by omega
              refine WL.nil ?_
              refine W.seq ?_
              refine W.condT (decide ((k66 : Int) < ((r_Table).length : Int))) rfl (decide_eq_true hl87) ?_
              refine W.skip ?_
              refine W.seq ?_
              refine W.block ?_
              refine W.seq (W.region ?_)
              refine WL.val (Value.int .i64 (k66 : Int)) _ (op_move hf84) rfl ?_
              refine WL.val (Value.int .i64 (k66 : Int)) _ (op_assign rfl) rfl ?_
              refine WL.nil ?_
              refine W.seq (W.region ?_)
              refine WL.val (Value.pointer (some ⟨b1, 0, none⟩)) _ (op_fieldAddr fd_30_0 hf75) rfl ?_
              refine WL.val v_r_Table _ (op_load one_22 rfl (BoxAt.cell (BoxAt.lift (Ext.trans hE18 hS86.ext) hx6) rfl)) rfl ?_
              refine WL.val (Value.int .i64 (k23 : Int)) _ (op_move hf77) rfl ?_
              obtain ⟨x89, hx92, hb71⟩ := bs hb71
              obtain ⟨ha90, hb91, hx92⟩ := idx_some hx92
              refine WL.val (Value.pointer (some (elA v_r_Table ((k23 : Int)).toNat))) _ (op_idx sl_22 (Ty.lift _ (Ext.trans hE17 hS86.ext) r_r_Table) rfl rfl ha90 hb91) rfl ?_
              obtain ⟨u93, hc94, hr95⟩ := repSl.el r_r_Table hx92
              refine WL.val u93 _ (op_load one_25 rfl (Ext.cell (Ext.trans hE17 hS86.ext) hc94)) rfl ?_
              refine WL.val (Value.int .i64 (k43 : Int)) _ (op_move hf78) rfl ?_
              obtain ⟨x96, hx99, hb71⟩ := bs hb71
              obtain ⟨ha97, hb98, hx99⟩ := idx_some hx99
              refine WL.val (Value.pointer (some (elA u93 ((k43 : Int)).toNat))) _ (op_idx sl_25 (Ty.lift _ (Ext.trans hE17 hS86.ext) hr95) rfl rfl ha97 hb98) rfl ?_
              obtain ⟨u100, hc101, hr102⟩ := repSl.el hr95 hx99
              refine WL.val u100 _ (op_load one_36 rfl (Ext.cell (Ext.trans hE17 hS86.ext) hc101)) rfl ?_
              refine WL.val (Value.int .i64 (k66 : Int)) _ (op_move rfl) rfl ?_
              obtain ⟨x103, hx106, hb71⟩ := bs hb71
              obtain ⟨ha104, hb105, hx106⟩ := idx_some hx106
              refine WL.val (Value.pointer (some (elA u100 ((k66 : Int)).toNat))) _ (op_idx sl_36 (Ty.lift _ (Ext.trans hE17 hS86.ext) hr102) rfl rfl ha104 hb105) rfl ?_
              obtain ⟨u107, hc108, hr109⟩ := repSl.el hr102 hx106
              obtain ⟨rfl, hr109⟩ := hr109
              refine WL.val (Value.int .i64 x103) _ (op_load one_2 rfl (Ext.cell (Ext.trans hE17 hS86.ext) hc108)) rfl ?_
              refine WL.val (Value.int .i64 x103) _ (op_assign rfl) rfl ?_
              refine WL.nil ?_
              refine W.seq ?_
              obtain ⟨x163, hx166, hb71⟩ := bs hb71
              obtain ⟨ha164, hb165, hx166⟩ := idx_some hx166
              obtain ⟨u177, hc178, hr179⟩ := repSl.el hb16 hx166
              obtain ⟨rfl, hr179⟩ := hr179
              obtain ⟨x195, hx198, hb71⟩ := bs hb71
              obtain ⟨ha196, hb197, hx198⟩ := idx_some hx198
              obtain ⟨u209, hc210, hr211⟩ := repSl.el r_r_Table hx198
              obtain ⟨x234, hx237, hb71⟩ := bs hb71
              obtain ⟨ha235, hb236, hx237⟩ := idx_some hx237
              obtain ⟨u248, hc249, hr250⟩ := repSl.el hr211 hx237
              obtain ⟨x273, hx276, hb71⟩ := bs hb71
              obtain ⟨ha274, hb275, hx276⟩ := idx_some hx276
              obtain ⟨u287, hc288, hr289⟩ := repSl.el hr250 hx276
              obtain ⟨rfl, hr289⟩ := hr289
              obtain ⟨x316, hj317, hb71⟩ := bs hb71
              refine W.cutCode (fun fq wq => fq 1 = (Value.pointer (some ⟨b1, 0, none⟩)) ∧ fq 3 = u11 ∧ fq 4 = (Value.int .i64 (k23 : Int)) ∧ fq 5 = (Value.int .i64 (k43 : Int)) ∧ fq 6 = (Value.int .i64 (k66 : Int)) ∧ fq 12 = (Value.int .i64 ((r_Table).length : Int)) ∧ fq 13 = (Value.int .i64 (k23 : Int)) ∧ fq 18 = (Value.int .i64 ((r_Table).length : Int)) ∧ fq 19 = (Value.int .i64 (k43 : Int)) ∧ fq 24 = (Value.int .i64 ((r_Table).length : Int)) ∧ fq 25 = (Value.int .i64 (k66 : Int)) ∧ fq 72 = Value.bool x316 ∧ St wd12 wq []) ?_ ?_
              · rcases Bool.eq_false_or_eq_true (x103 != x273) with hc318 | hc318
                · replace hj317 := ip hj317 hc318
                  refine W.drawR mixo 32 [] [fun _ v _ _ => v = (Value.int .i64 x103) ∧ InR .i64 x103, fun _ v _ _ => v = (Value.pointer (some ⟨b1, 0, none⟩)), fun _ v _ _ => v = v_r_Table, fun _ v _ _ => v = u11, fun _ v _ _ => v = (Value.int .i64 (k23 : Int)) ∧ InR .i64 (k23 : Int), fun _ v _ _ => v = (Value.pointer (some (elA u11 ((k23 : Int)).toNat))), fun _ v _ _ => v = (Value.int .i64 x163) ∧ InR .i64 x163, fun _ v _ _ => v = (Value.pointer (some (elA v_r_Table (x163).toNat))), fun _ v _ _ => v = u209, fun _ v _ _ => v = (Value.int .i64 (k66 : Int)) ∧ InR .i64 (k66 : Int), fun _ v _ _ => v = (Value.pointer (some (elA u209 ((k66 : Int)).toNat))), fun _ v _ _ => v = u248, fun _ v _ _ => v = (Value.int .i64 (k43 : Int)) ∧ InR .i64 (k43 : Int), fun _ v _ _ => v = (Value.pointer (some (elA u248 ((k43 : Int)).toNat))), fun _ v _ _ => v = (Value.int .i64 x273) ∧ InR .i64 x273, fun _ v _ _ => v = (Value.bool (x103 != x273)), fun _ v _ _ => v = (Value.bool (x103 != x273)), fun _ v _ _ => v = undef, fun _ v _ _ => v = undef, fun _ v _ _ => v = undef, fun _ v _ _ => v = undef, fun _ v _ _ => v = undef, fun _ v _ _ => v = undef, fun _ v _ _ => v = undef, fun _ v _ _ => v = undef, fun _ v _ _ => v = undef, fun _ v _ _ => v = undef, fun _ v _ _ => v = undef, fun _ v _ _ => v = undef, fun _ v _ _ => v = undef, fun _ v _ _ => v = undef, fun _ v _ _ => v = undef] (by kernel_rfl) (by kernel_rfl) ⟨pk, pk, pk, pk, pk, pk, pk, pk, pk, pk, pk, pk, pk, pk, pk, pk, pk, pk, pk, pk, pk, pk, pk, pk, pk, pk, pk, pk, pk, pk, pk, pk, trivial⟩ ⟨?_, ?_, ?_, ?_, ?_, ?_, ?_, ?_, ?_, ?_, ?_, ?_, ?_, ?_, ?_, ?_, ?_, ?_, ?_, ?_, ?_, ?_, ?_, ?_, ?_, ?_, ?_, ?_, ?_, ?_, ?_, ?_, trivial⟩ ?_
                  · refine ObX.op rfl fun f110 wd111 he112 hout113 hphi114 => ?_
                    have hS115 := St.extend hS86 he112
                    have e116 : f110 7 = (Value.int .i64 x103) := (hout113 7 rfl).trans rfl
                    exact OpX.val (Value.int .i64 x103) wd111 rfl (op_move e116) (Ext.refl _) ⟨rfl, hr109⟩
                  · refine ObX.op rfl fun f117 wd118 he119 hout120 hphi121 => ?_
                    have hS122 := St.extend hS86 he119
                    have e123 : f117 1 = (Value.pointer (some ⟨b1, 0, none⟩)) := (hout120 1 rfl).trans hf75
                    exact OpX.val (Value.pointer (some ⟨b1, 0, none⟩)) wd118 rfl (op_fieldAddr fd_30_0 e123) (Ext.refl _) rfl
                  · refine ObX.op rfl fun f124 wd125 he126 hout127 hphi128 => ?_
                    have hS129 := St.extend hS86 he126
                    obtain ⟨S130, hS131, hf132⟩ := hphi128 1 40 _ rfl rfl rfl
                    have e133 : f124 40 = (Value.pointer (some ⟨b1, 0, none⟩)) := hf132
                    exact OpX.val v_r_Table wd125 rfl (op_load one_22 e133 (BoxAt.cell (BoxAt.lift (Ext.trans hE18 hS129.ext) hx6) rfl)) (Ext.refl _) rfl
                  · refine ObX.op rfl fun f134 wd135 he136 hout137 hphi138 => ?_
                    have hS139 := St.extend hS86 he136
                    have e140 : f134 3 = u11 := (hout137 3 rfl).trans hf76
                    exact OpX.val u11 wd135 rfl (op_move e140) (Ext.refl _) rfl
                  · refine ObX.op rfl fun f141 wd142 he143 hout144 hphi145 => ?_
                    have hS146 := St.extend hS86 he143
                    have e147 : f141 4 = (Value.int .i64 (k23 : Int)) := (hout144 4 rfl).trans hf77
                    exact OpX.val (Value.int .i64 (k23 : Int)) wd142 rfl (op_move e147) (Ext.refl _) ⟨rfl, hr36⟩
                  · refine ObX.op rfl fun f148 wd149 he150 hout151 hphi152 => ?_
                    have hS153 := St.extend hS86 he150
                    obtain ⟨S154, hS155, hf156⟩ := hphi152 3 42 _ rfl rfl rfl
                    have e157 : f148 42 = u11 := hf156
                    obtain ⟨S158, hS159, hf160⟩ := hphi152 4 43 _ rfl rfl rfl
                    obtain ⟨e161, hr162⟩ := hf160
                    exact OpX.val (Value.pointer (some (elA u11 ((k23 : Int)).toNat))) wd149 rfl (op_idx sl_52 (Ty.lift _ hS153.ext hb16) e157 e161 ha164 hb165) (Ext.refl _) rfl
                  · refine ObX.op rfl fun f167 wd168 he169 hout170 hphi171 => ?_
                    have hS172 := St.extend hS86 he169
                    obtain ⟨S173, hS174, hf175⟩ := hphi171 5 44 _ rfl rfl rfl
                    have e176 : f167 44 = (Value.pointer (some (elA u11 ((k23 : Int)).toNat))) := hf175
                    exact OpX.val (Value.int .i64 x163) wd168 rfl (op_load one_3 e176 (Ext.cell hS172.ext hc178)) (Ext.refl _) ⟨rfl, hr179⟩
                  · refine ObX.op rfl fun f180 wd181 he182 hout183 hphi184 => ?_
                    have hS185 := St.extend hS86 he182
                    obtain ⟨S186, hS187, hf188⟩ := hphi184 2 41 _ rfl rfl rfl
                    have e189 : f180 41 = v_r_Table := hf188
                    obtain ⟨S190, hS191, hf192⟩ := hphi184 6 45 _ rfl rfl rfl
                    obtain ⟨e193, hr194⟩ := hf192
                    exact OpX.val (Value.pointer (some (elA v_r_Table (x163).toNat))) wd181 rfl (op_idx sl_22 (Ty.lift _ (Ext.trans hE17 hS185.ext) r_r_Table) e189 e193 ha196 hb197) (Ext.refl _) rfl
                  · refine ObX.op rfl fun f199 wd200 he201 hout202 hphi203 => ?_
                    have hS204 := St.extend hS86 he201
                    obtain ⟨S205, hS206, hf207⟩ := hphi203 7 46 _ rfl rfl rfl
                    have e208 : f199 46 = (Value.pointer (some (elA v_r_Table (x163).toNat))) := hf207
                    exact OpX.val u209 wd200 rfl (op_load one_25 e208 (Ext.cell (Ext.trans hE17 hS204.ext) hc210)) (Ext.refl _) rfl
                  · refine ObX.op rfl fun f212 wd213 he214 hout215 hphi216 => ?_
                    have hS217 := St.extend hS86 he214
                    have e218 : f212 6 = (Value.int .i64 (k66 : Int)) := (hout215 6 rfl).trans rfl
                    exact OpX.val (Value.int .i64 (k66 : Int)) wd213 rfl (op_move e218) (Ext.refl _) ⟨rfl, hr85⟩
                  · refine ObX.op rfl fun f219 wd220 he221 hout222 hphi223 => ?_
                    have hS224 := St.extend hS86 he221
                    obtain ⟨S225, hS226, hf227⟩ := hphi223 8 47 _ rfl rfl rfl
                    have e228 : f219 47 = u209 := hf227
                    obtain ⟨S229, hS230, hf231⟩ := hphi223 9 48 _ rfl rfl rfl
                    obtain ⟨e232, hr233⟩ := hf231
                    exact OpX.val (Value.pointer (some (elA u209 ((k66 : Int)).toNat))) wd220 rfl (op_idx sl_25 (Ty.lift _ (Ext.trans hE17 hS224.ext) hr211) e228 e232 ha235 hb236) (Ext.refl _) rfl
                  · refine ObX.op rfl fun f238 wd239 he240 hout241 hphi242 => ?_
                    have hS243 := St.extend hS86 he240
                    obtain ⟨S244, hS245, hf246⟩ := hphi242 10 49 _ rfl rfl rfl
                    have e247 : f238 49 = (Value.pointer (some (elA u209 ((k66 : Int)).toNat))) := hf246
                    exact OpX.val u248 wd239 rfl (op_load one_36 e247 (Ext.cell (Ext.trans hE17 hS243.ext) hc249)) (Ext.refl _) rfl
                  · refine ObX.op rfl fun f251 wd252 he253 hout254 hphi255 => ?_
                    have hS256 := St.extend hS86 he253
                    have e257 : f251 5 = (Value.int .i64 (k43 : Int)) := (hout254 5 rfl).trans hf78
                    exact OpX.val (Value.int .i64 (k43 : Int)) wd252 rfl (op_move e257) (Ext.refl _) ⟨rfl, hr59⟩
                  · refine ObX.op rfl fun f258 wd259 he260 hout261 hphi262 => ?_
                    have hS263 := St.extend hS86 he260
                    obtain ⟨S264, hS265, hf266⟩ := hphi262 11 50 _ rfl rfl rfl
                    have e267 : f258 50 = u248 := hf266
                    obtain ⟨S268, hS269, hf270⟩ := hphi262 12 51 _ rfl rfl rfl
                    obtain ⟨e271, hr272⟩ := hf270
                    exact OpX.val (Value.pointer (some (elA u248 ((k43 : Int)).toNat))) wd259 rfl (op_idx sl_36 (Ty.lift _ (Ext.trans hE17 hS263.ext) hr250) e267 e271 ha274 hb275) (Ext.refl _) rfl
                  · refine ObX.op rfl fun f277 wd278 he279 hout280 hphi281 => ?_
                    have hS282 := St.extend hS86 he279
                    obtain ⟨S283, hS284, hf285⟩ := hphi281 13 52 _ rfl rfl rfl
                    have e286 : f277 52 = (Value.pointer (some (elA u248 ((k43 : Int)).toNat))) := hf285
                    exact OpX.val (Value.int .i64 x273) wd278 rfl (op_load one_2 e286 (Ext.cell (Ext.trans hE17 hS282.ext) hc288)) (Ext.refl _) ⟨rfl, hr289⟩
                  · refine ObX.op rfl fun f290 wd291 he292 hout293 hphi294 => ?_
                    have hS295 := St.extend hS86 he292
                    obtain ⟨S296, hS297, hf298⟩ := hphi294 0 39 _ rfl rfl rfl
                    obtain ⟨e299, hr300⟩ := hf298
                    obtain ⟨S301, hS302, hf303⟩ := hphi294 14 53 _ rfl rfl rfl
                    obtain ⟨e304, hr305⟩ := hf303
                    exact OpX.val (Value.bool (x103 != x273)) wd291 rfl (op_neq e299 e304) (Ext.refl _) rfl
                  · refine ObX.op rfl fun f306 wd307 he308 hout309 hphi310 => ?_
                    have hS311 := St.extend hS86 he308
                    obtain ⟨S312, hS313, hf314⟩ := hphi310 15 54 _ rfl rfl rfl
                    have e315 : f306 54 = (Value.bool (x103 != x273)) := hf314
                    exact OpX.val (Value.bool (x103 != x273)) wd307 rfl (op_move e315) (Ext.refl _) rfl
                  · refine ObX.op rfl fun f319 wd320 he321 hout322 hphi323 => ?_
                    obtain ⟨S324, hS325, hf326⟩ := hphi323 16 55 _ rfl rfl rfl
                    have e327 : f319 55 = (Value.bool (x103 != x273)) := hf326
                    exact OpX.skip (wanted_skip rfl rfl e327 hc318) rfl
                  · refine ObX.op rfl fun f328 wd329 he330 hout331 hphi332 => ?_
                    obtain ⟨S333, hS334, hf335⟩ := hphi332 16 55 _ rfl rfl rfl
                    have e336 : f328 55 = (Value.bool (x103 != x273)) := hf335
                    exact OpX.skip (wanted_skip rfl rfl e336 hc318) rfl
                  · refine ObX.op rfl fun f337 wd338 he339 hout340 hphi341 => ?_
                    obtain ⟨S342, hS343, hf344⟩ := hphi341 16 55 _ rfl rfl rfl
                    have e345 : f337 55 = (Value.bool (x103 != x273)) := hf344
                    exact OpX.skip (wanted_skip rfl rfl e345 hc318) rfl
                  · refine ObX.op rfl fun f346 wd347 he348 hout349 hphi350 => ?_
                    obtain ⟨S351, hS352, hf353⟩ := hphi350 16 55 _ rfl rfl rfl
                    have e354 : f346 55 = (Value.bool (x103 != x273)) := hf353
                    exact OpX.skip (wanted_skip rfl rfl e354 hc318) rfl
                  · refine ObX.op rfl fun f355 wd356 he357 hout358 hphi359 => ?_
                    obtain ⟨S360, hS361, hf362⟩ := hphi359 16 55 _ rfl rfl rfl
                    have e363 : f355 55 = (Value.bool (x103 != x273)) := hf362
                    exact OpX.skip (wanted_skip rfl rfl e363 hc318) rfl
                  · refine ObX.op rfl fun f364 wd365 he366 hout367 hphi368 => ?_
                    obtain ⟨S369, hS370, hf371⟩ := hphi368 16 55 _ rfl rfl rfl
                    have e372 : f364 55 = (Value.bool (x103 != x273)) := hf371
                    exact OpX.skip (wanted_skip rfl rfl e372 hc318) rfl
                  · refine ObX.op rfl fun f373 wd374 he375 hout376 hphi377 => ?_
                    obtain ⟨S378, hS379, hf380⟩ := hphi377 16 55 _ rfl rfl rfl
                    have e381 : f373 55 = (Value.bool (x103 != x273)) := hf380
                    exact OpX.skip (wanted_skip rfl rfl e381 hc318) rfl
                  · refine ObX.op rfl fun f382 wd383 he384 hout385 hphi386 => ?_
                    obtain ⟨S387, hS388, hf389⟩ := hphi386 16 55 _ rfl rfl rfl
                    have e390 : f382 55 = (Value.bool (x103 != x273)) := hf389
                    exact OpX.skip (wanted_skip rfl rfl e390 hc318) rfl
                  · refine ObX.op rfl fun f391 wd392 he393 hout394 hphi395 => ?_
                    obtain ⟨S396, hS397, hf398⟩ := hphi395 16 55 _ rfl rfl rfl
                    have e399 : f391 55 = (Value.bool (x103 != x273)) := hf398
                    exact OpX.skip (wanted_skip rfl rfl e399 hc318) rfl
                  · refine ObX.op rfl fun f400 wd401 he402 hout403 hphi404 => ?_
                    obtain ⟨S405, hS406, hf407⟩ := hphi404 16 55 _ rfl rfl rfl
                    have e408 : f400 55 = (Value.bool (x103 != x273)) := hf407
                    exact OpX.skip (wanted_skip rfl rfl e408 hc318) rfl
                  · refine ObX.op rfl fun f409 wd410 he411 hout412 hphi413 => ?_
                    obtain ⟨S414, hS415, hf416⟩ := hphi413 16 55 _ rfl rfl rfl
                    have e417 : f409 55 = (Value.bool (x103 != x273)) := hf416
                    exact OpX.skip (wanted_skip rfl rfl e417 hc318) rfl
                  · refine ObX.op rfl fun f418 wd419 he420 hout421 hphi422 => ?_
                    obtain ⟨S423, hS424, hf425⟩ := hphi422 16 55 _ rfl rfl rfl
                    have e426 : f418 55 = (Value.bool (x103 != x273)) := hf425
                    exact OpX.skip (wanted_skip rfl rfl e426 hc318) rfl
                  · refine ObX.op rfl fun f427 wd428 he429 hout430 hphi431 => ?_
                    obtain ⟨S432, hS433, hf434⟩ := hphi431 16 55 _ rfl rfl rfl
                    have e435 : f427 55 = (Value.bool (x103 != x273)) := hf434
                    exact OpX.skip (wanted_skip rfl rfl e435 hc318) rfl
                  · refine ObX.op rfl fun f436 wd437 he438 hout439 hphi440 => ?_
                    obtain ⟨S441, hS442, hf443⟩ := hphi440 16 55 _ rfl rfl rfl
                    have e444 : f436 55 = (Value.bool (x103 != x273)) := hf443
                    exact OpX.skip (wanted_skip rfl rfl e444 hc318) rfl
                  · refine ObX.op rfl fun f445 wd446 he447 hout448 hphi449 => ?_
                    obtain ⟨S450, hS451, hf452⟩ := hphi449 16 55 _ rfl rfl rfl
                    have e453 : f445 55 = (Value.bool (x103 != x273)) := hf452
                    exact OpX.skip (wanted_skip rfl rfl e453 hc318) rfl
                  · intro f454 wd455 Ss456 he457 hout458 hSn459 hSd460 hphi461
                    show WL _ _ _ _ _ _ _
                    have hS462 := St.extend hS86 he457
                    have e463 : f454 55 = (Value.bool (x103 != x273)) := hphi461 16 55 _ (by decide) rfl rfl
                    have e479 : f454 1 = (Value.pointer (some ⟨b1, 0, none⟩)) := (hout458 1 rfl).trans hf75
                    have e480 : f454 3 = u11 := (hout458 3 rfl).trans hf76
                    have e481 : f454 4 = (Value.int .i64 (k23 : Int)) := (hout458 4 rfl).trans hf77
                    have e482 : f454 5 = (Value.int .i64 (k43 : Int)) := (hout458 5 rfl).trans hf78
                    have e483 : f454 6 = (Value.int .i64 (k66 : Int)) := (hout458 6 rfl).trans rfl
                    have e484 : f454 12 = (Value.int .i64 ((r_Table).length : Int)) := (hout458 12 rfl).trans hf79
                    have e485 : f454 13 = (Value.int .i64 (k23 : Int)) := (hout458 13 rfl).trans hf80
                    have e486 : f454 18 = (Value.int .i64 ((r_Table).length : Int)) := (hout458 18 rfl).trans hf81
                    have e487 : f454 19 = (Value.int .i64 (k43 : Int)) := (hout458 19 rfl).trans hf82
                    have e488 : f454 24 = (Value.int .i64 ((r_Table).length : Int)) := (hout458 24 rfl).trans hf83
                    have e489 : f454 25 = (Value.int .i64 (k66 : Int)) := (hout458 25 rfl).trans hf84
                    refine WL.gskip rfl (bool_of e463 hc318) rfl ?_
                    refine WL.val (Value.bool true) _ (op_pick_t (evb_of e463 hc318) rfl) rfl ?_
                    refine WL.nil ?_
                    obtain rfl := Option.some.inj hj317
                    exact ⟨e479, e480, e481, e482, e483, e484, e485, e486, e487, e488, e489, rfl, hS462⟩
                · replace hj317 := inegb hj317 hc318
                  obtain ⟨x556, hx559, hj317⟩ := bs hj317
                  obtain ⟨ha557, hb558, hx559⟩ := idx_some hx559
                  obtain ⟨u574, hc575, hr576⟩ := repSl.el r_r_Table hx559
                  obtain ⟨x618, hx621, hj317⟩ := bs hj317
                  obtain ⟨ha619, hb620, hx621⟩ := idx_some hx621
                  obtain ⟨u636, hc637, hr638⟩ := repSl.el hb16 hx621
                  obtain ⟨rfl, hr638⟩ := hr638
                  obtain ⟨x658, hx661, hj317⟩ := bs hj317
                  obtain ⟨ha659, hb660, hx661⟩ := idx_some hx661
                  obtain ⟨u676, hc677, hr678⟩ := repSl.el hr576 hx661
                  obtain ⟨x709, hx712, hj317⟩ := bs hj317
                  obtain ⟨ha710, hb711, hx712⟩ := idx_some hx712
                  obtain ⟨u727, hc728, hr729⟩ := repSl.el hr678 hx712
                  obtain ⟨rfl, hr729⟩ := hr729
                  refine W.drawR mixo 32 [] [fun _ v _ _ => v = (Value.int .i64 x103) ∧ InR .i64 x103, fun _ v _ _ => v = (Value.pointer (some ⟨b1, 0, none⟩)), fun _ v _ _ => v = v_r_Table, fun _ v _ _ => v = u11, fun _ v _ _ => v = (Value.int .i64 (k23 : Int)) ∧ InR .i64 (k23 : Int), fun _ v _ _ => v = (Value.pointer (some (elA u11 ((k23 : Int)).toNat))), fun _ v _ _ => v = (Value.int .i64 x163) ∧ InR .i64 x163, fun _ v _ _ => v = (Value.pointer (some (elA v_r_Table (x163).toNat))), fun _ v _ _ => v = u209, fun _ v _ _ => v = (Value.int .i64 (k66 : Int)) ∧ InR .i64 (k66 : Int), fun _ v _ _ => v = (Value.pointer (some (elA u209 ((k66 : Int)).toNat))), fun _ v _ _ => v = u248, fun _ v _ _ => v = (Value.int .i64 (k43 : Int)) ∧ InR .i64 (k43 : Int), fun _ v _ _ => v = (Value.pointer (some (elA u248 ((k43 : Int)).toNat))), fun _ v _ _ => v = (Value.int .i64 x273) ∧ InR .i64 x273, fun _ v _ _ => v = (Value.bool (x103 != x273)), fun _ v _ _ => v = (Value.bool (x103 != x273)), fun _ v _ _ => v = (Value.int .i64 x103) ∧ InR .i64 x103, fun _ v _ _ => v = (Value.pointer (some ⟨b1, 0, none⟩)), fun _ v _ _ => v = v_r_Table, fun _ v _ _ => v = (Value.int .i64 (k66 : Int)) ∧ InR .i64 (k66 : Int), fun _ v _ _ => v = (Value.pointer (some (elA v_r_Table ((k66 : Int)).toNat))), fun _ v _ _ => v = u574, fun _ v _ _ => v = u11, fun _ v _ _ => v = (Value.int .i64 (k43 : Int)) ∧ InR .i64 (k43 : Int), fun _ v _ _ => v = (Value.pointer (some (elA u11 ((k43 : Int)).toNat))), fun _ v _ _ => v = (Value.int .i64 x618) ∧ InR .i64 x618, fun _ v _ _ => v = (Value.pointer (some (elA u574 (x618).toNat))), fun _ v _ _ => v = u676, fun _ v _ _ => v = (Value.int .i64 (k23 : Int)) ∧ InR .i64 (k23 : Int), fun _ v _ _ => v = (Value.pointer (some (elA u676 ((k23 : Int)).toNat))), fun _ v _ _ => v = (Value.int .i64 x709) ∧ InR .i64 x709] (by kernel_rfl) (by kernel_rfl) ⟨pk, pk, pk, pk, pk, pk, pk, pk, pk, pk, pk, pk, pk, pk, pk, pk, pk, pk, pk, pk, pk, pk, pk, pk, pk, pk, pk, pk, pk, pk, pk, pk, trivial⟩ ⟨?_, ?_, ?_, ?_, ?_, ?_, ?_, ?_, ?_, ?_, ?_, ?_, ?_, ?_, ?_, ?_, ?_, ?_, ?_, ?_, ?_, ?_, ?_, ?_, ?_, ?_, ?_, ?_, ?_, ?_, ?_, ?_, trivial⟩ ?_
                  · refine ObX.op rfl fun f110 wd111 he112 hout113 hphi114 => ?_
                    have hS115 := St.extend hS86 he112
                    have e116 : f110 7 = (Value.int .i64 x103) := (hout113 7 rfl).trans rfl
                    exact OpX.val (Value.int .i64 x103) wd111 rfl (op_move e116) (Ext.refl _) ⟨rfl, hr109⟩
                  · refine ObX.op rfl fun f117 wd118 he119 hout120 hphi121 => ?_
                    have hS122 := St.extend hS86 he119
                    have e123 : f117 1 = (Value.pointer (some ⟨b1, 0, none⟩)) := (hout120 1 rfl).trans hf75
                    exact OpX.val (Value.pointer (some ⟨b1, 0, none⟩)) wd118 rfl (op_fieldAddr fd_30_0 e123) (Ext.refl _) rfl
                  · refine ObX.op rfl fun f124 wd125 he126 hout127 hphi128 => ?_
                    have hS129 := St.extend hS86 he126
                    obtain ⟨S130, hS131, hf132⟩ := hphi128 1 40 _ rfl rfl rfl
                    have e133 : f124 40 = (Value.pointer (some ⟨b1, 0, none⟩)) := hf132
                    exact OpX.val v_r_Table wd125 rfl (op_load one_22 e133 (BoxAt.cell (BoxAt.lift (Ext.trans hE18 hS129.ext) hx6) rfl)) (Ext.refl _) rfl
                  · refine ObX.op rfl fun f134 wd135 he136 hout137 hphi138 => ?_
                    have hS139 := St.extend hS86 he136
                    have e140 : f134 3 = u11 := (hout137 3 rfl).trans hf76
                    exact OpX.val u11 wd135 rfl (op_move e140) (Ext.refl _) rfl
                  · refine ObX.op rfl fun f141 wd142 he143 hout144 hphi145 => ?_
                    have hS146 := St.extend hS86 he143
                    have e147 : f141 4 = (Value.int .i64 (k23 : Int)) := (hout144 4 rfl).trans hf77
                    exact OpX.val (Value.int .i64 (k23 : Int)) wd142 rfl (op_move e147) (Ext.refl _) ⟨rfl, hr36⟩
                  · refine ObX.op rfl fun f148 wd149 he150 hout151 hphi152 => ?_
                    have hS153 := St.extend hS86 he150
                    obtain ⟨S154, hS155, hf156⟩ := hphi152 3 42 _ rfl rfl rfl
                    have e157 : f148 42 = u11 := hf156
                    obtain ⟨S158, hS159, hf160⟩ := hphi152 4 43 _ rfl rfl rfl
                    obtain ⟨e161, hr162⟩ := hf160
                    exact OpX.val (Value.pointer (some (elA u11 ((k23 : Int)).toNat))) wd149 rfl (op_idx sl_52 (Ty.lift _ hS153.ext hb16) e157 e161 ha164 hb165) (Ext.refl _) rfl
                  · refine ObX.op rfl fun f167 wd168 he169 hout170 hphi171 => ?_
                    have hS172 := St.extend hS86 he169
                    obtain ⟨S173, hS174, hf175⟩ := hphi171 5 44 _ rfl rfl rfl
                    have e176 : f167 44 = (Value.pointer (some (elA u11 ((k23 : Int)).toNat))) := hf175
                    exact OpX.val (Value.int .i64 x163) wd168 rfl (op_load one_3 e176 (Ext.cell hS172.ext hc178)) (Ext.refl _) ⟨rfl, hr179⟩
                  · refine ObX.op rfl fun f180 wd181 he182 hout183 hphi184 => ?_
                    have hS185 := St.extend hS86 he182
                    obtain ⟨S186, hS187, hf188⟩ := hphi184 2 41 _ rfl rfl rfl
                    have e189 : f180 41 = v_r_Table := hf188
                    obtain ⟨S190, hS191, hf192⟩ := hphi184 6 45 _ rfl rfl rfl
                    obtain ⟨e193, hr194⟩ := hf192
                    exact OpX.val (Value.pointer (some (elA v_r_Table (x163).toNat))) wd181 rfl (op_idx sl_22 (Ty.lift _ (Ext.trans hE17 hS185.ext) r_r_Table) e189 e193 ha196 hb197) (Ext.refl _) rfl
                  · refine ObX.op rfl fun f199 wd200 he201 hout202 hphi203 => ?_
                    have hS204 := St.extend hS86 he201
                    obtain ⟨S205, hS206, hf207⟩ := hphi203 7 46 _ rfl rfl rfl
                    have e208 : f199 46 = (Value.pointer (some (elA v_r_Table (x163).toNat))) := hf207
                    exact OpX.val u209 wd200 rfl (op_load one_25 e208 (Ext.cell (Ext.trans hE17 hS204.ext) hc210)) (Ext.refl _) rfl
                  · refine ObX.op rfl fun f212 wd213 he214 hout215 hphi216 => ?_
                    have hS217 := St.extend hS86 he214
                    have e218 : f212 6 = (Value.int .i64 (k66 : Int)) := (hout215 6 rfl).trans rfl
                    exact OpX.val (Value.int .i64 (k66 : Int)) wd213 rfl (op_move e218) (Ext.refl _) ⟨rfl, hr85⟩
                  · refine ObX.op rfl fun f219 wd220 he221 hout222 hphi223 => ?_
                    have hS224 := St.extend hS86 he221
                    obtain ⟨S225, hS226, hf227⟩ := hphi223 8 47 _ rfl rfl rfl
                    have e228 : f219 47 = u209 := hf227
                    obtain ⟨S229, hS230, hf231⟩ := hphi223 9 48 _ rfl rfl rfl
                    obtain ⟨e232, hr233⟩ := hf231
                    exact OpX.val (Value.pointer (some (elA u209 ((k66 : Int)).toNat))) wd220 rfl (op_idx sl_25 (Ty.lift _ (Ext.trans hE17 hS224.ext) hr211) e228 e232 ha235 hb236) (Ext.refl _) rfl
                  · refine ObX.op rfl fun f238 wd239 he240 hout241 hphi242 => ?_
                    have hS243 := St.extend hS86 he240
                    obtain ⟨S244, hS245, hf246⟩ := hphi242 10 49 _ rfl rfl rfl
                    have e247 : f238 49 = (Value.pointer (some (elA u209 ((k66 : Int)).toNat))) := hf246
                    exact OpX.val u248 wd239 rfl (op_load one_36 e247 (Ext.cell (Ext.trans hE17 hS243.ext) hc249)) (Ext.refl _) rfl
                  · refine ObX.op rfl fun f251 wd252 he253 hout254 hphi255 => ?_
                    have hS256 := St.extend hS86 he253
                    have e257 : f251 5 = (Value.int .i64 (k43 : Int)) := (hout254 5 rfl).trans hf78
                    exact OpX.val (Value.int .i64 (k43 : Int)) wd252 rfl (op_move e257) (Ext.refl _) ⟨rfl, hr59⟩
                  · refine ObX.op rfl fun f258 wd259 he260 hout261 hphi262 => ?_
                    have hS263 := St.extend hS86 he260
                    obtain ⟨S264, hS265, hf266⟩ := hphi262 11 50 _ rfl rfl rfl
                    have e267 : f258 50 = u248 := hf266
                    obtain ⟨S268, hS269, hf270⟩ := hphi262 12 51 _ rfl rfl rfl
                    obtain ⟨e271, hr272⟩ := hf270
                    exact OpX.val (Value.pointer (some (elA u248 ((k43 : Int)).toNat))) wd259 rfl (op_idx sl_36 (Ty.lift _ (Ext.trans hE17 hS263.ext) hr250) e267 e271 ha274 hb275) (Ext.refl _) rfl
                  · refine ObX.op rfl fun f277 wd278 he279 hout280 hphi281 => ?_
                    have hS282 := St.extend hS86 he279
                    obtain ⟨S283, hS284, hf285⟩ := hphi281 13 52 _ rfl rfl rfl
                    have e286 : f277 52 = (Value.pointer (some (elA u248 ((k43 : Int)).toNat))) := hf285
                    exact OpX.val (Value.int .i64 x273) wd278 rfl (op_load one_2 e286 (Ext.cell (Ext.trans hE17 hS282.ext) hc288)) (Ext.refl _) ⟨rfl, hr289⟩
                  · refine ObX.op rfl fun f290 wd291 he292 hout293 hphi294 => ?_
                    have hS295 := St.extend hS86 he292
                    obtain ⟨S296, hS297, hf298⟩ := hphi294 0 39 _ rfl rfl rfl
                    obtain ⟨e299, hr300⟩ := hf298
                    obtain ⟨S301, hS302, hf303⟩ := hphi294 14 53 _ rfl rfl rfl
                    obtain ⟨e304, hr305⟩ := hf303
                    exact OpX.val (Value.bool (x103 != x273)) wd291 rfl (op_neq e299 e304) (Ext.refl _) rfl
                  · refine ObX.op rfl fun f306 wd307 he308 hout309 hphi310 => ?_
                    have hS311 := St.extend hS86 he308
                    obtain ⟨S312, hS313, hf314⟩ := hphi310 15 54 _ rfl rfl rfl
                    have e315 : f306 54 = (Value.bool (x103 != x273)) := hf314
                    exact OpX.val (Value.bool (x103 != x273)) wd307 rfl (op_move e315) (Ext.refl _) rfl
                  · refine ObX.op rfl fun f490 wd491 he492 hout493 hphi494 => ?_
                    have e496 : f490 7 = (Value.int .i64 x103) := (hout493 7 rfl).trans rfl
                    obtain ⟨S497, hS498, hf499⟩ := hphi494 16 55 _ rfl rfl rfl
                    have e500 : f490 55 = (Value.bool (x103 != x273)) := hf499
                    exact OpX.val (Value.int .i64 x103) wd491 (wanted_run rfl rfl e500 hc318) (op_move e496) (Ext.refl _) ⟨rfl, hr109⟩
                  · refine ObX.op rfl fun f501 wd502 he503 hout504 hphi505 => ?_
                    have e507 : f501 1 = (Value.pointer (some ⟨b1, 0, none⟩)) := (hout504 1 rfl).trans hf75
                    obtain ⟨S508, hS509, hf510⟩ := hphi505 16 55 _ rfl rfl rfl
                    have e511 : f501 55 = (Value.bool (x103 != x273)) := hf510
                    exact OpX.val (Value.pointer (some ⟨b1, 0, none⟩)) wd502 (wanted_run rfl rfl e511 hc318) (op_fieldAddr fd_30_0 e507) (Ext.refl _) rfl
                  · refine ObX.op rfl fun f512 wd513 he514 hout515 hphi516 => ?_
                    have hS517 := St.extend hS86 he514
                    obtain ⟨S518, hS519, hf520⟩ := hphi516 16 55 _ rfl rfl rfl
                    have e521 : f512 55 = (Value.bool (x103 != x273)) := hf520
                    obtain ⟨S522, hS523, hf524⟩ := hphi516 18 57 _ rfl rfl rfl
                    have e525 : f512 57 = (Value.pointer (some ⟨b1, 0, none⟩)) := hf524
                    exact OpX.val v_r_Table wd513 (wanted_run rfl rfl e521 hc318) (op_load one_22 e525 (BoxAt.cell (BoxAt.lift (Ext.trans hE18 hS517.ext) hx6) rfl)) (Ext.refl _) rfl
                  · refine ObX.op rfl fun f526 wd527 he528 hout529 hphi530 => ?_
                    have e532 : f526 6 = (Value.int .i64 (k66 : Int)) := (hout529 6 rfl).trans rfl
                    obtain ⟨S533, hS534, hf535⟩ := hphi530 16 55 _ rfl rfl rfl
                    have e536 : f526 55 = (Value.bool (x103 != x273)) := hf535
                    exact OpX.val (Value.int .i64 (k66 : Int)) wd527 (wanted_run rfl rfl e536 hc318) (op_move e532) (Ext.refl _) ⟨rfl, hr85⟩
                  · refine ObX.op rfl fun f537 wd538 he539 hout540 hphi541 => ?_
                    have hS542 := St.extend hS86 he539
                    obtain ⟨S543, hS544, hf545⟩ := hphi541 16 55 _ rfl rfl rfl
                    have e546 : f537 55 = (Value.bool (x103 != x273)) := hf545
                    obtain ⟨S547, hS548, hf549⟩ := hphi541 19 58 _ rfl rfl rfl
                    have e550 : f537 58 = v_r_Table := hf549
                    obtain ⟨S551, hS552, hf553⟩ := hphi541 20 59 _ rfl rfl rfl
                    obtain ⟨e554, hr555⟩ := hf553
                    exact OpX.val (Value.pointer (some (elA v_r_Table ((k66 : Int)).toNat))) wd538 (wanted_run rfl rfl e546 hc318) (op_idx sl_22 (Ty.lift _ (Ext.trans hE17 hS542.ext) r_r_Table) e550 e554 ha557 hb558) (Ext.refl _) rfl
                  · refine ObX.op rfl fun f560 wd561 he562 hout563 hphi564 => ?_
                    have hS565 := St.extend hS86 he562
                    obtain ⟨S566, hS567, hf568⟩ := hphi564 16 55 _ rfl rfl rfl
                    have e569 : f560 55 = (Value.bool (x103 != x273)) := hf568
                    obtain ⟨S570, hS571, hf572⟩ := hphi564 21 60 _ rfl rfl rfl
                    have e573 : f560 60 = (Value.pointer (some (elA v_r_Table ((k66 : Int)).toNat))) := hf572
                    exact OpX.val u574 wd561 (wanted_run rfl rfl e569 hc318) (op_load one_25 e573 (Ext.cell (Ext.trans hE17 hS565.ext) hc575)) (Ext.refl _) rfl
                  · refine ObX.op rfl fun f577 wd578 he579 hout580 hphi581 => ?_
                    have e583 : f577 3 = u11 := (hout580 3 rfl).trans hf76
                    obtain ⟨S584, hS585, hf586⟩ := hphi581 16 55 _ rfl rfl rfl
                    have e587 : f577 55 = (Value.bool (x103 != x273)) := hf586
                    exact OpX.val u11 wd578 (wanted_run rfl rfl e587 hc318) (op_move e583) (Ext.refl _) rfl
                  · refine ObX.op rfl fun f588 wd589 he590 hout591 hphi592 => ?_
                    have e594 : f588 5 = (Value.int .i64 (k43 : Int)) := (hout591 5 rfl).trans hf78
                    obtain ⟨S595, hS596, hf597⟩ := hphi592 16 55 _ rfl rfl rfl
                    have e598 : f588 55 = (Value.bool (x103 != x273)) := hf597
                    exact OpX.val (Value.int .i64 (k43 : Int)) wd589 (wanted_run rfl rfl e598 hc318) (op_move e594) (Ext.refl _) ⟨rfl, hr59⟩
                  · refine ObX.op rfl fun f599 wd600 he601 hout602 hphi603 => ?_
                    have hS604 := St.extend hS86 he601
                    obtain ⟨S605, hS606, hf607⟩ := hphi603 16 55 _ rfl rfl rfl
                    have e608 : f599 55 = (Value.bool (x103 != x273)) := hf607
                    obtain ⟨S609, hS610, hf611⟩ := hphi603 23 62 _ rfl rfl rfl
                    have e612 : f599 62 = u11 := hf611
                    obtain ⟨S613, hS614, hf615⟩ := hphi603 24 63 _ rfl rfl rfl
                    obtain ⟨e616, hr617⟩ := hf615
                    exact OpX.val (Value.pointer (some (elA u11 ((k43 : Int)).toNat))) wd600 (wanted_run rfl rfl e608 hc318) (op_idx sl_52 (Ty.lift _ hS604.ext hb16) e612 e616 ha619 hb620) (Ext.refl _) rfl
                  · refine ObX.op rfl fun f622 wd623 he624 hout625 hphi626 => ?_
                    have hS627 := St.extend hS86 he624
                    obtain ⟨S628, hS629, hf630⟩ := hphi626 16 55 _ rfl rfl rfl
                    have e631 : f622 55 = (Value.bool (x103 != x273)) := hf630
                    obtain ⟨S632, hS633, hf634⟩ := hphi626 25 64 _ rfl rfl rfl
                    have e635 : f622 64 = (Value.pointer (some (elA u11 ((k43 : Int)).toNat))) := hf634
                    exact OpX.val (Value.int .i64 x618) wd623 (wanted_run rfl rfl e631 hc318) (op_load one_3 e635 (Ext.cell hS627.ext hc637)) (Ext.refl _) ⟨rfl, hr638⟩
                  · refine ObX.op rfl fun f639 wd640 he641 hout642 hphi643 => ?_
                    have hS644 := St.extend hS86 he641
                    obtain ⟨S645, hS646, hf647⟩ := hphi643 16 55 _ rfl rfl rfl
                    have e648 : f639 55 = (Value.bool (x103 != x273)) := hf647
                    obtain ⟨S649, hS650, hf651⟩ := hphi643 22 61 _ rfl rfl rfl
                    have e652 : f639 61 = u574 := hf651
                    obtain ⟨S653, hS654, hf655⟩ := hphi643 26 65 _ rfl rfl rfl
                    obtain ⟨e656, hr657⟩ := hf655
                    exact OpX.val (Value.pointer (some (elA u574 (x618).toNat))) wd640 (wanted_run rfl rfl e648 hc318) (op_idx sl_25 (Ty.lift _ (Ext.trans hE17 hS644.ext) hr576) e652 e656 ha659 hb660) (Ext.refl _) rfl
                  · refine ObX.op rfl fun f662 wd663 he664 hout665 hphi666 => ?_
                    have hS667 := St.extend hS86 he664
                    obtain ⟨S668, hS669, hf670⟩ := hphi666 16 55 _ rfl rfl rfl
                    have e671 : f662 55 = (Value.bool (x103 != x273)) := hf670
                    obtain ⟨S672, hS673, hf674⟩ := hphi666 27 66 _ rfl rfl rfl
                    have e675 : f662 66 = (Value.pointer (some (elA u574 (x618).toNat))) := hf674
                    exact OpX.val u676 wd663 (wanted_run rfl rfl e671 hc318) (op_load one_36 e675 (Ext.cell (Ext.trans hE17 hS667.ext) hc677)) (Ext.refl _) rfl
                  · refine ObX.op rfl fun f679 wd680 he681 hout682 hphi683 => ?_
                    have e685 : f679 4 = (Value.int .i64 (k23 : Int)) := (hout682 4 rfl).trans hf77
                    obtain ⟨S686, hS687, hf688⟩ := hphi683 16 55 _ rfl rfl rfl
                    have e689 : f679 55 = (Value.bool (x103 != x273)) := hf688
                    exact OpX.val (Value.int .i64 (k23 : Int)) wd680 (wanted_run rfl rfl e689 hc318) (op_move e685) (Ext.refl _) ⟨rfl, hr36⟩
                  · refine ObX.op rfl fun f690 wd691 he692 hout693 hphi694 => ?_
                    have hS695 := St.extend hS86 he692
                    obtain ⟨S696, hS697, hf698⟩ := hphi694 16 55 _ rfl rfl rfl
                    have e699 : f690 55 = (Value.bool (x103 != x273)) := hf698
                    obtain ⟨S700, hS701, hf702⟩ := hphi694 28 67 _ rfl rfl rfl
                    have e703 : f690 67 = u676 := hf702
                    obtain ⟨S704, hS705, hf706⟩ := hphi694 29 68 _ rfl rfl rfl
                    obtain ⟨e707, hr708⟩ := hf706
                    exact OpX.val (Value.pointer (some (elA u676 ((k23 : Int)).toNat))) wd691 (wanted_run rfl rfl e699 hc318) (op_idx sl_36 (Ty.lift _ (Ext.trans hE17 hS695.ext) hr678) e703 e707 ha710 hb711) (Ext.refl _) rfl
                  · refine ObX.op rfl fun f713 wd714 he715 hout716 hphi717 => ?_
                    have hS718 := St.extend hS86 he715
                    obtain ⟨S719, hS720, hf721⟩ := hphi717 16 55 _ rfl rfl rfl
                    have e722 : f713 55 = (Value.bool (x103 != x273)) := hf721
                    obtain ⟨S723, hS724, hf725⟩ := hphi717 30 69 _ rfl rfl rfl
                    have e726 : f713 69 = (Value.pointer (some (elA u676 ((k23 : Int)).toNat))) := hf725
                    exact OpX.val (Value.int .i64 x709) wd714 (wanted_run rfl rfl e722 hc318) (op_load one_2 e726 (Ext.cell (Ext.trans hE17 hS718.ext) hc728)) (Ext.refl _) ⟨rfl, hr729⟩
                  · intro f730 wd731 Ss732 he733 hout734 hSn735 hSd736 hphi737
                    show WL _ _ _ _ _ _ _
                    have hS738 := St.extend hS86 he733
                    have e739 : f730 55 = (Value.bool (x103 != x273)) := hphi737 16 55 _ (by decide) rfl rfl
                    obtain ⟨e740, hr741⟩ := hphi737 17 56 _ (by decide) rfl rfl
                    obtain ⟨e744, hr745⟩ := hphi737 20 59 _ (by decide) rfl rfl
                    obtain ⟨e749, hr750⟩ := hphi737 24 63 _ (by decide) rfl rfl
                    obtain ⟨e752, hr753⟩ := hphi737 26 65 _ (by decide) rfl rfl
                    obtain ⟨e756, hr757⟩ := hphi737 29 68 _ (by decide) rfl rfl
                    obtain ⟨e759, hr760⟩ := hphi737 31 70 _ (by decide) rfl rfl
                    have e761 : f730 1 = (Value.pointer (some ⟨b1, 0, none⟩)) := (hout734 1 rfl).trans hf75
                    have e762 : f730 3 = u11 := (hout734 3 rfl).trans hf76
                    have e763 : f730 4 = (Value.int .i64 (k23 : Int)) := (hout734 4 rfl).trans hf77
                    have e764 : f730 5 = (Value.int .i64 (k43 : Int)) := (hout734 5 rfl).trans hf78
                    have e765 : f730 6 = (Value.int .i64 (k66 : Int)) := (hout734 6 rfl).trans rfl
                    have e766 : f730 12 = (Value.int .i64 ((r_Table).length : Int)) := (hout734 12 rfl).trans hf79
                    have e767 : f730 13 = (Value.int .i64 (k23 : Int)) := (hout734 13 rfl).trans hf80
                    have e768 : f730 18 = (Value.int .i64 ((r_Table).length : Int)) := (hout734 18 rfl).trans hf81
                    have e769 : f730 19 = (Value.int .i64 (k43 : Int)) := (hout734 19 rfl).trans hf82
                    have e770 : f730 24 = (Value.int .i64 ((r_Table).length : Int)) := (hout734 24 rfl).trans hf83
                    have e771 : f730 25 = (Value.int .i64 (k66 : Int)) := (hout734 25 rfl).trans hf84
                    refine WL.grun rfl (bool_of e739 hc318) ?_
                    refine WL.val (Value.bool (x103 != x709)) _ (op_neq e740 e759) rfl ?_
                    refine WL.val (Value.bool (x103 != x709)) _ (op_pick_f (evb_of e739 hc318) rfl) rfl ?_
                    refine WL.nil ?_
                    obtain rfl := Option.some.inj hj317
                    exact ⟨e761, e762, e763, e764, e765, e766, e767, e768, e769, e770, e771, rfl, hS738⟩
              · intro f772 wd773 hq774
                obtain ⟨hf775, hf776, hf777, hf778, hf779, hf780, hf781, hf782, hf783, hf784, hf785, hf786, hS787⟩ := hq774
                refine W.cond x316 hf786 (fun hc788 => ?_) (fun hc788 => ?_)
                · replace hb71 := ip hb71 hc788
                  refine W.seq (W.region ?_)
                  refine WL.val (Value.int .i64 (k23 : Int)) _ (op_move hf777) rfl ?_
                  refine WL.val (Value.int .i64 (k43 : Int)) _ (op_move hf778) rfl ?_
                  refine WL.val (Value.int .i64 (k66 : Int)) _ (op_move hf779) rfl ?_
                  refine WL.litFlat (t := (Ty.i .i64)) (flat_i .i64) [(Value.int .i64 (2 : Int)), (Value.int .i64 (k23 : Int)), (Value.int .i64 (k43 : Int)), (Value.int .i64 (k66 : Int))] [(2 : Int), (k23 : Int), (k43 : Int), (k66 : Int)] hS787 sl_36 rfl rfl (fillL rfl ⟨rfl, rfl, rfl, rfl, rfl, rfl, rfl, rfl, rfl, rfl, rfl, rfl, trivial⟩) rfl rfl (litL ⟨⟨rfl, (inL rfl)⟩, ⟨rfl, hr36⟩, ⟨rfl, hr59⟩, ⟨rfl, hr85⟩, trivial⟩) rfl ?_
                  intro u790 wd791 hS792 he793
                  replace hS792 : St wd12 wd791 [(Ty.sl (Ty.i .i64)).at u790 ([(2 : Int), (k23 : Int), (k43 : Int), (k66 : Int)] : (List Int))] := hS792
                  refine WL.val u790 _ (op_assign rfl) rfl ?_
                  refine WL.nil ?_
                  refine W.ret ?_
                  obtain rfl := Option.some.inj hb71
                  obtain rfl := hret74 _ rfl
                  replace hb48 := onRes_ret hb48
                  obtain rfl := Option.some.inj hb48
                  obtain rfl := hret51 _ rfl
                  replace hb28 := onRes_ret hb28
                  obtain rfl := Option.some.inj hb28
                  obtain rfl := hret31 _ rfl
                  replace h := onRes_ret h
                  obtain rfl := Option.some.inj h
                  show FinP _ _ _ _ _ _ _
                  exact FinP.ret _ (res1 rfl rfl) ⟨u790, rfl, (nil_cons), (Ext.trans hE17 hS792.ext), (St.out (St.pick hS792 [0] rfl) (hE17))⟩
                · replace hb71 := inegb hb71 hc788
                  refine W.skip ?_
                  show W _ _ _ _ _ _
                  refine W.region ?_
                  refine WL.val (Value.int .i64 (w64 ((k66 : Int) + (1 : Int)))) _ (op_add hf785 rfl) rfl ?_
                  refine WL.val (Value.int .i64 (w64 ((k66 : Int) + (1 : Int)))) _ (op_move rfl) rfl ?_
                  refine WL.nil ?_
                  obtain rfl := Option.some.inj hb71
                  show ∃ s, _ = Ctl.next s ∧ _
                  exact ⟨_, rfl, hf775, hf776, hf777, hf778, hf780, hf781, hf782, hf783, hf784, (ctr_next hl87 hr63), (ctr_rng hl87 hr63), hS787⟩
            · intro s799 f795 wd796 hs797 hI798
              obtain ⟨⟩ := s799
              replace hI798 : f795 1 = (Value.pointer (some ⟨b1, 0, none⟩)) ∧ f795 3 = u11 ∧ f795 4 = (Value.int .i64 (k23 : Int)) ∧ f795 5 = (Value.int .i64 (k43 : Int)) ∧ f795 12 = (Value.int .i64 ((r_Table).length : Int)) ∧ f795 13 = (Value.int .i64 (k23 : Int)) ∧ f795 18 = (Value.int .i64 ((r_Table).length : Int)) ∧ f795 19 = (Value.int .i64 (k43 : Int)) ∧ f795 24 = (Value.int .i64 ((r_Table).length : Int)) ∧ f795 25 = Value.int .i64 (((r_Table).length : Nat) : Int) ∧ InR .i64 (((r_Table).length : Nat) : Int) ∧ St wd12 wd796 [] := hI798
              obtain ⟨hf800, hf801, hf802, hf803, hf804, hf805, hf806, hf807, hf808, hf809, hr810, hS811⟩ := hI798
              refine W.seq (W.region ?_)
              refine WL.val (Value.bool (decide ((((r_Table).length : Nat) : Int) < ((r_Table).length : Int)))) _ (op_lss hf809 hf808) rfl ?_
              have hl812 : ¬ (((r_Table).length : Nat) : Int) < ((r_Table).length : Int) := by omega
              refine WL.nil ?_
              refine W.seq ?_
              refine W.condF (decide ((((r_Table).length : Nat) : Int) < ((r_Table).length : Int))) rfl (decide_eq_false hl812) ?_
              refine W.exit ?_
              show _ = _ ∧ _
              exact ⟨rfl, _, hs797, hf800, hf801, hf802, hf804, hf805, hf806, hf807, hS811⟩
          · rintro f813 wd814 ⟨s816, rfl, hq815⟩
            replace hb48 := onRes_fin hb48
            obtain ⟨⟩ := s816
            replace hq815 : f813 1 = (Value.pointer (some ⟨b1, 0, none⟩)) ∧ f813 3 = u11 ∧ f813 4 = (Value.int .i64 (k23 : Int)) ∧ f813 12 = (Value.int .i64 ((r_Table).length : Int)) ∧ f813 13 = (Value.int .i64 (k23 : Int)) ∧ f813 18 = (Value.int .i64 ((r_Table).length : Int)) ∧ f813 19 = (Value.int .i64 (k43 : Int)) ∧ St wd12 wd814 [] := hq815
            obtain ⟨hf817, hf818, hf819, hf820, hf821, hf822, hf823, hS824⟩ := hq815
            show W _ _ _ _ _ _
            refine W.region ?_
            refine WL.val (Value.int .i64 (w64 ((k43 : Int) + (1 : Int)))) _ (op_add hf823 rfl) rfl ?_
            refine WL.val (Value.int .i64 (w64 ((k43 : Int) + (1 : Int)))) _ (op_move rfl) rfl ?_
            refine WL.nil ?_
            obtain rfl := Option.some.inj hb48
            show ∃ s, _ = Ctl.next s ∧ _
            exact ⟨_, rfl, hf817, hf818, hf819, hf820, hf821, hf822, (ctr_next hl61 hr40), (ctr_rng hl61 hr40), hS824⟩
        · intro s831 f827 wd828 hs829 hI830
          obtain ⟨⟩ := s831
          replace hI830 : f827 1 = (Value.pointer (some ⟨b1, 0, none⟩)) ∧ f827 3 = u11 ∧ f827 4 = (Value.int .i64 (k23 : Int)) ∧ f827 12 = (Value.int .i64 ((r_Table).length : Int)) ∧ f827 13 = (Value.int .i64 (k23 : Int)) ∧ f827 18 = (Value.int .i64 ((r_Table).length : Int)) ∧ f827 19 = Value.int .i64 (((r_Table).length : Nat) : Int) ∧ InR .i64 (((r_Table).length : Nat) : Int) ∧ St wd12 wd828 [] := hI830
          obtain ⟨hf832, hf833, hf834, hf835, hf836, hf837, hf838, hr839, hS840⟩ := hI830
          refine W.seq (W.region ?_)
          refine WL.val (Value.bool (decide ((((r_Table).length : Nat) : Int) < ((r_Table).length : Int)))) _ (op_lss hf838 hf837) rfl ?_
          have hl841 : ¬ (((r_Table).length : Nat) : Int) < ((r_Table).length : Int) := by omega
          refine WL.nil ?_
          refine W.seq ?_
          refine W.condF (decide ((((r_Table).length : Nat) : Int) < ((r_Table).length : Int))) rfl (decide_eq_false hl841) ?_
          refine W.exit ?_
          show _ = _ ∧ _
          exact ⟨rfl, _, hs829, hf832, hf833, hf835, hf836, hS840⟩
      · rintro f842 wd843 ⟨s845, rfl, hq844⟩
        replace hb28 := onRes_fin hb28
        obtain ⟨⟩ := s845
        replace hq844 : f842 1 = (Value.pointer (some ⟨b1, 0, none⟩)) ∧ f842 3 = u11 ∧ f842 12 = (Value.int .i64 ((r_Table).length : Int)) ∧ f842 13 = (Value.int .i64 (k23 : Int)) ∧ St wd12 wd843 [] := hq844
        obtain ⟨hf846, hf847, hf848, hf849, hS850⟩ := hq844
        show W _ _ _ _ _ _
        refine W.region ?_
        refine WL.val (Value.int .i64 (w64 ((k23 : Int) + (1 : Int)))) _ (op_add hf849 rfl) rfl ?_
        refine WL.val (Value.int .i64 (w64 ((k23 : Int) + (1 : Int)))) _ (op_move rfl) rfl ?_
        refine WL.nil ?_
        obtain rfl := Option.some.inj hb28
        show ∃ s, _ = Ctl.next s ∧ _
        exact ⟨_, rfl, hf846, hf847, hf848, (ctr_next hl38 hr20), (ctr_rng hl38 hr20), hS850⟩
    · intro s857 f853 wd854 hs855 hI856
      obtain ⟨⟩ := s857
      replace hI856 : f853 1 = (Value.pointer (some ⟨b1, 0, none⟩)) ∧ f853 3 = u11 ∧ f853 12 = (Value.int .i64 ((r_Table).length : Int)) ∧ f853 13 = Value.int .i64 (((r_Table).length : Nat) : Int) ∧ InR .i64 (((r_Table).length : Nat) : Int) ∧ St wd12 wd854 [] := hI856
      obtain ⟨hf858, hf859, hf860, hf861, hr862, hS863⟩ := hI856
      refine W.seq (W.region ?_)
      refine WL.val (Value.bool (decide ((((r_Table).length : Nat) : Int) < ((r_Table).length : Int)))) _ (op_lss hf861 hf860) rfl ?_
      have hl864 : ¬ (((r_Table).length : Nat) : Int) < ((r_Table).length : Int) := by omega
      refine WL.nil ?_
      refine W.seq ?_
      refine W.condF (decide ((((r_Table).length : Nat) : Int) < ((r_Table).length : Int))) rfl (decide_eq_false hl864) ?_
      refine W.exit ?_
      show _ = _ ∧ _
      exact ⟨rfl, _, hs855, hS863⟩
  · rintro f865 wd866 ⟨s868, rfl, hq867⟩
    replace h := onRes_fin h
    obtain ⟨⟩ := s868
    replace hq867 : St wd12 wd866 [] := hq867
    have hS869 := hq867
    refine W.seq (W.region ?_)
    refine WL.val (Value.slice none 0 0) _ (op_assign rfl) rfl ?_
    refine WL.nil ?_
    refine W.ret ?_
    obtain rfl := Option.some.inj h
    show FinP _ _ _ _ _ _ _
    exact FinP.ret _ (res1 rfl rfl) ⟨(Value.slice none 0 0), rfl, (fun _ => ⟨0, 0, rfl⟩), (Ext.trans hE17 hS869.ext), (St.out (St.pick (St.addNil (Ty.i .i64) hS869) [0] rfl) (hE17))⟩

theorem c_impl_Ring_bracketFault {w : World} {r_Table : (List (List (List Int)))} {v_r_Table : Value} (r_r_Table : (Ty.sl (Ty.sl (Ty.sl (Ty.i .i64)))).rep w v_r_Table r_Table) {res : (List Int)} (h : p_impl_Ring_bracketFault r_Table  = some res) :
    Ret Try.prog 67 #[(Value.agg #[v_r_Table])] w (fun v w' => ∃ (u0 : Value), v = u0 ∧ NilIff u0 res ∧ Ext w w' ∧ Sep w.heap.size w' [(Ty.sl (Ty.i .i64)).at u0 res]) := by
  unfold p_impl_Ring_bracketFault at h
  have hS0 : St w w [] := St.start w
  refine Ret.start (fn := Try.f67) Try.func67 rfl 97 rfl rfl ?_
  refine W.seq (W.region ?_)
  refine WL.box hS0 rfl (cs := [v_r_Table]) rfl rfl ?_
  intro b1 wd2 hS3 he4 hx5
  replace hS3 : St w wd2 [bx b1 [v_r_Table]] := hS3
  have hx6 := St.boxAt hS3 0 rfl
  have hE7 : Ext w wd2 := hS3.ext
  have hS8 : St wd2 wd2 [] := St.start wd2
  refine WL.val (Value.slice none 0 0) _ (op_assign rfl) rfl ?_
  refine WL.nil ?_
  refine W.seq (W.seq (W.region ?_))
  refine WL.val (Value.pointer (some ⟨b1, 0, none⟩)) _ (op_fieldAddr fd_30_0 rfl) rfl ?_
  refine WL.val v_r_Table _ (op_load one_22 rfl (BoxAt.cell (BoxAt.lift hS8.ext hx6) rfl)) rfl ?_
  have hr9 := inR_len (Ty.lift _ (Ext.trans hE7 hS8.ext) r_r_Table)
  refine WL.val (Value.int .i64 ((r_Table).length : Int)) _ (op_lenL sl_22 (Ty.lift _ (Ext.trans hE7 hS8.ext) r_r_Table) rfl) rfl ?_
  refine WL.val (Value.int .i64 (0 : Int)) _ (op_move rfl) rfl ?_
  refine WL.nil ?_
  show W _ _ _ _ _ _
  obtain ⟨res10, hres11, h⟩ := bs h
  refine W.blockLoop (fun fq wq => ∃ s, res10 = Res.fin s ∧ St wd2 wq []) ?_ ?_
  · refine W.forN (fun k (s : Unit) fq wq => fq 1 = (Value.pointer (some ⟨b1, 0, none⟩)) ∧ fq 13 = v_r_Table ∧ fq 14 = (Value.int .i64 ((r_Table).length : Int)) ∧ fq 15 = Value.int .i64 (k : Int) ∧ InR .i64 (k : Int) ∧ St wd2 wq []) hres11 ⟨rfl, rfl, rfl, rfl, (inL rfl), hS8⟩ ?_ ?_
    · intro k12 s850 ct13 f14 wd15 hk16 hb17 hI18 hbrk19 hret20
      obtain ⟨⟩ := s850
      replace hI18 : f14 1 = (Value.pointer (some ⟨b1, 0, none⟩)) ∧ f14 13 = v_r_Table ∧ f14 14 = (Value.int .i64 ((r_Table).length : Int)) ∧ f14 15 = Value.int .i64 (k12 : Int) ∧ InR .i64 (k12 : Int) ∧ St wd2 wd15 [] := hI18
      replace hb17 : p_impl_Ring_bracketFault_L1 r_Table k12  = some ct13 := hb17
      unfold p_impl_Ring_bracketFault_L1 at hb17
      obtain ⟨hf21, hf22, hf23, hf24, hr25, hS26⟩ := hI18
      refine W.seq (W.region ?_)
      refine WL.val (Value.bool (decide ((k12 : Int) < ((r_Table).length : Int)))) _ (op_lss hf24 hf23) rfl ?_
      have hl27 : (k12 : Int) < ((r_Table).length : Int) := by omega
      refine WL.nil ?_
      refine W.seq ?_
      refine W.condT (decide ((k12 : Int) < ((r_Table).length : Int))) rfl (decide_eq_true hl27) ?_
      refine W.skip ?_
      refine W.seq ?_
      refine W.block ?_
      refine W.seq (W.region ?_)
      refine WL.val (Value.int .i64 (k12 : Int)) _ (op_move hf24) rfl ?_
      obtain ⟨x29, hx32, hb17⟩ := bs hb17
      obtain ⟨ha30, hb31, hx32⟩ := idx_some hx32
      refine WL.val (Value.pointer (some (elA v_r_Table ((k12 : Int)).toNat))) _ (op_idx sl_22 (Ty.lift _ (Ext.trans hE7 hS26.ext) r_r_Table) hf22 hf24 ha30 hb31) rfl ?_
      obtain ⟨u33, hc34, hr35⟩ := repSl.el r_r_Table hx32
      refine WL.val u33 _ (op_load one_25 rfl (Ext.cell (Ext.trans hE7 hS26.ext) hc34)) rfl ?_
      refine WL.val (Value.int .i64 (k12 : Int)) _ (op_assign rfl) rfl ?_
      refine WL.val u33 _ (op_assign rfl) rfl ?_
      refine WL.nil ?_
      refine W.seq (W.region ?_)
      refine WL.val (Value.pointer (some ⟨b1, 0, none⟩)) _ (op_fieldAddr fd_30_0 hf21) rfl ?_
      refine WL.val v_r_Table _ (op_load one_22 rfl (BoxAt.cell (BoxAt.lift hS26.ext hx6) rfl)) rfl ?_
      have hr36 := inR_len (Ty.lift _ (Ext.trans hE7 hS26.ext) r_r_Table)
      refine WL.val (Value.int .i64 ((r_Table).length : Int)) _ (op_lenL sl_22 (Ty.lift _ (Ext.trans hE7 hS26.ext) r_r_Table) rfl) rfl ?_
      refine WL.val (Value.int .i64 (0 : Int)) _ (op_move rfl) rfl ?_
      refine WL.nil ?_
      show W _ _ _ _ _ _
      obtain ⟨res37, hres38, hb17⟩ := bs hb17
      refine W.blockLoop (fun fq wq => ∃ s, res37 = Res.fin s ∧ fq 1 = (Value.pointer (some ⟨b1, 0, none⟩)) ∧ fq 13 = v_r_Table ∧ fq 14 = (Value.int .i64 ((r_Table).length : Int)) ∧ fq 15 = (Value.int .i64 (k12 : Int)) ∧ St wd2 wq []) ?_ ?_
      · refine W.forN (fun k (s : Unit) fq wq => fq 1 = (Value.pointer (some ⟨b1, 0, none⟩)) ∧ fq 3 = (Value.int .i64 (k12 : Int)) ∧ fq 4 = u33 ∧ fq 13 = v_r_Table ∧ fq 14 = (Value.int .i64 ((r_Table).length : Int)) ∧ fq 15 = (Value.int .i64 (k12 : Int)) ∧ fq 21 = v_r_Table ∧ fq 22 = (Value.int .i64 ((r_Table).length : Int)) ∧ fq 23 = Value.int .i64 (k : Int) ∧ InR .i64 (k : Int) ∧ St wd2 wq []) hres38 ⟨hf21, rfl, rfl, hf22, hf23, hf24, rfl, rfl, rfl, (inL rfl), hS26⟩ ?_ ?_
        · intro k39 s822 ct40 f41 wd42 hk43 hb44 hI45 hbrk46 hret47
          obtain ⟨⟩ := s822
          replace hI45 : f41 1 = (Value.pointer (some ⟨b1, 0, none⟩)) ∧ f41 3 = (Value.int .i64 (k12 : Int)) ∧ f41 4 = u33 ∧ f41 13 = v_r_Table ∧ f41 14 = (Value.int .i64 ((r_Table).length : Int)) ∧ f41 15 = (Value.int .i64 (k12 : Int)) ∧ f41 21 = v_r_Table ∧ f41 22 = (Value.int .i64 ((r_Table).length : Int)) ∧ f41 23 = Value.int .i64 (k39 : Int) ∧ InR .i64 (k39 : Int) ∧ St wd2 wd42 [] := hI45
          replace hb44 : p_impl_Ring_bracketFault_L2 r_Table x29 k12 k39  = some ct40 := hb44
          unfold p_impl_Ring_bracketFault_L2 at hb44
          obtain ⟨hf48, hf49, hf50, hf51, hf52, hf53, hf54, hf55, hf56, hr57, hS58⟩ := hI45
          refine W.seq (W.region ?_)
          refine WL.val (Value.bool (decide ((k39 : Int) < ((r_Table).length : Int)))) _ (op_lss hf56 hf55) rfl ?_
          have hl59 : (k39 : Int) < ((r_Table).length : Int) := by omega
          refine WL.nil ?_
          refine W.seq ?_
          refine W.condT (decide ((k39 : Int) < ((r_Table).length : Int))) rfl (decide_eq_true hl59) ?_
          refine W.skip ?_
          refine W.seq ?_
          refine W.block ?_
          refine W.seq (W.region ?_)
          refine WL.val (Value.int .i64 (k39 : Int)) _ (op_move hf56) rfl ?_
          obtain ⟨x61, hx64, hb44⟩ := bs hb44
          obtain ⟨ha62, hb63, hx64⟩ := idx_some hx64
          refine WL.val (Value.pointer (some (elA v_r_Table ((k39 : Int)).toNat))) _ (op_idx sl_22 (Ty.lift _ (Ext.trans hE7 hS58.ext) r_r_Table) hf54 hf56 ha62 hb63) rfl ?_
          obtain ⟨u65, hc66, hr67⟩ := repSl.el r_r_Table hx64
          refine WL.val u65 _ (op_load one_25 rfl (Ext.cell (Ext.trans hE7 hS58.ext) hc66)) rfl ?_
          refine WL.val (Value.int .i64 (k39 : Int)) _ (op_assign rfl) rfl ?_
          refine WL.val u65 _ (op_assign rfl) rfl ?_
          refine WL.nil ?_
          refine W.seq (W.region ?_)
          refine WL.val (Value.pointer (some ⟨b1, 0, none⟩)) _ (op_fieldAddr fd_30_0 hf48) rfl ?_
          refine WL.val v_r_Table _ (op_load one_22 rfl (BoxAt.cell (BoxAt.lift hS58.ext hx6) rfl)) rfl ?_
          have hr68 := inR_len (Ty.lift _ (Ext.trans hE7 hS58.ext) r_r_Table)
          refine WL.val (Value.int .i64 ((r_Table).length : Int)) _ (op_lenL sl_22 (Ty.lift _ (Ext.trans hE7 hS58.ext) r_r_Table) rfl) rfl ?_
          refine WL.val (Value.int .i64 (0 : Int)) _ (op_move rfl) rfl ?_
          refine WL.nil ?_
          show W _ _ _ _ _ _
          obtain ⟨res69, hres70, hb44⟩ := bs hb44
          refine W.blockLoop (fun fq wq => ∃ s, res69 = Res.fin s ∧ fq 1 = (Value.pointer (some ⟨b1, 0, none⟩)) ∧ fq 3 = (Value.int .i64 (k12 : Int)) ∧ fq 4 = u33 ∧ fq 13 = v_r_Table ∧ fq 14 = (Value.int .i64 ((r_Table).length : Int)) ∧ fq 15 = (Value.int .i64 (k12 : Int)) ∧ fq 21 = v_r_Table ∧ fq 22 = (Value.int .i64 ((r_Table).length : Int)) ∧ fq 23 = (Value.int .i64 (k39 : Int)) ∧ St wd2 wq []) ?_ ?_
          · refine W.forN (fun k (s : Unit) fq wq => fq 1 = (Value.pointer (some ⟨b1, 0, none⟩)) ∧ fq 3 = (Value.int .i64 (k12 : Int)) ∧ fq 4 = u33 ∧ fq 5 = (Value.int .i64 (k39 : Int)) ∧ fq 6 = u65 ∧ fq 13 = v_r_Table ∧ fq 14 = (Value.int .i64 ((r_Table).length : Int)) ∧ fq 15 = (Value.int .i64 (k12 : Int)) ∧ fq 21 = v_r_Table ∧ fq 22 = (Value.int .i64 ((r_Table).length : Int)) ∧ fq 23 = (Value.int .i64 (k39 : Int)) ∧ fq 30 = (Value.int .i64 ((r_Table).length : Int)) ∧ fq 31 = Value.int .i64 (k : Int) ∧ InR .i64 (k : Int) ∧ St wd2 wq []) hres70 ⟨hf48, hf49, hf50, rfl, rfl, hf51, hf52, hf53, hf54, hf55, hf56, rfl, rfl, (inL rfl), hS58⟩ ?_ ?_
            · intro k71 s785 ct72 f73 wd74 hk75 hb76 hI77 hbrk78 hret79
              obtain ⟨⟩ := s785
              replace hI77 : f73 1 = (Value.pointer (some ⟨b1, 0, none⟩)) ∧ f73 3 = (Value.int .i64 (k12 : Int)) ∧ f73 4 = u33 ∧ f73 5 = (Value.int .i64 (k39 : Int)) ∧ f73 6 = u65 ∧ f73 13 = v_r_Table ∧ f73 14 = (Value.int .i64 ((r_Table).length : Int)) ∧ f73 15 = (Value.int .i64 (k12 : Int)) ∧ f73 21 = v_r_Table ∧ f73 22 = (Value.int .i64 ((r_Table).length : Int)) ∧ f73 23 = (Value.int .i64 (k39 : Int)) ∧ f73 30 = (Value.int .i64 ((r_Table).length : Int)) ∧ f73 31 = Value.int .i64 (k71 : Int) ∧ InR .i64 (k71 : Int) ∧ St wd2 wd74 [] := hI77
              replace hb76 : p_impl_Ring_bracketFault_L3 x29 k39 r_Table x61 k12 k71  = some ct72 := hb76
              unfold p_impl_Ring_bracketFault_L3 at hb76
              obtain ⟨hf80, hf81, hf82, hf83, hf84, hf85, hf86, hf87, hf88, hf89, hf90, hf91, hf92, hr93, hS94⟩ := hI77
              refine W.seq (W.region ?_)
              refine WL.val (Value.bool (decide ((k71 : Int) < ((r_Table).length : Int)))) _ (op_lss hf92 hf91) rfl ?_
              have hl95 : (k71 : Int) < ((r_Table).length : Int) := by omega
              refine WL.nil ?_
              refine W.seq ?_
              refine W.condT (decide ((k71 : Int) < ((r_Table).length : Int))) rfl (decide_eq_true hl95) ?_
              refine W.skip ?_
              refine W.seq ?_
              refine W.block ?_
              refine W.seq (W.region ?_)
              refine WL.val (Value.int .i64 (k71 : Int)) _ (op_move hf92) rfl ?_
              refine WL.val (Value.int .i64 (k71 : Int)) _ (op_assign rfl) rfl ?_
              refine WL.nil ?_
              refine W.seq (W.region ?_)
              refine WL.val (Value.pointer (some ⟨b1, 0, none⟩)) _ (op_fieldAddr fd_30_0 hf80) rfl ?_
              refine WL.val v_r_Table _ (op_load one_22 rfl (BoxAt.cell (BoxAt.lift hS94.ext hx6) rfl)) rfl ?_
              have hr97 := inR_len (Ty.lift _ (Ext.trans hE7 hS94.ext) r_r_Table)
              refine WL.val (Value.int .i64 ((r_Table).length : Int)) _ (op_lenL sl_22 (Ty.lift _ (Ext.trans hE7 hS94.ext) r_r_Table) rfl) rfl ?_
              refine WL.val (Value.int .i64 (0 : Int)) _ (op_move rfl) rfl ?_
              refine WL.nil ?_
              show W _ _ _ _ _ _
              obtain ⟨res98, hres99, hb76⟩ := bs hb76
              refine W.blockLoop (fun fq wq => ∃ s, res98 = Res.fin s ∧ fq 1 = (Value.pointer (some ⟨b1, 0, none⟩)) ∧ fq 3 = (Value.int .i64 (k12 : Int)) ∧ fq 4 = u33 ∧ fq 5 = (Value.int .i64 (k39 : Int)) ∧ fq 6 = u65 ∧ fq 13 = v_r_Table ∧ fq 14 = (Value.int .i64 ((r_Table).length : Int)) ∧ fq 15 = (Value.int .i64 (k12 : Int)) ∧ fq 21 = v_r_Table ∧ fq 22 = (Value.int .i64 ((r_Table).length : Int)) ∧ fq 23 = (Value.int .i64 (k39 : Int)) ∧ fq 30 = (Value.int .i64 ((r_Table).length : Int)) ∧ fq 31 = (Value.int .i64 (k71 : Int)) ∧ St wd2 wq []) ?_ ?_
              · refine W.forN (fun k (s : Unit) fq wq => fq 1 = (Value.pointer (some ⟨b1, 0, none⟩)) ∧ fq 3 = (Value.int .i64 (k12 : Int)) ∧ fq 4 = u33 ∧ fq 5 = (Value.int .i64 (k39 : Int)) ∧ fq 6 = u65 ∧ fq 7 = (Value.int .i64 (k71 : Int)) ∧ fq 13 = v_r_Table ∧ fq 14 = (Value.int .i64 ((r_Table).length : Int)) ∧ fq 15 = (Value.int .i64 (k12 : Int)) ∧ fq 21 = v_r_Table ∧ fq 22 = (Value.int .i64 ((r_Table).length : Int)) ∧ fq 23 = (Value.int .i64 (k39 : Int)) ∧ fq 30 = (Value.int .i64 ((r_Table).length : Int)) ∧ fq 31 = (Value.int .i64 (k71 : Int)) ∧ fq 36 = (Value.int .i64 ((r_Table).length : Int)) ∧ fq 37 = Value.int .i64 (k : Int) ∧ InR .i64 (k : Int) ∧ St wd2 wq []) hres99 ⟨hf80, hf81, hf82, hf83, hf84, rfl, hf85, hf86, hf87, hf88, hf89, hf90, hf91, hf92, rfl, rfl, (inL rfl), hS94⟩ ?_ ?_
                · intro k100 s741 ct101 f102 wd103 hk104 hb105 hI106 hbrk107 hret108
                  obtain ⟨⟩ := s741
                  replace hI106 : f102 1 = (Value.pointer (some ⟨b1, 0, none⟩)) ∧ f102 3 = (Value.int .i64 (k12 : Int)) ∧ f102 4 = u33 ∧ f102 5 = (Value.int .i64 (k39 : Int)) ∧ f102 6 = u65 ∧ f102 7 = (Value.int .i64 (k71 : Int)) ∧ f102 13 = v_r_Table ∧ f102 14 = (Value.int .i64 ((r_Table).length : Int)) ∧ f102 15 = (Value.int .i64 (k12 : Int)) ∧ f102 21 = v_r_Table ∧ f102 22 = (Value.int .i64 ((r_Table).length : Int)) ∧ f102 23 = (Value.int .i64 (k39 : Int)) ∧ f102 30 = (Value.int .i64 ((r_Table).length : Int)) ∧ f102 31 = (Value.int .i64 (k71 : Int)) ∧ f102 36 = (Value.int .i64 ((r_Table).length : Int)) ∧ f102 37 = Value.int .i64 (k100 : Int) ∧ InR .i64 (k100 : Int) ∧ St wd2 wd103 [] := hI106
                  replace hb105 : p_impl_Ring_bracketFault_L4 x29 k39 r_Table k71 x61 k12 k100  = some ct101 := hb105
                  unfold p_impl_Ring_bracketFault_L4 at hb105
                  obtain ⟨hf109, hf110, hf111, hf112, hf113, hf114, hf115, hf116, hf117, hf118, hf119, hf120, hf121, hf122, hf123, hf124, hr125, hS126⟩ := hI106
                  refine W.seq (W.region ?_)
                  refine WL.val (Value.bool (decide ((k100 : Int) < ((r_Table).length : Int)))) _ (op_lss hf124 hf123) rfl ?_
                  have hl127 : (k100 : Int) < ((r_Table).length : Int) := by omega
                  refine WL.nil ?_
                  refine W.seq ?_
                  refine W.condT (decide ((k100 : Int) < ((r_Table).length : Int))) rfl (decide_eq_true hl127) ?_
                  refine W.skip ?_
                  refine W.seq ?_
                  refine W.block ?_
                  refine W.seq (W.region ?_)
                  refine WL.val (Value.int .i64 (k100 : Int)) _ (op_move hf124) rfl ?_
                  refine WL.val (Value.int .i64 (k100 : Int)) _ (op_assign rfl) rfl ?_
                  refine WL.nil ?_
                  refine W.seq (W.region ?_)
                  refine WL.val (Value.int .i64 (0 : Int)) _ (op_assign rfl) rfl ?_
                  refine WL.val (Value.int .i64 (0 : Int)) _ (op_assign rfl) rfl ?_
                  refine WL.nil ?_
                  refine W.seq (W.seq (W.region ?_))
                  refine WL.val (Value.pointer (some ⟨b1, 0, none⟩)) _ (op_fieldAddr fd_30_0 hf109) rfl ?_
                  refine WL.val v_r_Table _ (op_load one_22 rfl (BoxAt.cell (BoxAt.lift hS126.ext hx6) rfl)) rfl ?_
                  have hr129 := inR_len (Ty.lift _ (Ext.trans hE7 hS126.ext) r_r_Table)
                  refine WL.val (Value.int .i64 ((r_Table).length : Int)) _ (op_lenL sl_22 (Ty.lift _ (Ext.trans hE7 hS126.ext) r_r_Table) rfl) rfl ?_
                  refine WL.val (Value.int .i64 (0 : Int)) _ (op_move rfl) rfl ?_
                  refine WL.nil ?_
                  show W _ _ _ _ _ _
                  obtain ⟨res130, hres131, hb105⟩ := bs hb105
                  refine W.blockLoop (fun fq wq => ∃ s, res130 = Res.fin s ∧ fq 1 = (Value.pointer (some ⟨b1, 0, none⟩)) ∧ fq 3 = (Value.int .i64 (k12 : Int)) ∧ fq 4 = u33 ∧ fq 5 = (Value.int .i64 (k39 : Int)) ∧ fq 6 = u65 ∧ fq 7 = (Value.int .i64 (k71 : Int)) ∧ fq 8 = (Value.int .i64 (k100 : Int)) ∧ fq 9 = Value.int .i64 s.1 ∧ InR .i64 s.1 ∧ fq 10 = Value.int .i64 s.2 ∧ InR .i64 s.2 ∧ fq 13 = v_r_Table ∧ fq 14 = (Value.int .i64 ((r_Table).length : Int)) ∧ fq 15 = (Value.int .i64 (k12 : Int)) ∧ fq 21 = v_r_Table ∧ fq 22 = (Value.int .i64 ((r_Table).length : Int)) ∧ fq 23 = (Value.int .i64 (k39 : Int)) ∧ fq 30 = (Value.int .i64 ((r_Table).length : Int)) ∧ fq 31 = (Value.int .i64 (k71 : Int)) ∧ fq 36 = (Value.int .i64 ((r_Table).length : Int)) ∧ fq 37 = (Value.int .i64 (k100 : Int)) ∧ St wd2 wq []) ?_ ?_
                  · refine W.forN (fun k (s : Int × Int) fq wq => fq 1 = (Value.pointer (some ⟨b1, 0, none⟩)) ∧ fq 3 = (Value.int .i64 (k12 : Int)) ∧ fq 4 = u33 ∧ fq 5 = (Value.int .i64 (k39 : Int)) ∧ fq 6 = u65 ∧ fq 7 = (Value.int .i64 (k71 : Int)) ∧ fq 8 = (Value.int .i64 (k100 : Int)) ∧ fq 9 = Value.int .i64 s.1 ∧ InR .i64 s.1 ∧ fq 10 = Value.int .i64 s.2 ∧ InR .i64 s.2 ∧ fq 13 = v_r_Table ∧ fq 14 = (Value.int .i64 ((r_Table).length : Int)) ∧ fq 15 = (Value.int .i64 (k12 : Int)) ∧ fq 21 = v_r_Table ∧ fq 22 = (Value.int .i64 ((r_Table).length : Int)) ∧ fq 23 = (Value.int .i64 (k39 : Int)) ∧ fq 30 = (Value.int .i64 ((r_Table).length : Int)) ∧ fq 31 = (Value.int .i64 (k71 : Int)) ∧ fq 36 = (Value.int .i64 ((r_Table).length : Int)) ∧ fq 37 = (Value.int .i64 (k100 : Int)) ∧ fq 42 = (Value.int .i64 ((r_Table).length : Int)) ∧ fq 43 = Value.int .i64 (k : Int) ∧ InR .i64 (k : Int) ∧ St wd2 wq []) hres131 ⟨hf109, hf110, hf111, hf112, hf113, hf114, rfl, rfl, (inL rfl), rfl, (inL rfl), hf115, hf116, hf117, hf118, hf119, hf120, hf121, hf122, hf123, hf124, rfl, rfl, (inL rfl), hS126⟩ ?_ ?_
                    · intro k132 s672 ct135 f136 wd137 hk138 hb139 hI140 hbrk141 hret142
                      obtain ⟨x133, x134⟩ := s672
                      replace hI140 : f136 1 = (Value.pointer (some ⟨b1, 0, none⟩)) ∧ f136 3 = (Value.int .i64 (k12 : Int)) ∧ f136 4 = u33 ∧ f136 5 = (Value.int .i64 (k39 : Int)) ∧ f136 6 = u65 ∧ f136 7 = (Value.int .i64 (k71 : Int)) ∧ f136 8 = (Value.int .i64 (k100 : Int)) ∧ f136 9 = Value.int .i64 x133 ∧ InR .i64 x133 ∧ f136 10 = Value.int .i64 x134 ∧ InR .i64 x134 ∧ f136 13 = v_r_Table ∧ f136 14 = (Value.int .i64 ((r_Table).length : Int)) ∧ f136 15 = (Value.int .i64 (k12 : Int)) ∧ f136 21 = v_r_Table ∧ f136 22 = (Value.int .i64 ((r_Table).length : Int)) ∧ f136 23 = (Value.int .i64 (k39 : Int)) ∧ f136 30 = (Value.int .i64 ((r_Table).length : Int)) ∧ f136 31 = (Value.int .i64 (k71 : Int)) ∧ f136 36 = (Value.int .i64 ((r_Table).length : Int)) ∧ f136 37 = (Value.int .i64 (k100 : Int)) ∧ f136 42 = (Value.int .i64 ((r_Table).length : Int)) ∧ f136 43 = Value.int .i64 (k132 : Int) ∧ InR .i64 (k132 : Int) ∧ St wd2 wd137 [] := hI140
                      replace hb139 : p_impl_Ring_bracketFault_L5 x29 k39 r_Table k71 k100 x61 k132 x133 x134 = some ct135 := hb139
                      unfold p_impl_Ring_bracketFault_L5 at hb139
                      obtain ⟨hf143, hf144, hf145, hf146, hf147, hf148, hf149, hf150, hr151, hf152, hr153, hf154, hf155, hf156, hf157, hf158, hf159, hf160, hf161, hf162, hf163, hf164, hf165, hr166, hS167⟩ := hI140
                      refine W.seq (W.region ?_)
                      refine WL.val (Value.bool (decide ((k132 : Int) < ((r_Table).length : Int)))) _ (op_lss hf165 hf164) rfl ?_
                      have hl168 : (k132 : Int) < ((r_Table).length : Int) := by omega
                      refine WL.nil ?_
                      refine W.seq ?_
                      refine W.condT (decide ((k132 : Int) < ((r_Table).length : Int))) rfl (decide_eq_true hl168) ?_
                      refine W.skip ?_
                      refine W.seq ?_
                      refine W.block ?_
                      refine W.seq (W.region ?_)
                      refine WL.val (Value.int .i64 (k132 : Int)) _ (op_move hf165) rfl ?_
                      refine WL.val (Value.int .i64 (k132 : Int)) _ (op_assign rfl) rfl ?_
                      refine WL.nil ?_
                      refine W.seq ?_
                      obtain ⟨x206, hx209, hb139⟩ := bs hb139
                      obtain ⟨ha207, hb208, hx209⟩ := idx_some hx209
                      obtain ⟨u220, hc221, hr222⟩ := repSl.el hr35 hx209
                      obtain ⟨x245, hx248, hb139⟩ := bs hb139
                      obtain ⟨ha246, hb247, hx248⟩ := idx_some hx248
                      obtain ⟨u259, hc260, hr261⟩ := repSl.el hr222 hx248
                      obtain ⟨rfl, hr261⟩ := hr261
                      obtain ⟨x301, hx304, hb139⟩ := bs hb139
                      obtain ⟨ha302, hb303, hx304⟩ := idx_some hx304
                      obtain ⟨u315, hc316, hr317⟩ := repSl.el r_r_Table hx304
                      obtain ⟨x340, hx343, hb139⟩ := bs hb139
                      obtain ⟨ha341, hb342, hx343⟩ := idx_some hx343
                      obtain ⟨u354, hc355, hr356⟩ := repSl.el hr317 hx343
                      obtain ⟨x379, hx382, hb139⟩ := bs hb139
                      obtain ⟨ha380, hb381, hx382⟩ := idx_some hx382
                      obtain ⟨u393, hc394, hr395⟩ := repSl.el hr356 hx382
                      obtain ⟨rfl, hr395⟩ := hr395
                      refine W.drawR mixo 20 [] [fun _ v _ _ => v = (Value.int .i64 x133) ∧ InR .i64 x133, fun _ v _ _ => v = u33, fun _ v _ _ => v = (Value.int .i64 (k39 : Int)) ∧ InR .i64 (k39 : Int), fun _ v _ _ => v = (Value.pointer (some (elA u33 ((k39 : Int)).toNat))), fun _ v _ _ => v = u220, fun _ v _ _ => v = (Value.int .i64 (k132 : Int)) ∧ InR .i64 (k132 : Int), fun _ v _ _ => v = (Value.pointer (some (elA u220 ((k132 : Int)).toNat))), fun _ v _ _ => v = (Value.int .i64 x245) ∧ InR .i64 x245, fun _ v _ _ => v = (Value.pointer (some ⟨b1, 0, none⟩)), fun _ v _ _ => v = v_r_Table, fun _ v _ _ => v = (Value.int .i64 (k132 : Int)) ∧ InR .i64 (k132 : Int), fun _ v _ _ => v = (Value.pointer (some (elA v_r_Table ((k132 : Int)).toNat))), fun _ v _ _ => v = u315, fun _ v _ _ => v = (Value.int .i64 (k71 : Int)) ∧ InR .i64 (k71 : Int), fun _ v _ _ => v = (Value.pointer (some (elA u315 ((k71 : Int)).toNat))), fun _ v _ _ => v = u354, fun _ v _ _ => v = (Value.int .i64 (k100 : Int)) ∧ InR .i64 (k100 : Int), fun _ v _ _ => v = (Value.pointer (some (elA u354 ((k100 : Int)).toNat))), fun _ v _ _ => v = (Value.int .i64 x379) ∧ InR .i64 x379, fun _ v _ _ => v = (Value.int .i64 (w64 (x245 * x379))) ∧ InR .i64 (w64 (x245 * x379))] (by kernel_rfl) (by kernel_rfl) ⟨pk, pk, pk, pk, pk, pk, pk, pk, pk, pk, pk, pk, pk, pk, pk, pk, pk, pk, pk, pk, trivial⟩ ⟨?_, ?_, ?_, ?_, ?_, ?_, ?_, ?_, ?_, ?_, ?_, ?_, ?_, ?_, ?_, ?_, ?_, ?_, ?_, ?_, trivial⟩ ?_
                      · refine ObX.op rfl fun f170 wd171 he172 hout173 hphi174 => ?_
                        have e176 : f170 9 = (Value.int .i64 x133) := (hout173 9 rfl).trans hf150
                        exact OpX.val (Value.int .i64 x133) wd171 rfl (op_move e176) (Ext.refl _) ⟨rfl, hr151⟩
                      · refine ObX.op rfl fun f177 wd178 he179 hout180 hphi181 => ?_
                        have e183 : f177 4 = u33 := (hout180 4 rfl).trans hf145
                        exact OpX.val u33 wd178 rfl (op_move e183) (Ext.refl _) rfl
                      · refine ObX.op rfl fun f184 wd185 he186 hout187 hphi188 => ?_
                        have e190 : f184 5 = (Value.int .i64 (k39 : Int)) := (hout187 5 rfl).trans hf146
                        exact OpX.val (Value.int .i64 (k39 : Int)) wd185 rfl (op_move e190) (Ext.refl _) ⟨rfl, hr57⟩
                      · refine ObX.op rfl fun f191 wd192 he193 hout194 hphi195 => ?_
                        have hS196 := St.extend hS167 he193
                        obtain ⟨S197, hS198, hf199⟩ := hphi195 1 47 _ rfl rfl rfl
                        have e200 : f191 47 = u33 := hf199
                        obtain ⟨S201, hS202, hf203⟩ := hphi195 2 48 _ rfl rfl rfl
                        obtain ⟨e204, hr205⟩ := hf203
                        exact OpX.val (Value.pointer (some (elA u33 ((k39 : Int)).toNat))) wd192 rfl (op_idx sl_25 (Ty.lift _ (Ext.trans hE7 hS196.ext) hr35) e200 e204 ha207 hb208) (Ext.refl _) rfl
                      · refine ObX.op rfl fun f210 wd211 he212 hout213 hphi214 => ?_
                        have hS215 := St.extend hS167 he212
                        obtain ⟨S216, hS217, hf218⟩ := hphi214 3 49 _ rfl rfl rfl
                        have e219 : f210 49 = (Value.pointer (some (elA u33 ((k39 : Int)).toNat))) := hf218
                        exact OpX.val u220 wd211 rfl (op_load one_36 e219 (Ext.cell (Ext.trans hE7 hS215.ext) hc221)) (Ext.refl _) rfl
                      · refine ObX.op rfl fun f223 wd224 he225 hout226 hphi227 => ?_
                        have e229 : f223 11 = (Value.int .i64 (k132 : Int)) := (hout226 11 rfl).trans rfl
                        exact OpX.val (Value.int .i64 (k132 : Int)) wd224 rfl (op_move e229) (Ext.refl _) ⟨rfl, hr166⟩
                      · refine ObX.op rfl fun f230 wd231 he232 hout233 hphi234 => ?_
                        have hS235 := St.extend hS167 he232
                        obtain ⟨S236, hS237, hf238⟩ := hphi234 4 50 _ rfl rfl rfl
                        have e239 : f230 50 = u220 := hf238
                        obtain ⟨S240, hS241, hf242⟩ := hphi234 5 51 _ rfl rfl rfl
                        obtain ⟨e243, hr244⟩ := hf242
                        exact OpX.val (Value.pointer (some (elA u220 ((k132 : Int)).toNat))) wd231 rfl (op_idx sl_36 (Ty.lift _ (Ext.trans hE7 hS235.ext) hr222) e239 e243 ha246 hb247) (Ext.refl _) rfl
                      · refine ObX.op rfl fun f249 wd250 he251 hout252 hphi253 => ?_
                        have hS254 := St.extend hS167 he251
                        obtain ⟨S255, hS256, hf257⟩ := hphi253 6 52 _ rfl rfl rfl
                        have e258 : f249 52 = (Value.pointer (some (elA u220 ((k132 : Int)).toNat))) := hf257
                        exact OpX.val (Value.int .i64 x245) wd250 rfl (op_load one_2 e258 (Ext.cell (Ext.trans hE7 hS254.ext) hc260)) (Ext.refl _) ⟨rfl, hr261⟩
                      · refine ObX.op rfl fun f262 wd263 he264 hout265 hphi266 => ?_
                        have e268 : f262 1 = (Value.pointer (some ⟨b1, 0, none⟩)) := (hout265 1 rfl).trans hf143
                        exact OpX.val (Value.pointer (some ⟨b1, 0, none⟩)) wd263 rfl (op_fieldAddr fd_30_0 e268) (Ext.refl _) rfl
                      · refine ObX.op rfl fun f269 wd270 he271 hout272 hphi273 => ?_
                        have hS274 := St.extend hS167 he271
                        obtain ⟨S275, hS276, hf277⟩ := hphi273 8 54 _ rfl rfl rfl
                        have e278 : f269 54 = (Value.pointer (some ⟨b1, 0, none⟩)) := hf277
                        exact OpX.val v_r_Table wd270 rfl (op_load one_22 e278 (BoxAt.cell (BoxAt.lift hS274.ext hx6) rfl)) (Ext.refl _) rfl
                      · refine ObX.op rfl fun f279 wd280 he281 hout282 hphi283 => ?_
                        have e285 : f279 11 = (Value.int .i64 (k132 : Int)) := (hout282 11 rfl).trans rfl
                        exact OpX.val (Value.int .i64 (k132 : Int)) wd280 rfl (op_move e285) (Ext.refl _) ⟨rfl, hr166⟩
                      · refine ObX.op rfl fun f286 wd287 he288 hout289 hphi290 => ?_
                        have hS291 := St.extend hS167 he288
                        obtain ⟨S292, hS293, hf294⟩ := hphi290 9 55 _ rfl rfl rfl
                        have e295 : f286 55 = v_r_Table := hf294
                        obtain ⟨S296, hS297, hf298⟩ := hphi290 10 56 _ rfl rfl rfl
                        obtain ⟨e299, hr300⟩ := hf298
                        exact OpX.val (Value.pointer (some (elA v_r_Table ((k132 : Int)).toNat))) wd287 rfl (op_idx sl_22 (Ty.lift _ (Ext.trans hE7 hS291.ext) r_r_Table) e295 e299 ha302 hb303) (Ext.refl _) rfl
                      · refine ObX.op rfl fun f305 wd306 he307 hout308 hphi309 => ?_
                        have hS310 := St.extend hS167 he307
                        obtain ⟨S311, hS312, hf313⟩ := hphi309 11 57 _ rfl rfl rfl
                        have e314 : f305 57 = (Value.pointer (some (elA v_r_Table ((k132 : Int)).toNat))) := hf313
                        exact OpX.val u315 wd306 rfl (op_load one_25 e314 (Ext.cell (Ext.trans hE7 hS310.ext) hc316)) (Ext.refl _) rfl
                      · refine ObX.op rfl fun f318 wd319 he320 hout321 hphi322 => ?_
                        have e324 : f318 7 = (Value.int .i64 (k71 : Int)) := (hout321 7 rfl).trans hf148
                        exact OpX.val (Value.int .i64 (k71 : Int)) wd319 rfl (op_move e324) (Ext.refl _) ⟨rfl, hr93⟩
                      · refine ObX.op rfl fun f325 wd326 he327 hout328 hphi329 => ?_
                        have hS330 := St.extend hS167 he327
                        obtain ⟨S331, hS332, hf333⟩ := hphi329 12 58 _ rfl rfl rfl
                        have e334 : f325 58 = u315 := hf333
                        obtain ⟨S335, hS336, hf337⟩ := hphi329 13 59 _ rfl rfl rfl
                        obtain ⟨e338, hr339⟩ := hf337
                        exact OpX.val (Value.pointer (some (elA u315 ((k71 : Int)).toNat))) wd326 rfl (op_idx sl_25 (Ty.lift _ (Ext.trans hE7 hS330.ext) hr317) e334 e338 ha341 hb342) (Ext.refl _) rfl
                      · refine ObX.op rfl fun f344 wd345 he346 hout347 hphi348 => ?_
                        have hS349 := St.extend hS167 he346
                        obtain ⟨S350, hS351, hf352⟩ := hphi348 14 60 _ rfl rfl rfl
                        have e353 : f344 60 = (Value.pointer (some (elA u315 ((k71 : Int)).toNat))) := hf352
                        exact OpX.val u354 wd345 rfl (op_load one_36 e353 (Ext.cell (Ext.trans hE7 hS349.ext) hc355)) (Ext.refl _) rfl
                      · refine ObX.op rfl fun f357 wd358 he359 hout360 hphi361 => ?_
                        have e363 : f357 8 = (Value.int .i64 (k100 : Int)) := (hout360 8 rfl).trans hf149
                        exact OpX.val (Value.int .i64 (k100 : Int)) wd358 rfl (op_move e363) (Ext.refl _) ⟨rfl, hr125⟩
                      · refine ObX.op rfl fun f364 wd365 he366 hout367 hphi368 => ?_
                        have hS369 := St.extend hS167 he366
                        obtain ⟨S370, hS371, hf372⟩ := hphi368 15 61 _ rfl rfl rfl
                        have e373 : f364 61 = u354 := hf372
                        obtain ⟨S374, hS375, hf376⟩ := hphi368 16 62 _ rfl rfl rfl
                        obtain ⟨e377, hr378⟩ := hf376
                        exact OpX.val (Value.pointer (some (elA u354 ((k100 : Int)).toNat))) wd365 rfl (op_idx sl_36 (Ty.lift _ (Ext.trans hE7 hS369.ext) hr356) e373 e377 ha380 hb381) (Ext.refl _) rfl
                      · refine ObX.op rfl fun f383 wd384 he385 hout386 hphi387 => ?_
                        have hS388 := St.extend hS167 he385
                        obtain ⟨S389, hS390, hf391⟩ := hphi387 17 63 _ rfl rfl rfl
                        have e392 : f383 63 = (Value.pointer (some (elA u354 ((k100 : Int)).toNat))) := hf391
                        exact OpX.val (Value.int .i64 x379) wd384 rfl (op_load one_2 e392 (Ext.cell (Ext.trans hE7 hS388.ext) hc394)) (Ext.refl _) ⟨rfl, hr395⟩
                      · refine ObX.op rfl fun f396 wd397 he398 hout399 hphi400 => ?_
                        obtain ⟨S402, hS403, hf404⟩ := hphi400 7 53 _ rfl rfl rfl
                        obtain ⟨e405, hr406⟩ := hf404
                        obtain ⟨S407, hS408, hf409⟩ := hphi400 18 64 _ rfl rfl rfl
                        obtain ⟨e410, hr411⟩ := hf409
                        exact OpX.val (Value.int .i64 (w64 (x245 * x379))) wd397 rfl (op_mul e405 e410) (Ext.refl _) ⟨rfl, (inR_wrap _ _)⟩
                      · intro f412 wd413 Ss414 he415 hout416 hSn417 hSd418 hphi419
                        show WL _ _ _ _ _ _ _
                        have hS420 := St.extend hS167 he415
                        obtain ⟨e421, hr422⟩ := hphi419 0 46 _ (by decide) rfl rfl
                        obtain ⟨e423, hr424⟩ := hphi419 19 65 _ (by decide) rfl rfl
                        have e425 : f412 1 = (Value.pointer (some ⟨b1, 0, none⟩)) := (hout416 1 rfl).trans hf143
                        have e426 : f412 3 = (Value.int .i64 (k12 : Int)) := (hout416 3 rfl).trans hf144
                        have e427 : f412 4 = u33 := (hout416 4 rfl).trans hf145
                        have e428 : f412 5 = (Value.int .i64 (k39 : Int)) := (hout416 5 rfl).trans hf146
                        have e429 : f412 6 = u65 := (hout416 6 rfl).trans hf147
                        have e430 : f412 7 = (Value.int .i64 (k71 : Int)) := (hout416 7 rfl).trans hf148
                        have e431 : f412 8 = (Value.int .i64 (k100 : Int)) := (hout416 8 rfl).trans hf149
                        have e432 : f412 10 = (Value.int .i64 x134) := (hout416 10 rfl).trans hf152
                        have e433 : f412 11 = (Value.int .i64 (k132 : Int)) := (hout416 11 rfl).trans rfl
                        have e434 : f412 13 = v_r_Table := (hout416 13 rfl).trans hf154
                        have e435 : f412 14 = (Value.int .i64 ((r_Table).length : Int)) := (hout416 14 rfl).trans hf155
                        have e436 : f412 15 = (Value.int .i64 (k12 : Int)) := (hout416 15 rfl).trans hf156
                        have e437 : f412 21 = v_r_Table := (hout416 21 rfl).trans hf157
                        have e438 : f412 22 = (Value.int .i64 ((r_Table).length : Int)) := (hout416 22 rfl).trans hf158
                        have e439 : f412 23 = (Value.int .i64 (k39 : Int)) := (hout416 23 rfl).trans hf159
                        have e440 : f412 30 = (Value.int .i64 ((r_Table).length : Int)) := (hout416 30 rfl).trans hf160
                        have e441 : f412 31 = (Value.int .i64 (k71 : Int)) := (hout416 31 rfl).trans hf161
                        have e442 : f412 36 = (Value.int .i64 ((r_Table).length : Int)) := (hout416 36 rfl).trans hf162
                        have e443 : f412 37 = (Value.int .i64 (k100 : Int)) := (hout416 37 rfl).trans hf163
                        have e444 : f412 42 = (Value.int .i64 ((r_Table).length : Int)) := (hout416 42 rfl).trans hf164
                        have e445 : f412 43 = (Value.int .i64 (k132 : Int)) := (hout416 43 rfl).trans hf165
                        refine WL.val (Value.int .i64 (w64 (x133 + (w64 (x245 * x379))))) _ (op_add e421 e423) rfl ?_
                        refine WL.val (Value.int .i64 (w64 (x133 + (w64 (x245 * x379))))) _ (op_assign rfl) rfl ?_
                        refine WL.nil ?_
                        show W _ _ _ _ _ _
                        obtain ⟨x482, hx485, hb139⟩ := bs hb139
                        obtain ⟨ha483, hb484, hx485⟩ := idx_some hx485
                        obtain ⟨u496, hc497, hr498⟩ := repSl.el hr67 hx485
                        obtain ⟨x521, hx524, hb139⟩ := bs hb139
                        obtain ⟨ha522, hb523, hx524⟩ := idx_some hx524
                        obtain ⟨u535, hc536, hr537⟩ := repSl.el hr498 hx524
                        obtain ⟨rfl, hr537⟩ := hr537
                        obtain ⟨x567, hx570, hb139⟩ := bs hb139
                        obtain ⟨ha568, hb569, hx570⟩ := idx_some hx570
                        obtain ⟨u581, hc582, hr583⟩ := repSl.el hr35 hx570
                        obtain ⟨x606, hx609, hb139⟩ := bs hb139
                        obtain ⟨ha607, hb608, hx609⟩ := idx_some hx609
                        obtain ⟨u620, hc621, hr622⟩ := repSl.el hr583 hx609
                        obtain ⟨rfl, hr622⟩ := hr622
                        refine W.drawR mixo 16 [] [fun _ v _ _ => v = (Value.int .i64 x134) ∧ InR .i64 x134, fun _ v _ _ => v = u65, fun _ v _ _ => v = (Value.int .i64 (k71 : Int)) ∧ InR .i64 (k71 : Int), fun _ v _ _ => v = (Value.pointer (some (elA u65 ((k71 : Int)).toNat))), fun _ v _ _ => v = u496, fun _ v _ _ => v = (Value.int .i64 (k132 : Int)) ∧ InR .i64 (k132 : Int), fun _ v _ _ => v = (Value.pointer (some (elA u496 ((k132 : Int)).toNat))), fun _ v _ _ => v = (Value.int .i64 x521) ∧ InR .i64 x521, fun _ v _ _ => v = u33, fun _ v _ _ => v = (Value.int .i64 (k132 : Int)) ∧ InR .i64 (k132 : Int), fun _ v _ _ => v = (Value.pointer (some (elA u33 ((k132 : Int)).toNat))), fun _ v _ _ => v = u581, fun _ v _ _ => v = (Value.int .i64 (k100 : Int)) ∧ InR .i64 (k100 : Int), fun _ v _ _ => v = (Value.pointer (some (elA u581 ((k100 : Int)).toNat))), fun _ v _ _ => v = (Value.int .i64 x606) ∧ InR .i64 x606, fun _ v _ _ => v = (Value.int .i64 (w64 (x521 * x606))) ∧ InR .i64 (w64 (x521 * x606))] (by kernel_rfl) (by kernel_rfl) ⟨pk, pk, pk, pk, pk, pk, pk, pk, pk, pk, pk, pk, pk, pk, pk, pk, trivial⟩ ⟨?_, ?_, ?_, ?_, ?_, ?_, ?_, ?_, ?_, ?_, ?_, ?_, ?_, ?_, ?_, ?_, trivial⟩ ?_
                        · refine ObX.op rfl fun f446 wd447 he448 hout449 hphi450 => ?_
                          have e452 : f446 10 = (Value.int .i64 x134) := (hout449 10 rfl).trans e432
                          exact OpX.val (Value.int .i64 x134) wd447 rfl (op_move e452) (Ext.refl _) ⟨rfl, hr153⟩
                        · refine ObX.op rfl fun f453 wd454 he455 hout456 hphi457 => ?_
                          have e459 : f453 6 = u65 := (hout456 6 rfl).trans e429
                          exact OpX.val u65 wd454 rfl (op_move e459) (Ext.refl _) rfl
                        · refine ObX.op rfl fun f460 wd461 he462 hout463 hphi464 => ?_
                          have e466 : f460 7 = (Value.int .i64 (k71 : Int)) := (hout463 7 rfl).trans e430
                          exact OpX.val (Value.int .i64 (k71 : Int)) wd461 rfl (op_move e466) (Ext.refl _) ⟨rfl, hr93⟩
                        · refine ObX.op rfl fun f467 wd468 he469 hout470 hphi471 => ?_
                          have hS472 := St.extend hS420 he469
                          obtain ⟨S473, hS474, hf475⟩ := hphi471 1 68 _ rfl rfl rfl
                          have e476 : f467 68 = u65 := hf475
                          obtain ⟨S477, hS478, hf479⟩ := hphi471 2 69 _ rfl rfl rfl
                          obtain ⟨e480, hr481⟩ := hf479
                          exact OpX.val (Value.pointer (some (elA u65 ((k71 : Int)).toNat))) wd468 rfl (op_idx sl_25 (Ty.lift _ (Ext.trans hE7 hS472.ext) hr67) e476 e480 ha483 hb484) (Ext.refl _) rfl
                        · refine ObX.op rfl fun f486 wd487 he488 hout489 hphi490 => ?_
                          have hS491 := St.extend hS420 he488
                          obtain ⟨S492, hS493, hf494⟩ := hphi490 3 70 _ rfl rfl rfl
                          have e495 : f486 70 = (Value.pointer (some (elA u65 ((k71 : Int)).toNat))) := hf494
                          exact OpX.val u496 wd487 rfl (op_load one_36 e495 (Ext.cell (Ext.trans hE7 hS491.ext) hc497)) (Ext.refl _) rfl
                        · refine ObX.op rfl fun f499 wd500 he501 hout502 hphi503 => ?_
                          have e505 : f499 11 = (Value.int .i64 (k132 : Int)) := (hout502 11 rfl).trans e433
                          exact OpX.val (Value.int .i64 (k132 : Int)) wd500 rfl (op_move e505) (Ext.refl _) ⟨rfl, hr166⟩
                        · refine ObX.op rfl fun f506 wd507 he508 hout509 hphi510 => ?_
                          have hS511 := St.extend hS420 he508
                          obtain ⟨S512, hS513, hf514⟩ := hphi510 4 71 _ rfl rfl rfl
                          have e515 : f506 71 = u496 := hf514
                          obtain ⟨S516, hS517, hf518⟩ := hphi510 5 72 _ rfl rfl rfl
                          obtain ⟨e519, hr520⟩ := hf518
                          exact OpX.val (Value.pointer (some (elA u496 ((k132 : Int)).toNat))) wd507 rfl (op_idx sl_36 (Ty.lift _ (Ext.trans hE7 hS511.ext) hr498) e515 e519 ha522 hb523) (Ext.refl _) rfl
                        · refine ObX.op rfl fun f525 wd526 he527 hout528 hphi529 => ?_
                          have hS530 := St.extend hS420 he527
                          obtain ⟨S531, hS532, hf533⟩ := hphi529 6 73 _ rfl rfl rfl
                          have e534 : f525 73 = (Value.pointer (some (elA u496 ((k132 : Int)).toNat))) := hf533
                          exact OpX.val (Value.int .i64 x521) wd526 rfl (op_load one_2 e534 (Ext.cell (Ext.trans hE7 hS530.ext) hc536)) (Ext.refl _) ⟨rfl, hr537⟩
                        · refine ObX.op rfl fun f538 wd539 he540 hout541 hphi542 => ?_
                          have e544 : f538 4 = u33 := (hout541 4 rfl).trans e427
                          exact OpX.val u33 wd539 rfl (op_move e544) (Ext.refl _) rfl
                        · refine ObX.op rfl fun f545 wd546 he547 hout548 hphi549 => ?_
                          have e551 : f545 11 = (Value.int .i64 (k132 : Int)) := (hout548 11 rfl).trans e433
                          exact OpX.val (Value.int .i64 (k132 : Int)) wd546 rfl (op_move e551) (Ext.refl _) ⟨rfl, hr166⟩
                        · refine ObX.op rfl fun f552 wd553 he554 hout555 hphi556 => ?_
                          have hS557 := St.extend hS420 he554
                          obtain ⟨S558, hS559, hf560⟩ := hphi556 8 75 _ rfl rfl rfl
                          have e561 : f552 75 = u33 := hf560
                          obtain ⟨S562, hS563, hf564⟩ := hphi556 9 76 _ rfl rfl rfl
                          obtain ⟨e565, hr566⟩ := hf564
                          exact OpX.val (Value.pointer (some (elA u33 ((k132 : Int)).toNat))) wd553 rfl (op_idx sl_25 (Ty.lift _ (Ext.trans hE7 hS557.ext) hr35) e561 e565 ha568 hb569) (Ext.refl _) rfl
                        · refine ObX.op rfl fun f571 wd572 he573 hout574 hphi575 => ?_
                          have hS576 := St.extend hS420 he573
                          obtain ⟨S577, hS578, hf579⟩ := hphi575 10 77 _ rfl rfl rfl
                          have e580 : f571 77 = (Value.pointer (some (elA u33 ((k132 : Int)).toNat))) := hf579
                          exact OpX.val u581 wd572 rfl (op_load one_36 e580 (Ext.cell (Ext.trans hE7 hS576.ext) hc582)) (Ext.refl _) rfl
                        · refine ObX.op rfl fun f584 wd585 he586 hout587 hphi588 => ?_
                          have e590 : f584 8 = (Value.int .i64 (k100 : Int)) := (hout587 8 rfl).trans e431
                          exact OpX.val (Value.int .i64 (k100 : Int)) wd585 rfl (op_move e590) (Ext.refl _) ⟨rfl, hr125⟩
                        · refine ObX.op rfl fun f591 wd592 he593 hout594 hphi595 => ?_
                          have hS596 := St.extend hS420 he593
                          obtain ⟨S597, hS598, hf599⟩ := hphi595 11 78 _ rfl rfl rfl
                          have e600 : f591 78 = u581 := hf599
                          obtain ⟨S601, hS602, hf603⟩ := hphi595 12 79 _ rfl rfl rfl
                          obtain ⟨e604, hr605⟩ := hf603
                          exact OpX.val (Value.pointer (some (elA u581 ((k100 : Int)).toNat))) wd592 rfl (op_idx sl_36 (Ty.lift _ (Ext.trans hE7 hS596.ext) hr583) e600 e604 ha607 hb608) (Ext.refl _) rfl
                        · refine ObX.op rfl fun f610 wd611 he612 hout613 hphi614 => ?_
                          have hS615 := St.extend hS420 he612
                          obtain ⟨S616, hS617, hf618⟩ := hphi614 13 80 _ rfl rfl rfl
                          have e619 : f610 80 = (Value.pointer (some (elA u581 ((k100 : Int)).toNat))) := hf618
                          exact OpX.val (Value.int .i64 x606) wd611 rfl (op_load one_2 e619 (Ext.cell (Ext.trans hE7 hS615.ext) hc621)) (Ext.refl _) ⟨rfl, hr622⟩
                        · refine ObX.op rfl fun f623 wd624 he625 hout626 hphi627 => ?_
                          obtain ⟨S629, hS630, hf631⟩ := hphi627 7 74 _ rfl rfl rfl
                          obtain ⟨e632, hr633⟩ := hf631
                          obtain ⟨S634, hS635, hf636⟩ := hphi627 14 81 _ rfl rfl rfl
                          obtain ⟨e637, hr638⟩ := hf636
                          exact OpX.val (Value.int .i64 (w64 (x521 * x606))) wd624 rfl (op_mul e632 e637) (Ext.refl _) ⟨rfl, (inR_wrap _ _)⟩
                        · intro f639 wd640 Ss641 he642 hout643 hSn644 hSd645 hphi646
                          show WL _ _ _ _ _ _ _
                          have hS647 := St.extend hS420 he642
                          obtain ⟨e648, hr649⟩ := hphi646 0 67 _ (by decide) rfl rfl
                          obtain ⟨e650, hr651⟩ := hphi646 15 82 _ (by decide) rfl rfl
                          have e652 : f639 1 = (Value.pointer (some ⟨b1, 0, none⟩)) := (hout643 1 rfl).trans e425
                          have e653 : f639 3 = (Value.int .i64 (k12 : Int)) := (hout643 3 rfl).trans e426
                          have e654 : f639 4 = u33 := (hout643 4 rfl).trans e427
                          have e655 : f639 5 = (Value.int .i64 (k39 : Int)) := (hout643 5 rfl).trans e428
                          have e656 : f639 6 = u65 := (hout643 6 rfl).trans e429
                          have e657 : f639 7 = (Value.int .i64 (k71 : Int)) := (hout643 7 rfl).trans e430
                          have e658 : f639 8 = (Value.int .i64 (k100 : Int)) := (hout643 8 rfl).trans e431
                          have e659 : f639 9 = (Value.int .i64 (w64 (x133 + (w64 (x245 * x379))))) := (hout643 9 rfl).trans rfl
                          have e660 : f639 13 = v_r_Table := (hout643 13 rfl).trans e434
                          have e661 : f639 14 = (Value.int .i64 ((r_Table).length : Int)) := (hout643 14 rfl).trans e435
                          have e662 : f639 15 = (Value.int .i64 (k12 : Int)) := (hout643 15 rfl).trans e436
                          have e663 : f639 21 = v_r_Table := (hout643 21 rfl).trans e437
                          have e664 : f639 22 = (Value.int .i64 ((r_Table).length : Int)) := (hout643 22 rfl).trans e438
                          have e665 : f639 23 = (Value.int .i64 (k39 : Int)) := (hout643 23 rfl).trans e439
                          have e666 : f639 30 = (Value.int .i64 ((r_Table).length : Int)) := (hout643 30 rfl).trans e440
                          have e667 : f639 31 = (Value.int .i64 (k71 : Int)) := (hout643 31 rfl).trans e441
                          have e668 : f639 36 = (Value.int .i64 ((r_Table).length : Int)) := (hout643 36 rfl).trans e442
                          have e669 : f639 37 = (Value.int .i64 (k100 : Int)) := (hout643 37 rfl).trans e443
                          have e670 : f639 42 = (Value.int .i64 ((r_Table).length : Int)) := (hout643 42 rfl).trans e444
                          have e671 : f639 43 = (Value.int .i64 (k132 : Int)) := (hout643 43 rfl).trans e445
                          refine WL.val (Value.int .i64 (w64 (x134 + (w64 (x521 * x606))))) _ (op_add e648 e650) rfl ?_
                          refine WL.val (Value.int .i64 (w64 (x134 + (w64 (x521 * x606))))) _ (op_assign rfl) rfl ?_
                          refine WL.nil ?_
                          show W _ _ _ _ _ _
                          refine W.region ?_
                          refine WL.val (Value.int .i64 (w64 ((k132 : Int) + (1 : Int)))) _ (op_add e671 rfl) rfl ?_
                          refine WL.val (Value.int .i64 (w64 ((k132 : Int) + (1 : Int)))) _ (op_move rfl) rfl ?_
                          refine WL.nil ?_
                          obtain rfl := Option.some.inj hb139
                          show ∃ s, _ = Ctl.next s ∧ _
                          exact ⟨_, rfl, e652, e653, e654, e655, e656, e657, e658, e659, (inR_wrap _ _), rfl, (inR_wrap _ _), e660, e661, e662, e663, e664, e665, e666, e667, e668, e669, e670, (ctr_next hl168 hr129), (ctr_rng hl168 hr129), hS647⟩
                    · intro s677 f673 wd674 hs675 hI676
                      obtain ⟨x678, x679⟩ := s677
                      replace hI676 : f673 1 = (Value.pointer (some ⟨b1, 0, none⟩)) ∧ f673 3 = (Value.int .i64 (k12 : Int)) ∧ f673 4 = u33 ∧ f673 5 = (Value.int .i64 (k39 : Int)) ∧ f673 6 = u65 ∧ f673 7 = (Value.int .i64 (k71 : Int)) ∧ f673 8 = (Value.int .i64 (k100 : Int)) ∧ f673 9 = Value.int .i64 x678 ∧ InR .i64 x678 ∧ f673 10 = Value.int .i64 x679 ∧ InR .i64 x679 ∧ f673 13 = v_r_Table ∧ f673 14 = (Value.int .i64 ((r_Table).length : Int)) ∧ f673 15 = (Value.int .i64 (k12 : Int)) ∧ f673 21 = v_r_Table ∧ f673 22 = (Value.int .i64 ((r_Table).length : Int)) ∧ f673 23 = (Value.int .i64 (k39 : Int)) ∧ f673 30 = (Value.int .i64 ((r_Table).length : Int)) ∧ f673 31 = (Value.int .i64 (k71 : Int)) ∧ f673 36 = (Value.int .i64 ((r_Table).length : Int)) ∧ f673 37 = (Value.int .i64 (k100 : Int)) ∧ f673 42 = (Value.int .i64 ((r_Table).length : Int)) ∧ f673 43 = Value.int .i64 (((r_Table).length : Nat) : Int) ∧ InR .i64 (((r_Table).length : Nat) : Int) ∧ St wd2 wd674 [] := hI676
                      obtain ⟨hf680, hf681, hf682, hf683, hf684, hf685, hf686, hf687, hr688, hf689, hr690, hf691, hf692, hf693, hf694, hf695, hf696, hf697, hf698, hf699, hf700, hf701, hf702, hr703, hS704⟩ := hI676
                      refine W.seq (W.region ?_)
                      refine WL.val (Value.bool (decide ((((r_Table).length : Nat) : Int) < ((r_Table).length : Int)))) _ (op_lss hf702 hf701) rfl ?_
                      have hl705 : ¬ (((r_Table).length : Nat) : Int) < ((r_Table).length : Int) := by omega
                      refine WL.nil ?_
                      refine W.seq ?_
                      refine W.condF (decide ((((r_Table).length : Nat) : Int) < ((r_Table).length : Int))) rfl (decide_eq_false hl705) ?_
                      refine W.exit ?_
                      show _ = _ ∧ _
                      exact ⟨rfl, _, hs675, hf680, hf681, hf682, hf683, hf684, hf685, hf686, hf687, hr688, hf689, hr690, hf691, hf692, hf693, hf694, hf695, hf696, hf697, hf698, hf699, hf700, hS704⟩
                  · rintro f706 wd707 ⟨s709, rfl, hq708⟩
                    replace hb105 := onRes_fin hb105
                    obtain ⟨x710, x711⟩ := s709
                    replace hq708 : f706 1 = (Value.pointer (some ⟨b1, 0, none⟩)) ∧ f706 3 = (Value.int .i64 (k12 : Int)) ∧ f706 4 = u33 ∧ f706 5 = (Value.int .i64 (k39 : Int)) ∧ f706 6 = u65 ∧ f706 7 = (Value.int .i64 (k71 : Int)) ∧ f706 8 = (Value.int .i64 (k100 : Int)) ∧ f706 9 = Value.int .i64 x710 ∧ InR .i64 x710 ∧ f706 10 = Value.int .i64 x711 ∧ InR .i64 x711 ∧ f706 13 = v_r_Table ∧ f706 14 = (Value.int .i64 ((r_Table).length : Int)) ∧ f706 15 = (Value.int .i64 (k12 : Int)) ∧ f706 21 = v_r_Table ∧ f706 22 = (Value.int .i64 ((r_Table).length : Int)) ∧ f706 23 = (Value.int .i64 (k39 : Int)) ∧ f706 30 = (Value.int .i64 ((r_Table).length : Int)) ∧ f706 31 = (Value.int .i64 (k71 : Int)) ∧ f706 36 = (Value.int .i64 ((r_Table).length : Int)) ∧ f706 37 = (Value.int .i64 (k100 : Int)) ∧ St wd2 wd707 [] := hq708
                    replace hb105 : (_ : Option _) = _ := hb105
                    dsimp only at hb105
                    obtain ⟨hf712, hf713, hf714, hf715, hf716, hf717, hf718, hf719, hr720, hf721, hr722, hf723, hf724, hf725, hf726, hf727, hf728, hf729, hf730, hf731, hf732, hS733⟩ := hq708
                    refine W.seq (W.region ?_)
                    refine WL.val (Value.int .i64 x710) _ (op_move hf719) rfl ?_
                    refine WL.val (Value.int .i64 x711) _ (op_move hf721) rfl ?_
                    refine WL.val (Value.bool (x710 != x711)) _ (op_neq rfl rfl) rfl ?_
                    refine WL.nil ?_
                    refine W.cond (x710 != x711) rfl (fun hc734 => ?_) (fun hc734 => ?_)
                    · replace hb105 := ip hb105 hc734
                      refine W.seq (W.region ?_)
                      refine WL.val (Value.int .i64 (k12 : Int)) _ (op_move hf713) rfl ?_
                      refine WL.val (Value.int .i64 (k39 : Int)) _ (op_move hf715) rfl ?_
                      refine WL.val (Value.int .i64 (k71 : Int)) _ (op_move hf717) rfl ?_
                      refine WL.val (Value.int .i64 (k100 : Int)) _ (op_move hf718) rfl ?_
                      refine WL.litFlat (t := (Ty.i .i64)) (flat_i .i64) [(Value.int .i64 (3 : Int)), (Value.int .i64 (k12 : Int)), (Value.int .i64 (k39 : Int)), (Value.int .i64 (k71 : Int)), (Value.int .i64 (k100 : Int))] [(3 : Int), (k12 : Int), (k39 : Int), (k71 : Int), (k100 : Int)] hS733 sl_36 rfl rfl (fillL rfl ⟨rfl, rfl, rfl, rfl, rfl, rfl, rfl, rfl, rfl, rfl, rfl, rfl, rfl, rfl, rfl, trivial⟩) rfl rfl (litL ⟨⟨rfl, (inL rfl)⟩, ⟨rfl, hr25⟩, ⟨rfl, hr57⟩, ⟨rfl, hr93⟩, ⟨rfl, hr125⟩, trivial⟩) rfl ?_
                      intro u736 wd737 hS738 he739
                      replace hS738 : St wd2 wd737 [(Ty.sl (Ty.i .i64)).at u736 ([(3 : Int), (k12 : Int), (k39 : Int), (k71 : Int), (k100 : Int)] : (List Int))] := hS738
                      refine WL.val u736 _ (op_assign rfl) rfl ?_
                      refine WL.nil ?_
                      refine W.ret ?_
                      obtain rfl := Option.some.inj hb105
                      obtain rfl := hret108 _ rfl
                      replace hb76 := onRes_ret hb76
                      obtain rfl := Option.some.inj hb76
                      obtain rfl := hret79 _ rfl
                      replace hb44 := onRes_ret hb44
                      obtain rfl := Option.some.inj hb44
                      obtain rfl := hret47 _ rfl
                      replace hb17 := onRes_ret hb17
                      obtain rfl := Option.some.inj hb17
                      obtain rfl := hret20 _ rfl
                      replace h := onRes_ret h
                      obtain rfl := Option.some.inj h
                      show FinP _ _ _ _ _ _ _
                      exact FinP.ret _ (res1 rfl rfl) ⟨u736, rfl, (nil_cons), (Ext.trans hE7 hS738.ext), (St.out (St.pick hS738 [0] rfl) (hE7))⟩
                    · replace hb105 := inegb hb105 hc734
                      refine W.skip ?_
                      show W _ _ _ _ _ _
                      refine W.region ?_
                      refine WL.val (Value.int .i64 (w64 ((k100 : Int) + (1 : Int)))) _ (op_add hf732 rfl) rfl ?_
                      refine WL.val (Value.int .i64 (w64 ((k100 : Int) + (1 : Int)))) _ (op_move rfl) rfl ?_
                      refine WL.nil ?_
                      obtain rfl := Option.some.inj hb105
                      show ∃ s, _ = Ctl.next s ∧ _
                      exact ⟨_, rfl, hf712, hf713, hf714, hf715, hf716, hf717, hf723, hf724, hf725, hf726, hf727, hf728, hf729, hf730, hf731, (ctr_next hl127 hr97), (ctr_rng hl127 hr97), hS733⟩
                · intro s746 f742 wd743 hs744 hI745
                  obtain ⟨⟩ := s746
                  replace hI745 : f742 1 = (Value.pointer (some ⟨b1, 0, none⟩)) ∧ f742 3 = (Value.int .i64 (k12 : Int)) ∧ f742 4 = u33 ∧ f742 5 = (Value.int .i64 (k39 : Int)) ∧ f742 6 = u65 ∧ f742 7 = (Value.int .i64 (k71 : Int)) ∧ f742 13 = v_r_Table ∧ f742 14 = (Value.int .i64 ((r_Table).length : Int)) ∧ f742 15 = (Value.int .i64 (k12 : Int)) ∧ f742 21 = v_r_Table ∧ f742 22 = (Value.int .i64 ((r_Table).length : Int)) ∧ f742 23 = (Value.int .i64 (k39 : Int)) ∧ f742 30 = (Value.int .i64 ((r_Table).length : Int)) ∧ f742 31 = (Value.int .i64 (k71 : Int)) ∧ f742 36 = (Value.int .i64 ((r_Table).length : Int)) ∧ f742 37 = Value.int .i64 (((r_Table).length : Nat) : Int) ∧ InR .i64 (((r_Table).length : Nat) : Int) ∧ St wd2 wd743 [] := hI745
                  obtain ⟨hf747, hf748, hf749, hf750, hf751, hf752, hf753, hf754, hf755, hf756, hf757, hf758, hf759, hf760, hf761, hf762, hr763, hS764⟩ := hI745
                  refine W.seq (W.region ?_)
                  refine WL.val (Value.bool (decide ((((r_Table).length : Nat) : Int) < ((r_Table).length : Int)))) _ (op_lss hf762 hf761) rfl ?_
                  have hl765 : ¬ (((r_Table).length : Nat) : Int) < ((r_Table).length : Int) := by omega
                  refine WL.nil ?_
                  refine W.seq ?_
                  refine W.condF (decide ((((r_Table).length : Nat) : Int) < ((r_Table).length : Int))) rfl (decide_eq_false hl765) ?_
                  refine W.exit ?_
                  show _ = _ ∧ _
                  exact ⟨rfl, _, hs744, hf747, hf748, hf749, hf750, hf751, hf753, hf754, hf755, hf756, hf757, hf758, hf759, hf760, hS764⟩
              · rintro f766 wd767 ⟨s769, rfl, hq768⟩
                replace hb76 := onRes_fin hb76
                obtain ⟨⟩ := s769
                replace hq768 : f766 1 = (Value.pointer (some ⟨b1, 0, none⟩)) ∧ f766 3 = (Value.int .i64 (k12 : Int)) ∧ f766 4 = u33 ∧ f766 5 = (Value.int .i64 (k39 : Int)) ∧ f766 6 = u65 ∧ f766 13 = v_r_Table ∧ f766 14 = (Value.int .i64 ((r_Table).length : Int)) ∧ f766 15 = (Value.int .i64 (k12 : Int)) ∧ f766 21 = v_r_Table ∧ f766 22 = (Value.int .i64 ((r_Table).length : Int)) ∧ f766 23 = (Value.int .i64 (k39 : Int)) ∧ f766 30 = (Value.int .i64 ((r_Table).length : Int)) ∧ f766 31 = (Value.int .i64 (k71 : Int)) ∧ St wd2 wd767 [] := hq768
                obtain ⟨hf770, hf771, hf772, hf773, hf774, hf775, hf776, hf777, hf778, hf779, hf780, hf781, hf782, hS783⟩ := hq768
                show W _ _ _ _ _ _
                refine W.region ?_
                refine WL.val (Value.int .i64 (w64 ((k71 : Int) + (1 : Int)))) _ (op_add hf782 rfl) rfl ?_
                refine WL.val (Value.int .i64 (w64 ((k71 : Int) + (1 : Int)))) _ (op_move rfl) rfl ?_
                refine WL.nil ?_
                obtain rfl := Option.some.inj hb76
                show ∃ s, _ = Ctl.next s ∧ _
                exact ⟨_, rfl, hf770, hf771, hf772, hf773, hf774, hf775, hf776, hf777, hf778, hf779, hf780, hf781, (ctr_next hl95 hr68), (ctr_rng hl95 hr68), hS783⟩
            · intro s790 f786 wd787 hs788 hI789
              obtain ⟨⟩ := s790
              replace hI789 : f786 1 = (Value.pointer (some ⟨b1, 0, none⟩)) ∧ f786 3 = (Value.int .i64 (k12 : Int)) ∧ f786 4 = u33 ∧ f786 5 = (Value.int .i64 (k39 : Int)) ∧ f786 6 = u65 ∧ f786 13 = v_r_Table ∧ f786 14 = (Value.int .i64 ((r_Table).length : Int)) ∧ f786 15 = (Value.int .i64 (k12 : Int)) ∧ f786 21 = v_r_Table ∧ f786 22 = (Value.int .i64 ((r_Table).length : Int)) ∧ f786 23 = (Value.int .i64 (k39 : Int)) ∧ f786 30 = (Value.int .i64 ((r_Table).length : Int)) ∧ f786 31 = Value.int .i64 (((r_Table).length : Nat) : Int) ∧ InR .i64 (((r_Table).length : Nat) : Int) ∧ St wd2 wd787 [] := hI789
              obtain ⟨hf791, hf792, hf793, hf794, hf795, hf796, hf797, hf798, hf799, hf800, hf801, hf802, hf803, hr804, hS805⟩ := hI789
              refine W.seq (W.region ?_)
              refine WL.val (Value.bool (decide ((((r_Table).length : Nat) : Int) < ((r_Table).length : Int)))) _ (op_lss hf803 hf802) rfl ?_
              have hl806 : ¬ (((r_Table).length : Nat) : Int) < ((r_Table).length : Int) := by omega
              refine WL.nil ?_
              refine W.seq ?_
              refine W.condF (decide ((((r_Table).length : Nat) : Int) < ((r_Table).length : Int))) rfl (decide_eq_false hl806) ?_
              refine W.exit ?_
              show _ = _ ∧ _
              exact ⟨rfl, _, hs788, hf791, hf792, hf793, hf796, hf797, hf798, hf799, hf800, hf801, hS805⟩
          · rintro f807 wd808 ⟨s810, rfl, hq809⟩
            replace hb44 := onRes_fin hb44
            obtain ⟨⟩ := s810
            replace hq809 : f807 1 = (Value.pointer (some ⟨b1, 0, none⟩)) ∧ f807 3 = (Value.int .i64 (k12 : Int)) ∧ f807 4 = u33 ∧ f807 13 = v_r_Table ∧ f807 14 = (Value.int .i64 ((r_Table).length : Int)) ∧ f807 15 = (Value.int .i64 (k12 : Int)) ∧ f807 21 = v_r_Table ∧ f807 22 = (Value.int .i64 ((r_Table).length : Int)) ∧ f807 23 = (Value.int .i64 (k39 : Int)) ∧ St wd2 wd808 [] := hq809
            obtain ⟨hf811, hf812, hf813, hf814, hf815, hf816, hf817, hf818, hf819, hS820⟩ := hq809
            show W _ _ _ _ _ _
            refine W.region ?_
            refine WL.val (Value.int .i64 (w64 ((k39 : Int) + (1 : Int)))) _ (op_add hf819 rfl) rfl ?_
            refine WL.val (Value.int .i64 (w64 ((k39 : Int) + (1 : Int)))) _ (op_move rfl) rfl ?_
            refine WL.nil ?_
            obtain rfl := Option.some.inj hb44
            show ∃ s, _ = Ctl.next s ∧ _
            exact ⟨_, rfl, hf811, hf812, hf813, hf814, hf815, hf816, hf817, hf818, (ctr_next hl59 hr36), (ctr_rng hl59 hr36), hS820⟩
        · intro s827 f823 wd824 hs825 hI826
          obtain ⟨⟩ := s827
          replace hI826 : f823 1 = (Value.pointer (some ⟨b1, 0, none⟩)) ∧ f823 3 = (Value.int .i64 (k12 : Int)) ∧ f823 4 = u33 ∧ f823 13 = v_r_Table ∧ f823 14 = (Value.int .i64 ((r_Table).length : Int)) ∧ f823 15 = (Value.int .i64 (k12 : Int)) ∧ f823 21 = v_r_Table ∧ f823 22 = (Value.int .i64 ((r_Table).length : Int)) ∧ f823 23 = Value.int .i64 (((r_Table).length : Nat) : Int) ∧ InR .i64 (((r_Table).length : Nat) : Int) ∧ St wd2 wd824 [] := hI826
          obtain ⟨hf828, hf829, hf830, hf831, hf832, hf833, hf834, hf835, hf836, hr837, hS838⟩ := hI826
          refine W.seq (W.region ?_)
          refine WL.val (Value.bool (decide ((((r_Table).length : Nat) : Int) < ((r_Table).length : Int)))) _ (op_lss hf836 hf835) rfl ?_
          have hl839 : ¬ (((r_Table).length : Nat) : Int) < ((r_Table).length : Int) := by omega
          refine WL.nil ?_
          refine W.seq ?_
          refine W.condF (decide ((((r_Table).length : Nat) : Int) < ((r_Table).length : Int))) rfl (decide_eq_false hl839) ?_
          refine W.exit ?_
          show _ = _ ∧ _
          exact ⟨rfl, _, hs825, hf828, hf831, hf832, hf833, hS838⟩
      · rintro f840 wd841 ⟨s843, rfl, hq842⟩
        replace hb17 := onRes_fin hb17
        obtain ⟨⟩ := s843
        replace hq842 : f840 1 = (Value.pointer (some ⟨b1, 0, none⟩)) ∧ f840 13 = v_r_Table ∧ f840 14 = (Value.int .i64 ((r_Table).length : Int)) ∧ f840 15 = (Value.int .i64 (k12 : Int)) ∧ St wd2 wd841 [] := hq842
        obtain ⟨hf844, hf845, hf846, hf847, hS848⟩ := hq842
        show W _ _ _ _ _ _
        refine W.region ?_
        refine WL.val (Value.int .i64 (w64 ((k12 : Int) + (1 : Int)))) _ (op_add hf847 rfl) rfl ?_
        refine WL.val (Value.int .i64 (w64 ((k12 : Int) + (1 : Int)))) _ (op_move rfl) rfl ?_
        refine WL.nil ?_
        obtain rfl := Option.some.inj hb17
        show ∃ s, _ = Ctl.next s ∧ _
        exact ⟨_, rfl, hf844, hf845, hf846, (ctr_next hl27 hr9), (ctr_rng hl27 hr9), hS848⟩
    · intro s855 f851 wd852 hs853 hI854
      obtain ⟨⟩ := s855
      replace hI854 : f851 1 = (Value.pointer (some ⟨b1, 0, none⟩)) ∧ f851 13 = v_r_Table ∧ f851 14 = (Value.int .i64 ((r_Table).length : Int)) ∧ f851 15 = Value.int .i64 (((r_Table).length : Nat) : Int) ∧ InR .i64 (((r_Table).length : Nat) : Int) ∧ St wd2 wd852 [] := hI854
      obtain ⟨hf856, hf857, hf858, hf859, hr860, hS861⟩ := hI854
      refine W.seq (W.region ?_)
      refine WL.val (Value.bool (decide ((((r_Table).length : Nat) : Int) < ((r_Table).length : Int)))) _ (op_lss hf859 hf858) rfl ?_
      have hl862 : ¬ (((r_Table).length : Nat) : Int) < ((r_Table).length : Int) := by omega
      refine WL.nil ?_
      refine W.seq ?_
      refine W.condF (decide ((((r_Table).length : Nat) : Int) < ((r_Table).length : Int))) rfl (decide_eq_false hl862) ?_
      refine W.exit ?_
      show _ = _ ∧ _
      exact ⟨rfl, _, hs853, hS861⟩
  · rintro f863 wd864 ⟨s866, rfl, hq865⟩
    replace h := onRes_fin h
    obtain ⟨⟩ := s866
    replace hq865 : St wd2 wd864 [] := hq865
    have hS867 := hq865
    refine W.seq (W.region ?_)
    refine WL.val (Value.slice none 0 0) _ (op_assign rfl) rfl ?_
    refine WL.nil ?_
    refine W.ret ?_
    obtain rfl := Option.some.inj h
    show FinP _ _ _ _ _ _ _
    exact FinP.ret _ (res1 rfl rfl) ⟨(Value.slice none 0 0), rfl, (fun _ => ⟨0, 0, rfl⟩), (Ext.trans hE7 hS867.ext), (St.out (St.pick (St.addNil (Ty.i .i64) hS867) [0] rfl) (hE7))⟩

theorem c_impl_Ring_fault {w : World} {r_Table : (List (List (List Int)))} {v_r_Table : Value} (r_r_Table : (Ty.sl (Ty.sl (Ty.sl (Ty.i .i64)))).rep w v_r_Table r_Table) {res : (List Int)} (h : p_impl_Ring_fault r_Table  = some res) :
    Ret Try.prog 51 #[(Value.agg #[v_r_Table])] w (fun v w' => ∃ (u0 : Value), v = u0 ∧ NilIff u0 res ∧ Ext w w' ∧ Sep w.heap.size w' [(Ty.sl (Ty.i .i64)).at u0 res]) := by
  unfold p_impl_Ring_fault at h
  have hS0 : St w w [] := St.start w
  refine Ret.start (fn := Try.f51) Try.func51 rfl 24 rfl rfl ?_
  refine W.seq (W.region ?_)
  refine WL.box hS0 rfl (cs := [v_r_Table]) rfl rfl ?_
  intro b1 wd2 hS3 he4 hx5
  replace hS3 : St w wd2 [bx b1 [v_r_Table]] := hS3
  have hx6 := St.boxAt hS3 0 rfl
  have hE7 : Ext w wd2 := hS3.ext
  have hS8 : St wd2 wd2 [] := St.start wd2
  refine WL.val (Value.slice none 0 0) _ (op_assign rfl) rfl ?_
  refine WL.nil ?_
  refine W.seq (W.seq (W.region ?_))
  refine WL.val (Value.agg #[v_r_Table]) _ (op_loadBox st_30 rfl (BoxAt.lift hS8.ext hx6) rfl rfl) rfl ?_
  obtain ⟨x9, hx10, h⟩ := bs h
  refine WL.call _ (op_call fn_64 (args1 rfl)) (c_impl_Ring_unitFault (Ty.lift _ (Ext.trans hE7 hS8.ext) r_r_Table) hx10) rfl ?_
  rintro u11 wd13 ⟨_, rfl, hn12, he14, hs15⟩
  have hS16 := St.join hS8 he14 hs15
  replace hS16 : St wd2 wd13 [(Ty.sl (Ty.i .i64)).at u11 x9] := hS16
  refine WL.val u11 _ (op_assign rfl) rfl ?_
  refine WL.nil ?_
  refine W.seq (W.region ?_)
  refine WL.val u11 _ (op_move rfl) rfl ?_
  refine WL.val (Value.bool (!(x9).isEmpty)) _ (op_neqNilL sl_36 (St.rep (t := (Ty.sl (Ty.i .i64))) hS16 0 rfl) hn12 rfl rfl) rfl ?_
  refine WL.nil ?_
  refine W.cond (!(x9).isEmpty) rfl (fun hc17 => ?_) (fun hc17 => ?_)
  · replace h := ip h hc17
    refine W.seq (W.region ?_)
    refine WL.val u11 _ (op_move rfl) rfl ?_
    refine WL.val u11 _ (op_assign rfl) rfl ?_
    refine WL.nil ?_
    refine W.ret ?_
    obtain rfl := Option.some.inj h
    show FinP _ _ _ _ _ _ _
    exact FinP.ret _ (res1 rfl rfl) ⟨u11, rfl, hn12, (Ext.trans hE7 hS16.ext), (St.out (St.pick hS16 [0] rfl) (hE7))⟩
  · replace h := inegb h hc17
    refine W.skip ?_
    refine W.seq (W.seq (W.region ?_))
    refine WL.val (Value.agg #[v_r_Table]) _ (op_loadBox st_30 rfl (BoxAt.lift hS16.ext hx6) rfl rfl) rfl ?_
    obtain ⟨x19, hx20, h⟩ := bs h
    refine WL.call _ (op_call fn_65 (args1 rfl)) (c_impl_Ring_dualFault (Ty.lift _ (Ext.trans hE7 hS16.ext) r_r_Table) hx20) rfl ?_
    rintro _ wd22 ⟨rfl, hr21, he23⟩
    have hS25 := St.extend hS16 he23
    replace hS25 : St wd2 wd22 [(Ty.sl (Ty.i .i64)).at u11 x9] := hS25
    refine WL.val (Value.int .i64 x19) _ (op_assign rfl) rfl ?_
    refine WL.nil ?_
    refine W.seq (W.region ?_)
    refine WL.val (Value.int .i64 x19) _ (op_move rfl) rfl ?_
    refine WL.val (Value.bool (decide (x19 ≥ (0 : Int)))) _ (op_geq rfl rfl) rfl ?_
    refine WL.nil ?_
    refine W.cond (decide (x19 ≥ (0 : Int))) rfl (fun hc26 => ?_) (fun hc26 => ?_)
    · replace h := ip h hc26
      refine W.seq (W.region ?_)
      refine WL.val (Value.int .i64 x19) _ (op_move rfl) rfl ?_
      refine WL.litFlat (t := (Ty.i .i64)) (flat_i .i64) [(Value.int .i64 (1 : Int)), (Value.int .i64 x19)] [(1 : Int), x19] hS25 sl_36 rfl rfl (fillL rfl ⟨rfl, rfl, rfl, rfl, rfl, rfl, trivial⟩) rfl rfl (litL ⟨⟨rfl, (inL rfl)⟩, ⟨rfl, hr21⟩, trivial⟩) rfl ?_
      intro u28 wd29 hS30 he31
      replace hS30 : St wd2 wd29 [(Ty.sl (Ty.i .i64)).at u11 x9, (Ty.sl (Ty.i .i64)).at u28 ([(1 : Int), x19] : (List Int))] := hS30
      refine WL.val u28 _ (op_assign rfl) rfl ?_
      refine WL.nil ?_
      refine W.ret ?_
      obtain rfl := Option.some.inj h
      show FinP _ _ _ _ _ _ _
      exact FinP.ret _ (res1 rfl rfl) ⟨u28, rfl, (nil_cons), (Ext.trans hE7 hS30.ext), (St.out (St.pick hS30 [1] rfl) (hE7))⟩
    · replace h := inegb h hc26
      refine W.skip ?_
      refine W.seq (W.seq (W.region ?_))
      refine WL.val (Value.agg #[v_r_Table]) _ (op_loadBox st_30 rfl (BoxAt.lift hS25.ext hx6) rfl rfl) rfl ?_
      obtain ⟨x32, hx33, h⟩ := bs h
      refine WL.call _ (op_call fn_66 (args1 rfl)) (c_impl_Ring_turnFault (Ty.lift _ (Ext.trans hE7 hS25.ext) r_r_Table) hx33) rfl ?_
      rintro u34 wd36 ⟨_, rfl, hn35, he37, hs38⟩
      have hS39 := St.join hS25 he37 hs38
      replace hS39 : St wd2 wd36 [(Ty.sl (Ty.i .i64)).at u11 x9, (Ty.sl (Ty.i .i64)).at u34 x32] := hS39
      refine WL.val u34 _ (op_assign rfl) rfl ?_
      refine WL.nil ?_
      refine W.seq (W.region ?_)
      refine WL.val u34 _ (op_move rfl) rfl ?_
      refine WL.val (Value.bool (!(x32).isEmpty)) _ (op_neqNilL sl_36 (St.rep (t := (Ty.sl (Ty.i .i64))) hS39 1 rfl) hn35 rfl rfl) rfl ?_
      refine WL.nil ?_
      refine W.cond (!(x32).isEmpty) rfl (fun hc40 => ?_) (fun hc40 => ?_)
      · replace h := ip h hc40
        refine W.seq (W.region ?_)
        refine WL.val u34 _ (op_move rfl) rfl ?_
        refine WL.val u34 _ (op_assign rfl) rfl ?_
        refine WL.nil ?_
        refine W.ret ?_
        obtain rfl := Option.some.inj h
        show FinP _ _ _ _ _ _ _
        exact FinP.ret _ (res1 rfl rfl) ⟨u34, rfl, hn35, (Ext.trans hE7 hS39.ext), (St.out (St.pick hS39 [1] rfl) (hE7))⟩
      · replace h := inegb h hc40
        refine W.skip ?_
        refine W.seq (W.region ?_)
        refine WL.val (Value.agg #[v_r_Table]) _ (op_loadBox st_30 rfl (BoxAt.lift hS39.ext hx6) rfl rfl) rfl ?_
        obtain ⟨x42, hx43, h⟩ := bs h
        refine WL.call _ (op_call fn_67 (args1 rfl)) (c_impl_Ring_bracketFault (Ty.lift _ (Ext.trans hE7 hS39.ext) r_r_Table) hx43) rfl ?_
        rintro u44 wd46 ⟨_, rfl, hn45, he47, hs48⟩
        have hS49 := St.join hS39 he47 hs48
        replace hS49 : St wd2 wd46 [(Ty.sl (Ty.i .i64)).at u11 x9, (Ty.sl (Ty.i .i64)).at u34 x32, (Ty.sl (Ty.i .i64)).at u44 x42] := hS49
        refine WL.val u44 _ (op_assign rfl) rfl ?_
        refine WL.nil ?_
        refine W.ret ?_
        obtain rfl := Option.some.inj h
        show FinP _ _ _ _ _ _ _
        exact FinP.ret _ (res1 rfl rfl) ⟨u44, rfl, hn45, (Ext.trans hE7 hS49.ext), (St.out (St.pick hS49 [2] rfl) (hE7))⟩

theorem c_impl_IsRing {w : World} {r_Table : (List (List (List Int)))} {v_r_Table : Value} (r_r_Table : (Ty.sl (Ty.sl (Ty.sl (Ty.i .i64)))).rep w v_r_Table r_Table) {res : Bool} (h : p_impl_IsRing r_Table  = some res) :
    Ret Try.prog 29 #[(Value.agg #[v_r_Table])] w (fun v w' => v = Value.bool res ∧ Ext w w') := by
  unfold p_impl_IsRing at h
  have hS0 : St w w [] := St.start w
  refine Ret.start (fn := Try.f29) Try.func29 rfl 10 rfl rfl ?_
  refine W.seq (W.region ?_)
  refine WL.box hS0 rfl (cs := [v_r_Table]) rfl rfl ?_
  intro b1 wd2 hS3 he4 hx5
  replace hS3 : St w wd2 [bx b1 [v_r_Table]] := hS3
  have hx6 := St.boxAt hS3 0 rfl
  have hE7 : Ext w wd2 := hS3.ext
  have hS8 : St wd2 wd2 [] := St.start wd2
  refine WL.val (Value.bool false) _ (op_assign rfl) rfl ?_
  refine WL.nil ?_
  refine W.seq (W.region ?_)
  refine WL.val (Value.agg #[v_r_Table]) _ (op_loadBox st_30 rfl (BoxAt.lift hS8.ext hx6) rfl rfl) rfl ?_
  obtain ⟨x9, hx10, h⟩ := bs h
  refine WL.call _ (op_call fn_50 (args1 rfl)) (c_impl_isCube (Ty.lift _ (Ext.trans hE7 hS8.ext) r_r_Table) hx10) rfl ?_
  rintro _ wd11 ⟨rfl, he12⟩
  have hS14 := St.extend hS8 he12
  replace hS14 : St wd2 wd11 [] := hS14
  refine WL.val (Value.bool x9) _ (op_move rfl) rfl ?_
  obtain ⟨x16, hj17, h⟩ := bs h
  refine WL.cut 4 (fun fq wq => fq 9 = Value.bool x16 ∧ St wd2 wq []) ?_ ?_
  · rcases Bool.eq_false_or_eq_true x9 with hc15 | hc15
    · replace hj17 := ip hj17 hc15
      refine WL.grun rfl (bool_of rfl hc15) ?_
      refine WL.val (Value.agg #[v_r_Table]) _ (op_loadBox st_30 rfl (BoxAt.lift hS14.ext hx6) rfl rfl) rfl ?_
      refine WL.grun rfl (bool_of rfl hc15) ?_
      obtain ⟨x21, hx22, hj17⟩ := bs hj17
      refine WL.call _ (op_call fn_51 (args1 rfl)) (c_impl_Ring_fault (Ty.lift _ (Ext.trans hE7 hS14.ext) r_r_Table) hx22) rfl ?_
      rintro u23 wd25 ⟨_, rfl, hn24, he26, hs27⟩
      have hS28 := St.join hS14 he26 hs27
      replace hS28 : St wd2 wd25 [(Ty.sl (Ty.i .i64)).at u23 x21] := hS28
      refine WL.grun rfl (bool_of rfl hc15) ?_
      refine WL.val (Value.bool (x21).isEmpty) _ (op_eqlNilL sl_36 (St.rep (t := (Ty.sl (Ty.i .i64))) hS28 0 rfl) hn24 rfl rfl) rfl ?_
      refine WL.val (Value.bool (x21).isEmpty) _ (op_pick_t (evb_of rfl hc15) rfl) rfl ?_
      refine WL.nil ?_
      obtain rfl := Option.some.inj hj17
      exact ⟨rfl, rfl, (St.pick hS28 [] rfl)⟩
    · replace hj17 := inegb hj17 hc15
      refine WL.gskip rfl (bool_of rfl hc15) rfl ?_
      refine WL.gskip rfl (bool_of rfl hc15) rfl ?_
      refine WL.gskip rfl (bool_of rfl hc15) rfl ?_
      refine WL.val (Value.bool false) _ (op_pick_f (evb_of rfl hc15) rfl) rfl ?_
      refine WL.nil ?_
      obtain rfl := Option.some.inj hj17
      exact ⟨rfl, rfl, hS14⟩
  · intro f18 wd19 hq20
    obtain ⟨hf29, hS30⟩ := hq20
    refine WL.val (Value.bool x16) _ (op_assign hf29) rfl ?_
    refine WL.nil ?_
    refine W.ret ?_
    obtain rfl := Option.some.inj h
    show FinP _ _ _ _ _ _ _
    exact FinP.ret _ (res1 rfl rfl) ⟨rfl, (Ext.trans hE7 hS30.ext)⟩

theorem c_impl_IsTrivalent {w : World} {graph : (List (List Int))} {v_graph : Value} (r_graph : (Ty.sl (Ty.sl (Ty.i .i64))).rep w v_graph graph) {res : Bool} (h : p_impl_IsTrivalent graph  = some res) :
    Ret Try.prog 30 #[v_graph] w (fun v w' => v = Value.bool res ∧ Ext w w') := by
  unfold p_impl_IsTrivalent at h
  have hS0 : St w w [] := St.start w
  refine Ret.start (fn := Try.f30) Try.func30 rfl 57 rfl rfl ?_
  refine W.seq (W.region ?_)
  refine WL.val (Value.bool false) _ (op_assign rfl) rfl ?_
  refine WL.nil ?_
  refine W.seq (W.region ?_)
  refine WL.makeMap hS0 rfl ?_
  intro u1 wd2 hS3 he4
  replace hS3 : St w wd2 [Ty.mp.at u1 ([] : List (Int × Int))] := hS3
  refine WL.val u1 _ (op_assign rfl) rfl ?_
  refine WL.nil ?_
  refine W.seq (W.seq (W.region ?_))
  refine WL.val v_graph _ (op_move rfl) rfl ?_
  have hr5 := inR_len (Ty.lift _ hS3.ext r_graph)
  refine WL.val (Value.int .i64 ((graph).length : Int)) _ (op_lenL sl_25 (Ty.lift _ hS3.ext r_graph) rfl) rfl ?_
  refine WL.val (Value.int .i64 (0 : Int)) _ (op_move rfl) rfl ?_
  refine WL.nil ?_
  show W _ _ _ _ _ _
  obtain ⟨res6, hres7, h⟩ := bs h
  refine W.blockLoop (fun fq wq => ∃ s, res6 = Res.fin s ∧ fq 3 = u1 ∧ St w wq [Ty.mp.at u1 s]) ?_ ?_
  · refine W.forN (fun k (s : (List (Int × Int))) fq wq => fq 3 = u1 ∧ fq 11 = v_graph ∧ fq 12 = (Value.int .i64 ((graph).length : Int)) ∧ fq 13 = Value.int .i64 (k : Int) ∧ InR .i64 (k : Int) ∧ St w wq [Ty.mp.at u1 s]) hres7 ⟨rfl, rfl, rfl, rfl, (inL rfl), hS3⟩ ?_ ?_
    · intro k8 x9 ct10 f11 wd12 hk13 hb14 hI15 hbrk16 hret17
      replace hI15 : f11 3 = u1 ∧ f11 11 = v_graph ∧ f11 12 = (Value.int .i64 ((graph).length : Int)) ∧ f11 13 = Value.int .i64 (k8 : Int) ∧ InR .i64 (k8 : Int) ∧ St w wd12 [Ty.mp.at u1 x9] := hI15
      replace hb14 : p_impl_IsTrivalent_L1 graph k8 x9 = some ct10 := hb14
      unfold p_impl_IsTrivalent_L1 at hb14
      obtain ⟨hf18, hf19, hf20, hf21, hr22, hS23⟩ := hI15
      refine W.seq (W.region ?_)
      refine WL.val (Value.bool (decide ((k8 : Int) < ((graph).length : Int)))) _ (op_lss hf21 hf20) rfl ?_
      have hl24 : (k8 : Int) < ((graph).length : Int) := by omega
      refine WL.nil ?_
      refine W.seq ?_
      refine W.condT (decide ((k8 : Int) < ((graph).length : Int))) rfl (decide_eq_true hl24) ?_
      refine W.skip ?_
      refine W.seq ?_
      refine W.block ?_
      refine W.seq (W.region ?_)
      obtain ⟨x26, hx29, hb14⟩ := bs hb14
      obtain ⟨ha27, hb28, hx29⟩ := idx_some hx29
      refine WL.val (Value.pointer (some (elA v_graph ((k8 : Int)).toNat))) _ (op_idx sl_25 (Ty.lift _ hS23.ext r_graph) hf19 hf21 ha27 hb28) rfl ?_
      obtain ⟨u30, hc31, hr32⟩ := repSl.el r_graph hx29
      refine WL.val u30 _ (op_load one_36 rfl (Ext.cell hS23.ext hc31)) rfl ?_
      refine WL.val u30 _ (op_assign rfl) rfl ?_
      refine WL.nil ?_
      refine W.seq (W.seq (W.region ?_))
      refine WL.val u30 _ (op_move rfl) rfl ?_
      have hr33 := inR_len (Ty.lift _ hS23.ext hr32)
      refine WL.val (Value.int .i64 ((x26).length : Int)) _ (op_lenL sl_36 (Ty.lift _ hS23.ext hr32) rfl) rfl ?_
      refine WL.val (Value.bool (((x26).length : Int) != (3 : Int))) _ (op_neq rfl rfl) rfl ?_
      refine WL.nil ?_
      refine W.cond (((x26).length : Int) != (3 : Int)) rfl (fun hc34 => ?_) (fun hc34 => ?_)
      · replace hb14 := ip hb14 hc34
        refine W.seq (W.region ?_)
        refine WL.val (Value.bool false) _ (op_assign rfl) rfl ?_
        refine WL.nil ?_
        refine W.ret ?_
        obtain rfl := Option.some.inj hb14
        obtain rfl := hret17 _ rfl
        replace h := onRes_ret h
        obtain rfl := Option.some.inj h
        show FinP _ _ _ _ _ _ _
        exact FinP.ret _ (res1 rfl rfl) ⟨rfl, hS23.ext⟩
      · replace hb14 := inegb hb14 hc34
        refine W.skip ?_
        refine W.seq (W.region ?_)
        refine WL.val u30 _ (op_move rfl) rfl ?_
        have hr36 := inR_len (Ty.lift _ hS23.ext hr32)
        refine WL.val (Value.int .i64 ((x26).length : Int)) _ (op_lenL sl_36 (Ty.lift _ hS23.ext hr32) rfl) rfl ?_
        refine WL.val (Value.int .i64 (0 : Int)) _ (op_move rfl) rfl ?_
        refine WL.nil ?_
        show W _ _ _ _ _ _
        obtain ⟨res37, hres38, hb14⟩ := bs hb14
        refine W.blockLoop (fun fq wq => ∃ s, res37 = Res.fin s ∧ fq 3 = u1 ∧ fq 11 = v_graph ∧ fq 12 = (Value.int .i64 ((graph).length : Int)) ∧ fq 13 = (Value.int .i64 (k8 : Int)) ∧ St w wq [Ty.mp.at u1 s]) ?_ ?_
        · refine W.forN (fun k (s : (List (Int × Int))) fq wq => fq 3 = u1 ∧ fq 11 = v_graph ∧ fq 12 = (Value.int .i64 ((graph).length : Int)) ∧ fq 13 = (Value.int .i64 (k8 : Int)) ∧ fq 20 = u30 ∧ fq 21 = (Value.int .i64 ((x26).length : Int)) ∧ fq 22 = Value.int .i64 (k : Int) ∧ InR .i64 (k : Int) ∧ St w wq [Ty.mp.at u1 s]) hres38 ⟨hf18, hf19, hf20, hf21, rfl, rfl, rfl, (inL rfl), hS23⟩ ?_ ?_
          · intro k39 x40 ct41 f42 wd43 hk44 hb45 hI46 hbrk47 hret48
            replace hI46 : f42 3 = u1 ∧ f42 11 = v_graph ∧ f42 12 = (Value.int .i64 ((graph).length : Int)) ∧ f42 13 = (Value.int .i64 (k8 : Int)) ∧ f42 20 = u30 ∧ f42 21 = (Value.int .i64 ((x26).length : Int)) ∧ f42 22 = Value.int .i64 (k39 : Int) ∧ InR .i64 (k39 : Int) ∧ St w wd43 [Ty.mp.at u1 x40] := hI46
            replace hb45 : p_impl_IsTrivalent_L2 x26 k39 x40 = some ct41 := hb45
            unfold p_impl_IsTrivalent_L2 at hb45
            obtain ⟨hf49, hf50, hf51, hf52, hf53, hf54, hf55, hr56, hS57⟩ := hI46
            refine W.seq (W.region ?_)
            refine WL.val (Value.bool (decide ((k39 : Int) < ((x26).length : Int)))) _ (op_lss hf55 hf54) rfl ?_
            have hl58 : (k39 : Int) < ((x26).length : Int) := by omega
            refine WL.nil ?_
            refine W.seq ?_
            refine W.condT (decide ((k39 : Int) < ((x26).length : Int))) rfl (decide_eq_true hl58) ?_
            refine W.skip ?_
            refine W.seq ?_
            refine W.block ?_
            refine W.seq (W.region ?_)
            obtain ⟨x60, hx63, hb45⟩ := bs hb45
            obtain ⟨ha61, hb62, hx63⟩ := idx_some hx63
            refine WL.val (Value.pointer (some (elA u30 ((k39 : Int)).toNat))) _ (op_idx sl_36 (Ty.lift _ hS57.ext hr32) hf53 hf55 ha61 hb62) rfl ?_
            obtain ⟨u64, hc65, hr66⟩ := repSl.el hr32 hx63
            obtain ⟨rfl, hr66⟩ := hr66
            refine WL.val (Value.int .i64 x60) _ (op_load one_2 rfl (Ext.cell hS57.ext hc65)) rfl ?_
            refine WL.val (Value.int .i64 x60) _ (op_assign rfl) rfl ?_
            refine WL.nil ?_
            show W _ _ _ _ _ _
            refine W.region ?_
            refine WL.val u1 _ (op_move hf49) rfl ?_
            refine WL.val (Value.int .i64 x60) _ (op_move rfl) rfl ?_
            refine WL.val (Value.int .i64 (mpGet x40 x60)) _ (op_mpGet mpt_67 (St.rep (t := Ty.mp) hS57 0 rfl) rfl rfl) rfl ?_
            refine WL.val (Value.int .i64 (w64 ((mpGet x40 x60) + (1 : Int)))) _ (op_add rfl rfl) rfl ?_
            refine WL.mapUpdate hS57 (k := 0) rfl mpt_67 rfl rfl rfl hr66 (inR_wrap _ _) ?_
            intro wd67 hS68
            replace hS68 : St w wd67 [Ty.mp.at u1 (mpPut x40 x60 (w64 ((mpGet x40 x60) + (1 : Int))))] := hS68
            refine WL.nil ?_
            show W _ _ _ _ _ _
            refine W.region ?_
            refine WL.val (Value.int .i64 (w64 ((k39 : Int) + (1 : Int)))) _ (op_add hf55 rfl) rfl ?_
            refine WL.val (Value.int .i64 (w64 ((k39 : Int) + (1 : Int)))) _ (op_move rfl) rfl ?_
            refine WL.nil ?_
            obtain rfl := Option.some.inj hb45
            show ∃ s, _ = Ctl.next s ∧ _
            exact ⟨_, rfl, hf49, hf50, hf51, hf52, hf53, hf54, (ctr_next hl58 hr36), (ctr_rng hl58 hr36), hS68⟩
          · intro x75 f70 wd71 hs72 hI73
            replace hI73 : f70 3 = u1 ∧ f70 11 = v_graph ∧ f70 12 = (Value.int .i64 ((graph).length : Int)) ∧ f70 13 = (Value.int .i64 (k8 : Int)) ∧ f70 20 = u30 ∧ f70 21 = (Value.int .i64 ((x26).length : Int)) ∧ f70 22 = Value.int .i64 (((x26).length : Nat) : Int) ∧ InR .i64 (((x26).length : Nat) : Int) ∧ St w wd71 [Ty.mp.at u1 x75] := hI73
            obtain ⟨hf76, hf77, hf78, hf79, hf80, hf81, hf82, hr83, hS84⟩ := hI73
            refine W.seq (W.region ?_)
            refine WL.val (Value.bool (decide ((((x26).length : Nat) : Int) < ((x26).length : Int)))) _ (op_lss hf82 hf81) rfl ?_
            have hl85 : ¬ (((x26).length : Nat) : Int) < ((x26).length : Int) := by omega
            refine WL.nil ?_
            refine W.seq ?_
            refine W.condF (decide ((((x26).length : Nat) : Int) < ((x26).length : Int))) rfl (decide_eq_false hl85) ?_
            refine W.exit ?_
            show _ = _ ∧ _
            exact ⟨rfl, _, hs72, hf76, hf77, hf78, hf79, hS84⟩
        · rintro f86 wd87 ⟨x90, rfl, hq88⟩
          replace hb14 := onRes_fin hb14
          replace hq88 : f86 3 = u1 ∧ f86 11 = v_graph ∧ f86 12 = (Value.int .i64 ((graph).length : Int)) ∧ f86 13 = (Value.int .i64 (k8 : Int)) ∧ St w wd87 [Ty.mp.at u1 x90] := hq88
          obtain ⟨hf91, hf92, hf93, hf94, hS95⟩ := hq88
          show W _ _ _ _ _ _
          refine W.region ?_
          refine WL.val (Value.int .i64 (w64 ((k8 : Int) + (1 : Int)))) _ (op_add hf94 rfl) rfl ?_
          refine WL.val (Value.int .i64 (w64 ((k8 : Int) + (1 : Int)))) _ (op_move rfl) rfl ?_
          refine WL.nil ?_
          obtain rfl := Option.some.inj hb14
          show ∃ s, _ = Ctl.next s ∧ _
          exact ⟨_, rfl, hf91, hf92, hf93, (ctr_next hl24 hr5), (ctr_rng hl24 hr5), hS95⟩
    · intro x103 f98 wd99 hs100 hI101
      replace hI101 : f98 3 = u1 ∧ f98 11 = v_graph ∧ f98 12 = (Value.int .i64 ((graph).length : Int)) ∧ f98 13 = Value.int .i64 (((graph).length : Nat) : Int) ∧ InR .i64 (((graph).length : Nat) : Int) ∧ St w wd99 [Ty.mp.at u1 x103] := hI101
      obtain ⟨hf104, hf105, hf106, hf107, hr108, hS109⟩ := hI101
      refine W.seq (W.region ?_)
      refine WL.val (Value.bool (decide ((((graph).length : Nat) : Int) < ((graph).length : Int)))) _ (op_lss hf107 hf106) rfl ?_
      have hl110 : ¬ (((graph).length : Nat) : Int) < ((graph).length : Int) := by omega
      refine WL.nil ?_
      refine W.seq ?_
      refine W.condF (decide ((((graph).length : Nat) : Int) < ((graph).length : Int))) rfl (decide_eq_false hl110) ?_
      refine W.exit ?_
      show _ = _ ∧ _
      exact ⟨rfl, _, hs100, hf104, hS109⟩
  · rintro f111 wd112 ⟨x115, rfl, hq113⟩
    replace h := onRes_fin h
    replace hq113 : f111 3 = u1 ∧ St w wd112 [Ty.mp.at u1 x115] := hq113
    obtain ⟨hf116, hS117⟩ := hq113
    refine W.seq (W.seq (W.region ?_))
    refine WL.val u1 _ (op_move hf116) rfl ?_
    refine WL.range hS117 (k := 0) rfl mpt_67 rfl rfl ?_
    intro r118 b119 wd120 hv121 hS122 he123
    replace hS122 : St w wd120 [Ty.mp.at u1 x115, itAt r118 b119 (x115).length []] := hS122
    refine WL.nil ?_
    show W _ _ _ _ _ _
    obtain ⟨res124, hres125, h⟩ := bs h
    refine W.blockLoop (fun fq wq => res124 = Res.fin () ∧ fq 3 = u1 ∧ St w wq [Ty.mp.at u1 x115]) ?_ ?_
    · refine W.rangeMap (fun (seen126 : List Nat) fq wq => fq 33 = (Value.pointer (some ⟨r118, 0, none⟩)) ∧ fq 3 = u1 ∧ St w wq [Ty.mp.at u1 x115, itAt r118 b119 (x115).length seen126]) hres125 ⟨rfl, hf116, hS122⟩ ?_
      intro seen126 f127 wd128 hI129 hg130
      obtain ⟨e140, e141, hS142⟩ := hI129
      refine W.seq (W.region ?_)
      refine WL.next hS142 (k := 0) (k2 := 1) rfl rfl hv121 e140 rfl ?_ ?_
      · intro ha166
        refine WL.val (Value.bool false) _ (op_extract rfl rfl) rfl ?_
        refine WL.nil ?_
        refine W.seq (W.condF false rfl rfl ?_)
        refine W.exit ?_
        show _ = _ ∧ _
        exact ⟨rfl, rangeM_end hres125 (fun j hj => hg130 j (ha166 j hj)), e141, (St.pick hS142 [0] rfl)⟩
      · intro i131 wd143 hi132 hns133 hS134
        have rg139 := mp_in (w := wd143) (St.rep (t := Ty.mp) hS134 0 rfl) hi132
        refine WL.val (Value.bool true) _ (op_extract rfl rfl) rfl ?_
        refine WL.nil ?_
        refine W.seq (W.condT true rfl rfl ?_)
        refine W.skip ?_
        show W _ _ _ _ _ _
        obtain ⟨ct137, hb135, hc138⟩ := rangeM_some hres125 hi132
        have hb136 := hb135
        replace hb135 : p_impl_IsTrivalent_L3 x115 (((x115).getD i131 (0, 0)).1) (((x115).getD i131 (0, 0)).2) = some ct137 := hb135
        unfold p_impl_IsTrivalent_L3 at hb135
        refine W.block ?_
        refine W.seq (W.region ?_)
        refine WL.val (Value.tuple #[(Value.int .i64 ((x115).getD i131 (0, 0)).1), (Value.int .i64 ((x115).getD i131 (0, 0)).2)]) _ (op_entry hS134 (k := 0) (k2 := 1) rfl rfl hv121 hi132 e140) rfl ?_
        refine WL.val (Value.int .i64 ((x115).getD i131 (0, 0)).1) _ (op_extract rfl rfl) rfl ?_
        refine WL.val (Value.int .i64 ((x115).getD i131 (0, 0)).2) _ (op_extract rfl rfl) rfl ?_
        refine WL.val (Value.int .i64 ((x115).getD i131 (0, 0)).1) _ (op_assign rfl) rfl ?_
        refine WL.val (Value.int .i64 ((x115).getD i131 (0, 0)).2) _ (op_assign rfl) rfl ?_
        refine WL.nil ?_
        refine W.seq (W.region ?_)
        refine WL.val (Value.int .i64 ((x115).getD i131 (0, 0)).2) _ (op_move rfl) rfl ?_
        refine WL.val (Value.bool (((x115).getD i131 (0, 0)).2 != (2 : Int))) _ (op_neq rfl rfl) rfl ?_
        refine WL.val (Value.bool (((x115).getD i131 (0, 0)).2 != (2 : Int))) _ (op_move rfl) rfl ?_
        obtain ⟨x145, hj146, hb135⟩ := bs hb135
        refine WL.cut 7 (fun fq wq => fq 3 = u1 ∧ fq 33 = (Value.pointer (some ⟨r118, 0, none⟩)) ∧ fq 48 = Value.bool x145 ∧ St w wq [Ty.mp.at u1 x115, itAt r118 b119 (x115).length (seen126 ++ [i131])]) ?_ ?_
        · rcases Bool.eq_false_or_eq_true (((x115).getD i131 (0, 0)).2 != (2 : Int)) with hc144 | hc144
          · replace hj146 := ip hj146 hc144
            refine WL.gskip rfl (bool_of rfl hc144) rfl ?_
            refine WL.gskip rfl (bool_of rfl hc144) rfl ?_
            refine WL.gskip rfl (bool_of rfl hc144) rfl ?_
            refine WL.gskip rfl (bool_of rfl hc144) rfl ?_
            refine WL.gskip rfl (bool_of rfl hc144) rfl ?_
            refine WL.gskip rfl (bool_of rfl hc144) rfl ?_
            refine WL.val (Value.bool true) _ (op_pick_t (evb_of rfl hc144) rfl) rfl ?_
            refine WL.nil ?_
            obtain rfl := Option.some.inj hj146
            exact ⟨rfl, e141, e140, rfl, hS134⟩
          · replace hj146 := inegb hj146 hc144
            refine WL.grun rfl (bool_of rfl hc144) ?_
            refine WL.val (Value.int .i64 ((x115).getD i131 (0, 0)).1) _ (op_move rfl) rfl ?_
            refine WL.grun rfl (bool_of rfl hc144) ?_
            refine WL.val u1 _ (op_move e141) rfl ?_
            refine WL.grun rfl (bool_of rfl hc144) ?_
            obtain ⟨x150, hx151, hj146⟩ := bs hj146
            obtain ⟨e153, hr152⟩ := mpLen_some hx151
            refine WL.val (Value.int .i64 x150) _ (by rw [e153]; exact op_mpLen mpt_67 (St.rep (t := Ty.mp) hS134 0 rfl) rfl) rfl ?_
            refine WL.grun rfl (bool_of rfl hc144) ?_
            refine WL.val (Value.int .i64 (w64 (x150 - (1 : Int)))) _ (op_sub rfl rfl) rfl ?_
            refine WL.grun rfl (bool_of rfl hc144) ?_
            obtain ⟨x154, hx155, hj146⟩ := bs hj146
            refine WL.call _ (op_call fn_52 (args3 rfl rfl rfl)) (c_impl_within rg139.1 (inL rfl) (inR_wrap _ _) hx155) rfl ?_
            rintro _ wd156 ⟨rfl, he157⟩
            have hS159 := St.extend hS134 he157
            replace hS159 : St w wd156 [Ty.mp.at u1 x115, itAt r118 b119 (x115).length (seen126 ++ [i131])] := hS159
            refine WL.grun rfl (bool_of rfl hc144) ?_
            refine WL.val (Value.bool (!x154)) _ (op_not rfl) rfl ?_
            refine WL.val (Value.bool (!x154)) _ (op_pick_f (evb_of rfl hc144) rfl) rfl ?_
            refine WL.nil ?_
            obtain rfl := Option.some.inj hj146
            exact ⟨rfl, e141, e140, rfl, hS159⟩
        · intro f147 wd148 hq149
          obtain ⟨hf160, hf161, hf162, hS163⟩ := hq149
          refine WL.nil ?_
          refine W.cond x145 hf162 (fun hc164 => ?_) (fun hc164 => ?_)
          · replace hb135 := ip hb135 hc164
            refine W.seq (W.region ?_)
            refine WL.val (Value.bool false) _ (op_assign rfl) rfl ?_
            refine WL.nil ?_
            refine W.ret ?_
            obtain rfl := Option.some.inj hb135
            obtain rfl : res124 = Res.ret false := hc138.elim (fun hq => nomatch hq) (fun hq => hq.2)
            replace h := onRes_ret h
            obtain rfl := Option.some.inj h
            show FinP _ _ _ _ _ _ _
            exact FinP.ret _ (res1 rfl rfl) ⟨rfl, hS163.ext⟩
          · replace hb135 := inegb hb135 hc164
            refine W.skip ?_
            obtain rfl := Option.some.inj hb135
            exact ⟨i131, hi132, hns133, hb136, hf161, hf160, hS163⟩
    · rintro f167 wd168 ⟨rfl, e169, hS170⟩
      replace h := onRes_fin h
      refine W.seq (W.region ?_)
      refine WL.val u1 _ (op_move e169) rfl ?_
      obtain ⟨x171, hx172, h⟩ := bs h
      obtain ⟨e174, hr173⟩ := mpLen_some hx172
      refine WL.val (Value.int .i64 x171) _ (by rw [e174]; exact op_mpLen mpt_67 (St.rep (t := Ty.mp) hS170 0 rfl) rfl) rfl ?_
      refine WL.val (Value.bool (decide (x171 ≥ (1 : Int)))) _ (op_geq rfl rfl) rfl ?_
      refine WL.val (Value.bool (decide (x171 ≥ (1 : Int)))) _ (op_move rfl) rfl ?_
      obtain ⟨x176, hj177, h⟩ := bs h
      refine WL.cut 4 (fun fq wq => fq 56 = Value.bool x176 ∧ St w wq []) ?_ ?_
      · rcases Bool.eq_false_or_eq_true (decide (x171 ≥ (1 : Int))) with hc175 | hc175
        · replace hj177 := ip hj177 hc175
          refine WL.grun rfl (bool_of rfl hc175) ?_
          refine WL.val u1 _ (op_move e169) rfl ?_
          refine WL.grun rfl (bool_of rfl hc175) ?_
          obtain ⟨x181, hx182, hj177⟩ := bs hj177
          obtain ⟨e184, hr183⟩ := mpLen_some hx182
          refine WL.val (Value.int .i64 x181) _ (by rw [e184]; exact op_mpLen mpt_67 (St.rep (t := Ty.mp) hS170 0 rfl) rfl) rfl ?_
          refine WL.grun rfl (bool_of rfl hc175) ?_
          refine WL.val (Value.bool (decide (x181 ≤ (9 : Int)))) _ (op_leq rfl rfl) rfl ?_
          refine WL.val (Value.bool (decide (x181 ≤ (9 : Int)))) _ (op_pick_t (evb_of rfl hc175) rfl) rfl ?_
          refine WL.nil ?_
          obtain rfl := Option.some.inj hj177
          exact ⟨rfl, rfl, (St.pick hS170 [] rfl)⟩
        · replace hj177 := inegb hj177 hc175
          refine WL.gskip rfl (bool_of rfl hc175) rfl ?_
          refine WL.gskip rfl (bool_of rfl hc175) rfl ?_
          refine WL.gskip rfl (bool_of rfl hc175) rfl ?_
          refine WL.val (Value.bool false) _ (op_pick_f (evb_of rfl hc175) rfl) rfl ?_
          refine WL.nil ?_
          obtain rfl := Option.some.inj hj177
          exact ⟨rfl, rfl, (St.pick hS170 [] rfl)⟩
      · intro f178 wd179 hq180
        obtain ⟨hf185, hS186⟩ := hq180
        refine WL.val (Value.bool x176) _ (op_assign hf185) rfl ?_
        refine WL.nil ?_
        refine W.ret ?_
        obtain rfl := Option.some.inj h
        show FinP _ _ _ _ _ _ _
        exact FinP.ret _ (res1 rfl rfl) ⟨rfl, hS186.ext⟩

theorem c_slices_Clone_Lint64_int64 {w : World} {s1 : (List Int)} {v_s1 : Value} (r_s1 : (Ty.sl (Ty.i .i64)).rep w v_s1 s1) {res : (List Int)} (h : p_slices_Clone_Lint64_int64 s1  = some res) :
    Ret Try.prog 41 #[v_s1] w (fun v w' => ∃ (u0 : Value), v = u0 ∧ Ext w w' ∧ Sep w.heap.size w' [(Ty.sl (Ty.i .i64)).at u0 res]) := by
  unfold p_slices_Clone_Lint64_int64 at h
  have hS0 : St w w [] := St.start w
  obtain ⟨p0, c0, hv0, hl10, hl20, hp0, hel0⟩ := id r_s1
  refine Ret.start (fn := Try.f41) Try.func41 rfl 8 rfl rfl ?_
  refine W.seq (W.region ?_)
  refine WL.val (Value.slice none 0 0) _ (op_assign rfl) rfl ?_
  refine WL.nil ?_
  refine W.seq (W.seq (W.region ?_))
  refine WL.val v_s1 _ (op_move rfl) rfl ?_
  refine WL.val (Value.bool p0.isNone) _ (op_eqlNil (Eq.trans rfl hv0) rfl sl_36.1) rfl ?_
  refine WL.nil ?_
  refine W.cond p0.isNone rfl (fun hc1 => ?_) (fun hc1 => ?_)
  · obtain rfl : p0 = none := by cases p0 <;> simp_all
    obtain rfl : s1 = [] := Classical.byContradiction fun hn => hp0 hn rfl
    simp [appL] at h
    subst h
    refine W.seq (W.region ?_)
    refine WL.val (Value.slice none 0 0) _ (op_assign rfl) rfl ?_
    refine WL.nil ?_
    refine W.ret ?_
    show FinP _ _ _ _ _ _ _
    exact FinP.ret _ (res1 rfl rfl) ⟨(Value.slice none 0 0), rfl, hS0.ext, (St.out (St.pick (St.addNil (Ty.i .i64) hS0) [0] rfl) (Ext.refl _))⟩
  · refine W.skip ?_
    refine W.seq (W.region ?_)
    refine WL.lit0 (t := (Ty.i .i64)) hS0 sl_36 rfl rfl ?_
    intro u2 wd3 hS4 he5
    replace hS4 : St w wd3 [(Ty.sl (Ty.i .i64)).at u2 ([] : (List Int))] := hS4
    refine WL.val v_s1 _ (op_move rfl) rfl ?_
    obtain ⟨x6, hx7, h⟩ := bs h
    refine WL.append (flat_i .i64) hS4 (k := 0) rfl sl_36 rfl rfl rfl rfl (Ty.lift _ hS4.ext r_s1) hx7 rfl ?_
    intro u8 wd9 hS10 hz11
    replace hS10 : St w wd9 [(Ty.sl (Ty.i .i64)).at u8 x6] := hS10
    refine WL.val u8 _ (op_assign rfl) rfl ?_
    refine WL.nil ?_
    refine W.ret ?_
    obtain rfl := Option.some.inj h
    show FinP _ _ _ _ _ _ _
    exact FinP.ret _ (res1 rfl rfl) ⟨u8, rfl, hS10.ext, (St.out (St.pick hS10 [0] rfl) (Ext.refl _))⟩

theorem c_impl_Ring_opposite {w : World} {r_Table : (List (List (List Int)))} {v_r_Table : Value} (r_r_Table : (Ty.sl (Ty.sl (Ty.sl (Ty.i .i64)))).rep w v_r_Table r_Table) {res : (List (List (List Int)))} (h : p_impl_Ring_opposite r_Table  = some res) :
    Ret Try.prog 54 #[(Value.agg #[v_r_Table])] w (fun v w' => ∃ (u0 : Value), v = (Value.agg #[u0]) ∧ Ext w w' ∧ Sep w.heap.size w' [(Ty.sl (Ty.sl (Ty.sl (Ty.i .i64)))).at u0 res]) := by
  unfold p_impl_Ring_opposite at h
  have hS0 : St w w [] := St.start w
  refine Ret.start (fn := Try.f54) Try.func54 rfl 42 rfl rfl ?_
  refine W.seq (W.region ?_)
  refine WL.box hS0 rfl (cs := [v_r_Table]) rfl rfl ?_
  intro b1 wd2 hS3 he4 hx5
  replace hS3 : St w wd2 [bx b1 [v_r_Table]] := hS3
  have hx6 := St.boxAt hS3 0 rfl
  have hE7 : Ext w wd2 := hS3.ext
  have hS8 : St wd2 wd2 [] := St.start wd2
  refine WL.alloc hS8 ze_30 (cs := [(Value.slice none 0 0)]) rfl rfl ?_
  intro b9 wd10 hS11 he12
  replace hS11 : St wd2 wd10 [bx b9 [(Value.slice none 0 0)]] := hS11
  refine WL.nil ?_
  refine W.seq (W.region ?_)
  refine WL.val (Value.agg #[(Value.slice none 0 0)]) _ (op_build bd_30 (parts := []) (partsL trivial) trivial rfl) rfl ?_
  refine WL.alloc hS11 ze_30 (cs := [(Value.slice none 0 0)]) rfl rfl ?_
  intro b13 wd14 hS15 he16
  replace hS15 : St wd2 wd14 [bx b9 [(Value.slice none 0 0)], bx b13 [(Value.slice none 0 0)]] := hS15
  have hS19 := St.addNil (Ty.sl (Ty.sl (Ty.i .i64))) hS15
  replace hS19 : St wd2 wd14 [bx b9 [(Value.slice none 0 0)], bx b13 [(Value.slice none 0 0)], (Ty.sl (Ty.sl (Ty.sl (Ty.i .i64)))).at (Value.slice none 0 0) ([] : (List (List (List Int))))] := hS19
  refine WL.storeBox [(Value.slice none 0 0)] hS19 (k := 1) rfl rfl rfl (us := [(Value.slice none 0 0)]) rfl sz_30 rfl rfl (all_rep (St.rep (t := (Ty.sl (Ty.sl (Ty.sl (Ty.i .i64))))) hS19 2 rfl) all_nil) rfl ?_
  intro wd17 hS18
  replace hS18 : St wd2 wd17 [bx b9 [(Value.slice none 0 0)], bx b13 [(Value.slice none 0 0)], (Ty.sl (Ty.sl (Ty.sl (Ty.i .i64)))).at (Value.slice none 0 0) ([] : (List (List (List Int))))] := hS18
  refine WL.nil ?_
  refine W.seq (W.seq (W.region ?_))
  refine WL.val (Value.pointer (some ⟨b1, 0, none⟩)) _ (op_fieldAddr fd_30_0 rfl) rfl ?_
  refine WL.val v_r_Table _ (op_load one_22 rfl (BoxAt.cell (BoxAt.lift hS18.ext hx6) rfl)) rfl ?_
  have hr20 := inR_len (Ty.lift _ (Ext.trans hE7 hS18.ext) r_r_Table)
  refine WL.val (Value.int .i64 ((r_Table).length : Int)) _ (op_lenL sl_22 (Ty.lift _ (Ext.trans hE7 hS18.ext) r_r_Table) rfl) rfl ?_
  refine WL.val (Value.int .i64 (0 : Int)) _ (op_move rfl) rfl ?_
  refine WL.nil ?_
  show W _ _ _ _ _ _
  obtain ⟨res21, hres22, h⟩ := bs h
  refine W.blockLoop (fun fq wq => ∃ s, res21 = Res.fin s ∧ ∃ (uu0 : Value), fq 2 = (Value.pointer (some ⟨b9, 0, none⟩)) ∧ fq 3 = (Value.pointer (some ⟨b13, 0, none⟩)) ∧ St wd2 wq [bx b9 [(Value.slice none 0 0)], bx b13 [uu0], (Ty.sl (Ty.sl (Ty.sl (Ty.i .i64)))).at uu0 s]) ?_ ?_
  · refine W.forN (fun k (s : (List (List (List Int)))) fq wq => ∃ (uu0 : Value), fq 1 = (Value.pointer (some ⟨b1, 0, none⟩)) ∧ fq 2 = (Value.pointer (some ⟨b9, 0, none⟩)) ∧ fq 3 = (Value.pointer (some ⟨b13, 0, none⟩)) ∧ fq 10 = (Value.int .i64 ((r_Table).length : Int)) ∧ fq 11 = Value.int .i64 (k : Int) ∧ InR .i64 (k : Int) ∧ St wd2 wq [bx b9 [(Value.slice none 0 0)], bx b13 [uu0], (Ty.sl (Ty.sl (Ty.sl (Ty.i .i64)))).at uu0 s]) hres22 ⟨(Value.slice none 0 0), rfl, rfl, rfl, rfl, rfl, (inL rfl), hS18⟩ ?_ ?_
    · intro k23 x24 ct25 f26 wd27 hk28 hb29 hI30 hbrk31 hret32
      replace hI30 : ∃ (uu0 : Value), f26 1 = (Value.pointer (some ⟨b1, 0, none⟩)) ∧ f26 2 = (Value.pointer (some ⟨b9, 0, none⟩)) ∧ f26 3 = (Value.pointer (some ⟨b13, 0, none⟩)) ∧ f26 10 = (Value.int .i64 ((r_Table).length : Int)) ∧ f26 11 = Value.int .i64 (k23 : Int) ∧ InR .i64 (k23 : Int) ∧ St wd2 wd27 [bx b9 [(Value.slice none 0 0)], bx b13 [uu0], (Ty.sl (Ty.sl (Ty.sl (Ty.i .i64)))).at uu0 x24] := hI30
      replace hb29 : p_impl_Ring_opposite_L1 r_Table k23 x24 = some ct25 := hb29
      unfold p_impl_Ring_opposite_L1 at hb29
      obtain ⟨u33, hf34, hf35, hf36, hf37, hf38, hr39, hS40⟩ := hI30
      refine W.seq (W.region ?_)
      refine WL.val (Value.bool (decide ((k23 : Int) < ((r_Table).length : Int)))) _ (op_lss hf38 hf37) rfl ?_
      have hl41 : (k23 : Int) < ((r_Table).length : Int) := by omega
      refine WL.nil ?_
      refine W.seq ?_
      refine W.condT (decide ((k23 : Int) < ((r_Table).length : Int))) rfl (decide_eq_true hl41) ?_
      refine W.skip ?_
      refine W.seq ?_
      refine W.block ?_
      refine W.seq (W.region ?_)
      refine WL.val (Value.int .i64 (k23 : Int)) _ (op_move hf38) rfl ?_
      refine WL.val (Value.int .i64 (k23 : Int)) _ (op_assign rfl) rfl ?_
      refine WL.nil ?_
      refine W.seq (W.region ?_)
      refine WL.lit0 (t := (Ty.sl (Ty.i .i64))) hS40 sl_25 rfl rfl ?_
      intro u43 wd44 hS45 he46
      replace hS45 : St wd2 wd44 [bx b9 [(Value.slice none 0 0)], bx b13 [u33], (Ty.sl (Ty.sl (Ty.sl (Ty.i .i64)))).at u33 x24, (Ty.sl (Ty.sl (Ty.i .i64))).at u43 ([] : (List (List Int)))] := hS45
      refine WL.val u43 _ (op_assign rfl) rfl ?_
      refine WL.nil ?_
      refine W.seq (W.seq (W.region ?_))
      refine WL.val (Value.pointer (some ⟨b1, 0, none⟩)) _ (op_fieldAddr fd_30_0 hf34) rfl ?_
      refine WL.val v_r_Table _ (op_load one_22 rfl (BoxAt.cell (BoxAt.lift hS45.ext hx6) rfl)) rfl ?_
      have hr47 := inR_len (Ty.lift _ (Ext.trans hE7 hS45.ext) r_r_Table)
      refine WL.val (Value.int .i64 ((r_Table).length : Int)) _ (op_lenL sl_22 (Ty.lift _ (Ext.trans hE7 hS45.ext) r_r_Table) rfl) rfl ?_
      refine WL.val (Value.int .i64 (0 : Int)) _ (op_move rfl) rfl ?_
      refine WL.nil ?_
      show W _ _ _ _ _ _
      obtain ⟨res48, hres49, hb29⟩ := bs hb29
      refine W.blockLoop (fun fq wq => ∃ s, res48 = Res.fin s ∧ ∃ (uu0 : Value), fq 1 = (Value.pointer (some ⟨b1, 0, none⟩)) ∧ fq 2 = (Value.pointer (some ⟨b9, 0, none⟩)) ∧ fq 3 = (Value.pointer (some ⟨b13, 0, none⟩)) ∧ fq 5 = uu0 ∧ fq 10 = (Value.int .i64 ((r_Table).length : Int)) ∧ fq 11 = (Value.int .i64 (k23 : Int)) ∧ St wd2 wq [bx b9 [(Value.slice none 0 0)], bx b13 [u33], (Ty.sl (Ty.sl (Ty.sl (Ty.i .i64)))).at u33 x24, (Ty.sl (Ty.sl (Ty.i .i64))).at uu0 s]) ?_ ?_
      · refine W.forN (fun k (s : (List (List Int))) fq wq => ∃ (uu0 : Value), fq 1 = (Value.pointer (some ⟨b1, 0, none⟩)) ∧ fq 2 = (Value.pointer (some ⟨b9, 0, none⟩)) ∧ fq 3 = (Value.pointer (some ⟨b13, 0, none⟩)) ∧ fq 4 = (Value.int .i64 (k23 : Int)) ∧ fq 5 = uu0 ∧ fq 10 = (Value.int .i64 ((r_Table).length : Int)) ∧ fq 11 = (Value.int .i64 (k23 : Int)) ∧ fq 17 = (Value.int .i64 ((r_Table).length : Int)) ∧ fq 18 = Value.int .i64 (k : Int) ∧ InR .i64 (k : Int) ∧ St wd2 wq [bx b9 [(Value.slice none 0 0)], bx b13 [u33], (Ty.sl (Ty.sl (Ty.sl (Ty.i .i64)))).at u33 x24, (Ty.sl (Ty.sl (Ty.i .i64))).at uu0 s]) hres49 ⟨u43, hf34, hf35, hf36, rfl, rfl, hf37, hf38, rfl, rfl, (inL rfl), hS45⟩ ?_ ?_
        · intro k50 x51 ct52 f53 wd54 hk55 hb56 hI57 hbrk58 hret59
          replace hI57 : ∃ (uu0 : Value), f53 1 = (Value.pointer (some ⟨b1, 0, none⟩)) ∧ f53 2 = (Value.pointer (some ⟨b9, 0, none⟩)) ∧ f53 3 = (Value.pointer (some ⟨b13, 0, none⟩)) ∧ f53 4 = (Value.int .i64 (k23 : Int)) ∧ f53 5 = uu0 ∧ f53 10 = (Value.int .i64 ((r_Table).length : Int)) ∧ f53 11 = (Value.int .i64 (k23 : Int)) ∧ f53 17 = (Value.int .i64 ((r_Table).length : Int)) ∧ f53 18 = Value.int .i64 (k50 : Int) ∧ InR .i64 (k50 : Int) ∧ St wd2 wd54 [bx b9 [(Value.slice none 0 0)], bx b13 [u33], (Ty.sl (Ty.sl (Ty.sl (Ty.i .i64)))).at u33 x24, (Ty.sl (Ty.sl (Ty.i .i64))).at uu0 x51] := hI57
          replace hb56 : p_impl_Ring_opposite_L2 r_Table k23 k50 x51 = some ct52 := hb56
          unfold p_impl_Ring_opposite_L2 at hb56
          obtain ⟨u60, hf61, hf62, hf63, hf64, hf65, hf66, hf67, hf68, hf69, hr70, hS71⟩ := hI57
          refine W.seq (W.region ?_)
          refine WL.val (Value.bool (decide ((k50 : Int) < ((r_Table).length : Int)))) _ (op_lss hf69 hf68) rfl ?_
          have hl72 : (k50 : Int) < ((r_Table).length : Int) := by omega
          refine WL.nil ?_
          refine W.seq ?_
          refine W.condT (decide ((k50 : Int) < ((r_Table).length : Int))) rfl (decide_eq_true hl72) ?_
          refine W.skip ?_
          refine W.seq ?_
          refine W.block ?_
          refine W.seq (W.region ?_)
          refine WL.val (Value.int .i64 (k50 : Int)) _ (op_move hf69) rfl ?_
          refine WL.val (Value.int .i64 (k50 : Int)) _ (op_assign rfl) rfl ?_
          refine WL.nil ?_
          show W _ _ _ _ _ _
          refine W.region ?_
          refine WL.val u60 _ (op_move hf65) rfl ?_
          refine WL.val (Value.pointer (some ⟨b1, 0, none⟩)) _ (op_fieldAddr fd_30_0 hf61) rfl ?_
          refine WL.val v_r_Table _ (op_load one_22 rfl (BoxAt.cell (BoxAt.lift hS71.ext hx6) rfl)) rfl ?_
          refine WL.val (Value.int .i64 (k50 : Int)) _ (op_move rfl) rfl ?_
          obtain ⟨x74, hx77, hb56⟩ := bs hb56
          obtain ⟨ha75, hb76, hx77⟩ := idx_some hx77
          refine WL.val (Value.pointer (some (elA v_r_Table ((k50 : Int)).toNat))) _ (op_idx sl_22 (Ty.lift _ (Ext.trans hE7 hS71.ext) r_r_Table) rfl rfl ha75 hb76) rfl ?_
          obtain ⟨u78, hc79, hr80⟩ := repSl.el r_r_Table hx77
          refine WL.val u78 _ (op_load one_25 rfl (Ext.cell (Ext.trans hE7 hS71.ext) hc79)) rfl ?_
          refine WL.val (Value.int .i64 (k23 : Int)) _ (op_move hf64) rfl ?_
          obtain ⟨x81, hx84, hb56⟩ := bs hb56
          obtain ⟨ha82, hb83, hx84⟩ := idx_some hx84
          refine WL.val (Value.pointer (some (elA u78 ((k23 : Int)).toNat))) _ (op_idx sl_25 (Ty.lift _ (Ext.trans hE7 hS71.ext) hr80) rfl rfl ha82 hb83) rfl ?_
          obtain ⟨u85, hc86, hr87⟩ := repSl.el hr80 hx84
          refine WL.val u85 _ (op_load one_36 rfl (Ext.cell (Ext.trans hE7 hS71.ext) hc86)) rfl ?_
          obtain ⟨x88, hx89, hb56⟩ := bs hb56
          refine WL.call _ (op_call fn_41 (args1 rfl)) (c_slices_Clone_Lint64_int64 (Ty.lift _ (Ext.trans hE7 hS71.ext) hr87) hx89) rfl ?_
          rintro u90 wd91 ⟨_, rfl, he92, hs93⟩
          have hS94 := St.join hS71 he92 hs93
          replace hS94 : St wd2 wd91 [bx b9 [(Value.slice none 0 0)], bx b13 [u33], (Ty.sl (Ty.sl (Ty.sl (Ty.i .i64)))).at u33 x24, (Ty.sl (Ty.sl (Ty.i .i64))).at u60 x51, (Ty.sl (Ty.i .i64)).at u90 x88] := hS94
          refine WL.lit [u90] hS94 sl_25 rfl rfl (fillL rfl ⟨rfl, rfl, (cells_rep (St.rep (t := (Ty.sl (Ty.i .i64))) hS94 4 rfl)), trivial⟩) rfl rfl ?_
          intro b99 wd96 hS97 he98 hx100
          replace hS97 : St wd2 wd96 [bx b9 [(Value.slice none 0 0)], bx b13 [u33], (Ty.sl (Ty.sl (Ty.sl (Ty.i .i64)))).at u33 x24, (Ty.sl (Ty.sl (Ty.i .i64))).at u60 x51, (Ty.sl (Ty.i .i64)).at u90 x88, bx b99 [u90]] := hS97
          obtain ⟨x101, hx102, hb56⟩ := bs hb56
          refine WL.appendRow hS97 (k := 3) (k2 := 4) (k3 := 5) rfl rfl rfl rfl sl_25 rfl rfl rfl rfl hx102 rfl ?_
          intro u103 wd104 hS105 hz106
          replace hS105 : St wd2 wd104 [bx b9 [(Value.slice none 0 0)], bx b13 [u33], (Ty.sl (Ty.sl (Ty.sl (Ty.i .i64)))).at u33 x24, (Ty.sl (Ty.sl (Ty.i .i64))).at u103 x101, emp, bx b99 [u90]] := hS105
          refine WL.val u103 _ (op_assign rfl) rfl ?_
          refine WL.nil ?_
          show W _ _ _ _ _ _
          refine W.region ?_
          refine WL.val (Value.int .i64 (w64 ((k50 : Int) + (1 : Int)))) _ (op_add hf69 rfl) rfl ?_
          refine WL.val (Value.int .i64 (w64 ((k50 : Int) + (1 : Int)))) _ (op_move rfl) rfl ?_
          refine WL.nil ?_
          obtain rfl := Option.some.inj hb56
          show ∃ s, _ = Ctl.next s ∧ _
          exact ⟨_, rfl, u103, hf61, hf62, hf63, hf64, rfl, hf66, hf67, hf68, (ctr_next hl72 hr47), (ctr_rng hl72 hr47), (St.pick hS105 [0, 1, 2, 3] rfl)⟩
        · intro x113 f108 wd109 hs110 hI111
          replace hI111 : ∃ (uu0 : Value), f108 1 = (Value.pointer (some ⟨b1, 0, none⟩)) ∧ f108 2 = (Value.pointer (some ⟨b9, 0, none⟩)) ∧ f108 3 = (Value.pointer (some ⟨b13, 0, none⟩)) ∧ f108 4 = (Value.int .i64 (k23 : Int)) ∧ f108 5 = uu0 ∧ f108 10 = (Value.int .i64 ((r_Table).length : Int)) ∧ f108 11 = (Value.int .i64 (k23 : Int)) ∧ f108 17 = (Value.int .i64 ((r_Table).length : Int)) ∧ f108 18 = Value.int .i64 (((r_Table).length : Nat) : Int) ∧ InR .i64 (((r_Table).length : Nat) : Int) ∧ St wd2 wd109 [bx b9 [(Value.slice none 0 0)], bx b13 [u33], (Ty.sl (Ty.sl (Ty.sl (Ty.i .i64)))).at u33 x24, (Ty.sl (Ty.sl (Ty.i .i64))).at uu0 x113] := hI111
          obtain ⟨u114, hf115, hf116, hf117, hf118, hf119, hf120, hf121, hf122, hf123, hr124, hS125⟩ := hI111
          refine W.seq (W.region ?_)
          refine WL.val (Value.bool (decide ((((r_Table).length : Nat) : Int) < ((r_Table).length : Int)))) _ (op_lss hf123 hf122) rfl ?_
          have hl126 : ¬ (((r_Table).length : Nat) : Int) < ((r_Table).length : Int) := by omega
          refine WL.nil ?_
          refine W.seq ?_
          refine W.condF (decide ((((r_Table).length : Nat) : Int) < ((r_Table).length : Int))) rfl (decide_eq_false hl126) ?_
          refine W.exit ?_
          show _ = _ ∧ _
          exact ⟨rfl, _, hs110, u114, hf115, hf116, hf117, hf119, hf120, hf121, hS125⟩
      · rintro f127 wd128 ⟨x131, rfl, hq129⟩
        replace hb29 := onRes_fin hb29
        replace hq129 : ∃ (uu0 : Value), f127 1 = (Value.pointer (some ⟨b1, 0, none⟩)) ∧ f127 2 = (Value.pointer (some ⟨b9, 0, none⟩)) ∧ f127 3 = (Value.pointer (some ⟨b13, 0, none⟩)) ∧ f127 5 = uu0 ∧ f127 10 = (Value.int .i64 ((r_Table).length : Int)) ∧ f127 11 = (Value.int .i64 (k23 : Int)) ∧ St wd2 wd128 [bx b9 [(Value.slice none 0 0)], bx b13 [u33], (Ty.sl (Ty.sl (Ty.sl (Ty.i .i64)))).at u33 x24, (Ty.sl (Ty.sl (Ty.i .i64))).at uu0 x131] := hq129
        obtain ⟨u132, hf133, hf134, hf135, hf136, hf137, hf138, hS139⟩ := hq129
        show W _ _ _ _ _ _
        refine W.region ?_
        refine WL.val (Value.pointer (some ⟨b13, 0, none⟩)) _ (op_fieldAddr fd_30_0 hf135) rfl ?_
        refine WL.val u33 _ (op_load one_22 rfl (BoxAt.cell (St.boxAt hS139 1 rfl) rfl)) rfl ?_
        refine WL.val u132 _ (op_move hf136) rfl ?_
        refine WL.lit [u132] hS139 sl_22 rfl rfl (fillL rfl ⟨rfl, rfl, (cells_rep (St.rep (t := (Ty.sl (Ty.sl (Ty.i .i64)))) hS139 3 rfl)), trivial⟩) rfl rfl ?_
        intro b144 wd141 hS142 he143 hx145
        replace hS142 : St wd2 wd141 [bx b9 [(Value.slice none 0 0)], bx b13 [u33], (Ty.sl (Ty.sl (Ty.sl (Ty.i .i64)))).at u33 x24, (Ty.sl (Ty.sl (Ty.i .i64))).at u132 x131, bx b144 [u132]] := hS142
        obtain ⟨x146, hx147, hb29⟩ := bs hb29
        refine WL.appendRow hS142 (k := 2) (k2 := 3) (k3 := 4) rfl rfl rfl rfl sl_22 rfl rfl rfl rfl hx147 rfl ?_
        intro u148 wd149 hS150 hz151
        replace hS150 : St wd2 wd149 [bx b9 [(Value.slice none 0 0)], bx b13 [u33], (Ty.sl (Ty.sl (Ty.sl (Ty.i .i64)))).at u148 x146, emp, bx b144 [u132]] := hS150
        refine WL.val (Value.pointer (some ⟨b13, 0, none⟩)) _ (op_fieldAddr fd_30_0 hf135) rfl ?_
        refine WL.storeBox [u148] hS150 (k := 1) rfl rfl rfl (us := [u148]) (cells_rep (St.rep (t := (Ty.sl (Ty.sl (Ty.sl (Ty.i .i64))))) hS150 2 rfl)) sz_22 rfl rfl (all_rep (St.rep (t := (Ty.sl (Ty.sl (Ty.sl (Ty.i .i64))))) hS150 2 rfl) all_nil) rfl ?_
        intro wd152 hS153
        replace hS153 : St wd2 wd152 [bx b9 [(Value.slice none 0 0)], bx b13 [u148], (Ty.sl (Ty.sl (Ty.sl (Ty.i .i64)))).at u148 x146, emp, bx b144 [u132]] := hS153
        refine WL.nil ?_
        show W _ _ _ _ _ _
        refine W.region ?_
        refine WL.val (Value.int .i64 (w64 ((k23 : Int) + (1 : Int)))) _ (op_add hf138 rfl) rfl ?_
        refine WL.val (Value.int .i64 (w64 ((k23 : Int) + (1 : Int)))) _ (op_move rfl) rfl ?_
        refine WL.nil ?_
        obtain rfl := Option.some.inj hb29
        show ∃ s, _ = Ctl.next s ∧ _
        exact ⟨_, rfl, u148, hf133, hf134, hf135, hf137, (ctr_next hl41 hr20), (ctr_rng hl41 hr20), (St.pick hS153 [0, 1, 2] rfl)⟩
    · intro x161 f156 wd157 hs158 hI159
      replace hI159 : ∃ (uu0 : Value), f156 1 = (Value.pointer (some ⟨b1, 0, none⟩)) ∧ f156 2 = (Value.pointer (some ⟨b9, 0, none⟩)) ∧ f156 3 = (Value.pointer (some ⟨b13, 0, none⟩)) ∧ f156 10 = (Value.int .i64 ((r_Table).length : Int)) ∧ f156 11 = Value.int .i64 (((r_Table).length : Nat) : Int) ∧ InR .i64 (((r_Table).length : Nat) : Int) ∧ St wd2 wd157 [bx b9 [(Value.slice none 0 0)], bx b13 [uu0], (Ty.sl (Ty.sl (Ty.sl (Ty.i .i64)))).at uu0 x161] := hI159
      obtain ⟨u162, hf163, hf164, hf165, hf166, hf167, hr168, hS169⟩ := hI159
      refine W.seq (W.region ?_)
      refine WL.val (Value.bool (decide ((((r_Table).length : Nat) : Int) < ((r_Table).length : Int)))) _ (op_lss hf167 hf166) rfl ?_
      have hl170 : ¬ (((r_Table).length : Nat) : Int) < ((r_Table).length : Int) := by omega
      refine WL.nil ?_
      refine W.seq ?_
      refine W.condF (decide ((((r_Table).length : Nat) : Int) < ((r_Table).length : Int))) rfl (decide_eq_false hl170) ?_
      refine W.exit ?_
      show _ = _ ∧ _
      exact ⟨rfl, _, hs158, u162, hf164, hf165, hS169⟩
  · rintro f171 wd172 ⟨x175, rfl, hq173⟩
    replace h := onRes_fin h
    replace hq173 : ∃ (uu0 : Value), f171 2 = (Value.pointer (some ⟨b9, 0, none⟩)) ∧ f171 3 = (Value.pointer (some ⟨b13, 0, none⟩)) ∧ St wd2 wd172 [bx b9 [(Value.slice none 0 0)], bx b13 [uu0], (Ty.sl (Ty.sl (Ty.sl (Ty.i .i64)))).at uu0 x175] := hq173
    obtain ⟨u176, hf177, hf178, hS179⟩ := hq173
    refine W.seq (W.region ?_)
    refine WL.val (Value.agg #[u176]) _ (op_loadBox st_30 hf178 (St.boxAt hS179 1 rfl) rfl rfl) rfl ?_
    refine WL.storeBox [u176] hS179 (k := 0) rfl hf177 rfl (us := [u176]) rfl sz_30 rfl rfl (all_rep (St.rep (t := (Ty.sl (Ty.sl (Ty.sl (Ty.i .i64))))) hS179 2 rfl) all_nil) rfl ?_
    intro wd180 hS181
    replace hS181 : St wd2 wd180 [bx b9 [u176], bx b13 [u176], (Ty.sl (Ty.sl (Ty.sl (Ty.i .i64)))).at u176 x175] := hS181
    refine WL.nil ?_
    refine W.ret ?_
    obtain rfl := Option.some.inj h
    show FinP _ _ _ _ _ _ _
    exact FinP.ret _ (resC rfl hf177 st_30 (St.boxAt hS181 0 rfl) rfl) ⟨u176, rfl, (Ext.trans hE7 hS181.ext), (St.out (St.pick hS181 [2] rfl) (hE7))⟩

theorem c_slices_EqualFunc_LLLint64_LLLint64_LLint64_LLint64 {w : World} {s1 : (List (List (List Int)))} {v_s1 : Value} {s2 : (List (List (List Int)))} {v_s2 : Value} {eq : (List (List Int)) → (List (List Int)) → Option Bool} {v_eq : Value} (r_s1 : (Ty.sl (Ty.sl (Ty.sl (Ty.i .i64)))).rep w v_s1 s1) (r_s2 : (Ty.sl (Ty.sl (Ty.sl (Ty.i .i64)))).rep w v_s2 s2) (r_eq : FnT_lli_lli_to_b Try.prog v_eq w eq) {res : Bool} (h : p_slices_EqualFunc_LLLint64_LLLint64_LLint64_LLint64 s1 s2 eq  = some res) :
    Ret Try.prog 68 #[v_s1, v_s2, v_eq] w (fun v w' => v = Value.bool res ∧ Ext w w') := by
  unfold p_slices_EqualFunc_LLLint64_LLLint64_LLint64_LLint64 at h
  have hS0 : St w w [] := St.start w
  have q_eq := r_eq
  obtain ⟨g_eq, fst_eq, cap_eq, eq_eq, ok_eq, call_eq⟩ := q_eq
  subst eq_eq
  refine Ret.start (fn := Try.f68) Try.func68 rfl 32 rfl rfl ?_
  refine W.seq (W.region ?_)
  refine WL.val (Value.bool false) _ (op_assign rfl) rfl ?_
  refine WL.nil ?_
  refine W.seq (W.seq (W.region ?_))
  refine WL.val v_s1 _ (op_move rfl) rfl ?_
  have hr1 := inR_len (Ty.lift _ hS0.ext r_s1)
  refine WL.val (Value.int .i64 ((s1).length : Int)) _ (op_lenL sl_22 (Ty.lift _ hS0.ext r_s1) rfl) rfl ?_
  refine WL.val v_s2 _ (op_move rfl) rfl ?_
  have hr2 := inR_len (Ty.lift _ hS0.ext r_s2)
  refine WL.val (Value.int .i64 ((s2).length : Int)) _ (op_lenL sl_22 (Ty.lift _ hS0.ext r_s2) rfl) rfl ?_
  refine WL.val (Value.bool (((s1).length : Int) != ((s2).length : Int))) _ (op_neq rfl rfl) rfl ?_
  refine WL.nil ?_
  refine W.cond (((s1).length : Int) != ((s2).length : Int)) rfl (fun hc3 => ?_) (fun hc3 => ?_)
  · replace h := ip h hc3
    refine W.seq (W.region ?_)
    refine WL.val (Value.bool false) _ (op_assign rfl) rfl ?_
    refine WL.nil ?_
    refine W.ret ?_
    obtain rfl := Option.some.inj h
    show FinP _ _ _ _ _ _ _
    exact FinP.ret _ (res1 rfl rfl) ⟨rfl, hS0.ext⟩
  · replace h := inegb h hc3
    refine W.skip ?_
    refine W.seq (W.seq (W.region ?_))
    refine WL.val v_s1 _ (op_move rfl) rfl ?_
    have hr5 := inR_len (Ty.lift _ hS0.ext r_s1)
    refine WL.val (Value.int .i64 ((s1).length : Int)) _ (op_lenL sl_22 (Ty.lift _ hS0.ext r_s1) rfl) rfl ?_
    refine WL.val (Value.int .i64 (0 : Int)) _ (op_move rfl) rfl ?_
    refine WL.nil ?_
    show W _ _ _ _ _ _
    obtain ⟨res6, hres7, h⟩ := bs h
    refine W.blockLoop (fun fq wq => ∃ s, res6 = Res.fin s ∧ St w wq []) ?_ ?_
    · refine W.forN (fun k (s : Unit) fq wq => fq 1 = v_s2 ∧ fq 2 = (Value.func (.func g_eq) fst_eq cap_eq) ∧ fq 15 = v_s1 ∧ fq 16 = (Value.int .i64 ((s1).length : Int)) ∧ fq 17 = Value.int .i64 (k : Int) ∧ InR .i64 (k : Int) ∧ St w wq []) hres7 ⟨rfl, rfl, rfl, rfl, rfl, (inL rfl), hS0⟩ ?_ ?_
      · intro k8 s48 ct9 f10 wd11 hk12 hb13 hI14 hbrk15 hret16
        obtain ⟨⟩ := s48
        replace hI14 : f10 1 = v_s2 ∧ f10 2 = (Value.func (.func g_eq) fst_eq cap_eq) ∧ f10 15 = v_s1 ∧ f10 16 = (Value.int .i64 ((s1).length : Int)) ∧ f10 17 = Value.int .i64 (k8 : Int) ∧ InR .i64 (k8 : Int) ∧ St w wd11 [] := hI14
        replace hb13 : p_slices_EqualFunc_LLLint64_LLLint64_LLint64_LLint64_L1 s1 s2 eq k8  = some ct9 := hb13
        unfold p_slices_EqualFunc_LLLint64_LLLint64_LLint64_LLint64_L1 at hb13
        obtain ⟨hf17, hf18, hf19, hf20, hf21, hr22, hS23⟩ := hI14
        refine W.seq (W.region ?_)
        refine WL.val (Value.bool (decide ((k8 : Int) < ((s1).length : Int)))) _ (op_lss hf21 hf20) rfl ?_
        have hl24 : (k8 : Int) < ((s1).length : Int) := by omega
        refine WL.nil ?_
        refine W.seq ?_
        refine W.condT (decide ((k8 : Int) < ((s1).length : Int))) rfl (decide_eq_true hl24) ?_
        refine W.skip ?_
        refine W.seq ?_
        refine W.block ?_
        refine W.seq (W.region ?_)
        refine WL.val (Value.int .i64 (k8 : Int)) _ (op_move hf21) rfl ?_
        obtain ⟨x26, hx29, hb13⟩ := bs hb13
        obtain ⟨ha27, hb28, hx29⟩ := idx_some hx29
        refine WL.val (Value.pointer (some (elA v_s1 ((k8 : Int)).toNat))) _ (op_idx sl_22 (Ty.lift _ hS23.ext r_s1) hf19 hf21 ha27 hb28) rfl ?_
        obtain ⟨u30, hc31, hr32⟩ := repSl.el r_s1 hx29
        refine WL.val u30 _ (op_load one_25 rfl (Ext.cell hS23.ext hc31)) rfl ?_
        refine WL.val (Value.int .i64 (k8 : Int)) _ (op_assign rfl) rfl ?_
        refine WL.val u30 _ (op_assign rfl) rfl ?_
        refine WL.nil ?_
        refine W.seq (W.region ?_)
        refine WL.val v_s2 _ (op_move hf17) rfl ?_
        refine WL.val (Value.int .i64 (k8 : Int)) _ (op_move rfl) rfl ?_
        obtain ⟨x33, hx36, hb13⟩ := bs hb13
        obtain ⟨ha34, hb35, hx36⟩ := idx_some hx36
        refine WL.val (Value.pointer (some (elA v_s2 ((k8 : Int)).toNat))) _ (op_idx sl_22 (Ty.lift _ hS23.ext r_s2) rfl rfl ha34 hb35) rfl ?_
        obtain ⟨u37, hc38, hr39⟩ := repSl.el r_s2 hx36
        refine WL.val u37 _ (op_load one_25 rfl (Ext.cell hS23.ext hc38)) rfl ?_
        refine WL.val u37 _ (op_assign rfl) rfl ?_
        refine WL.nil ?_
        refine W.seq (W.region ?_)
        refine WL.val (Value.func (.func g_eq) fst_eq cap_eq) _ (op_move hf18) rfl ?_
        refine WL.val u30 _ (op_move rfl) rfl ?_
        refine WL.val u37 _ (op_move rfl) rfl ?_
        obtain ⟨x40, hx41, hb13⟩ := bs hb13
        refine WL.call _ (op_callV rfl ok_eq (args2 rfl rfl)) (call_eq wd11 u30 x26 u37 x33 x40 hS23.ext (Ty.lift _ hS23.ext hr32) (Ty.lift _ hS23.ext hr39) hx41) rfl ?_
        rintro _ wd42 ⟨rfl, he43⟩
        have hS45 := St.extend hS23 he43
        refine WL.val (Value.bool (!x40)) _ (op_not rfl) rfl ?_
        refine WL.nil ?_
        refine W.cond (!x40) rfl (fun hc46 => ?_) (fun hc46 => ?_)
        · replace hb13 := ip hb13 hc46
          refine W.seq (W.region ?_)
          refine WL.val (Value.bool false) _ (op_assign rfl) rfl ?_
          refine WL.nil ?_
          refine W.ret ?_
          obtain rfl := Option.some.inj hb13
          obtain rfl := hret16 _ rfl
          replace h := onRes_ret h
          obtain rfl := Option.some.inj h
          show FinP _ _ _ _ _ _ _
          exact FinP.ret _ (res1 rfl rfl) ⟨rfl, hS45.ext⟩
        · replace hb13 := inegb hb13 hc46
          refine W.skip ?_
          show W _ _ _ _ _ _
          refine W.region ?_
          refine WL.val (Value.int .i64 (w64 ((k8 : Int) + (1 : Int)))) _ (op_add hf21 rfl) rfl ?_
          refine WL.val (Value.int .i64 (w64 ((k8 : Int) + (1 : Int)))) _ (op_move rfl) rfl ?_
          refine WL.nil ?_
          obtain rfl := Option.some.inj hb13
          show ∃ s, _ = Ctl.next s ∧ _
          exact ⟨_, rfl, hf17, hf18, hf19, hf20, (ctr_next hl24 hr5), (ctr_rng hl24 hr5), hS45⟩
      · intro s53 f49 wd50 hs51 hI52
        obtain ⟨⟩ := s53
        replace hI52 : f49 1 = v_s2 ∧ f49 2 = (Value.func (.func g_eq) fst_eq cap_eq) ∧ f49 15 = v_s1 ∧ f49 16 = (Value.int .i64 ((s1).length : Int)) ∧ f49 17 = Value.int .i64 (((s1).length : Nat) : Int) ∧ InR .i64 (((s1).length : Nat) : Int) ∧ St w wd50 [] := hI52
        obtain ⟨hf54, hf55, hf56, hf57, hf58, hr59, hS60⟩ := hI52
        refine W.seq (W.region ?_)
        refine WL.val (Value.bool (decide ((((s1).length : Nat) : Int) < ((s1).length : Int)))) _ (op_lss hf58 hf57) rfl ?_
        have hl61 : ¬ (((s1).length : Nat) : Int) < ((s1).length : Int) := by omega
        refine WL.nil ?_
        refine W.seq ?_
        refine W.condF (decide ((((s1).length : Nat) : Int) < ((s1).length : Int))) rfl (decide_eq_false hl61) ?_
        refine W.exit ?_
        show _ = _ ∧ _
        exact ⟨rfl, _, hs51, hS60⟩
    · rintro f62 wd63 ⟨s65, rfl, hq64⟩
      replace h := onRes_fin h
      obtain ⟨⟩ := s65
      replace hq64 : St w wd63 [] := hq64
      have hS66 := hq64
      refine W.seq (W.region ?_)
      refine WL.val (Value.bool true) _ (op_assign rfl) rfl ?_
      refine WL.nil ?_
      refine W.ret ?_
      obtain rfl := Option.some.inj h
      show FinP _ _ _ _ _ _ _
      exact FinP.ret _ (res1 rfl rfl) ⟨rfl, hS66.ext⟩

theorem c_slices_EqualFunc_LLint64_LLint64_Lint64_Lint64 {w : World} {s1 : (List (List Int))} {v_s1 : Value} {s2 : (List (List Int))} {v_s2 : Value} {eq : (List Int) → (List Int) → Option Bool} {v_eq : Value} (r_s1 : (Ty.sl (Ty.sl (Ty.i .i64))).rep w v_s1 s1) (r_s2 : (Ty.sl (Ty.sl (Ty.i .i64))).rep w v_s2 s2) (r_eq : FnT_li_li_to_b Try.prog v_eq w eq) {res : Bool} (h : p_slices_EqualFunc_LLint64_LLint64_Lint64_Lint64 s1 s2 eq  = some res) :
    Ret Try.prog 70 #[v_s1, v_s2, v_eq] w (fun v w' => v = Value.bool res ∧ Ext w w') := by
  unfold p_slices_EqualFunc_LLint64_LLint64_Lint64_Lint64 at h
  have hS0 : St w w [] := St.start w
  have q_eq := r_eq
  obtain ⟨g_eq, fst_eq, cap_eq, eq_eq, ok_eq, call_eq⟩ := q_eq
  subst eq_eq
  refine Ret.start (fn := Try.f70) Try.func70 rfl 32 rfl rfl ?_
  refine W.seq (W.region ?_)
  refine WL.val (Value.bool false) _ (op_assign rfl) rfl ?_
  refine WL.nil ?_
  refine W.seq (W.seq (W.region ?_))
  refine WL.val v_s1 _ (op_move rfl) rfl ?_
  have hr1 := inR_len (Ty.lift _ hS0.ext r_s1)
  refine WL.val (Value.int .i64 ((s1).length : Int)) _ (op_lenL sl_25 (Ty.lift _ hS0.ext r_s1) rfl) rfl ?_
  refine WL.val v_s2 _ (op_move rfl) rfl ?_
  have hr2 := inR_len (Ty.lift _ hS0.ext r_s2)
  refine WL.val (Value.int .i64 ((s2).length : Int)) _ (op_lenL sl_25 (Ty.lift _ hS0.ext r_s2) rfl) rfl ?_
  refine WL.val (Value.bool (((s1).length : Int) != ((s2).length : Int))) _ (op_neq rfl rfl) rfl ?_
  refine WL.nil ?_
  refine W.cond (((s1).length : Int) != ((s2).length : Int)) rfl (fun hc3 => ?_) (fun hc3 => ?_)
  · replace h := ip h hc3
    refine W.seq (W.region ?_)
    refine WL.val (Value.bool false) _ (op_assign rfl) rfl ?_
    refine WL.nil ?_
    refine W.ret ?_
    obtain rfl := Option.some.inj h
    show FinP _ _ _ _ _ _ _
    exact FinP.ret _ (res1 rfl rfl) ⟨rfl, hS0.ext⟩
  · replace h := inegb h hc3
    refine W.skip ?_
    refine W.seq (W.seq (W.region ?_))
    refine WL.val v_s1 _ (op_move rfl) rfl ?_
    have hr5 := inR_len (Ty.lift _ hS0.ext r_s1)
    refine WL.val (Value.int .i64 ((s1).length : Int)) _ (op_lenL sl_25 (Ty.lift _ hS0.ext r_s1) rfl) rfl ?_
    refine WL.val (Value.int .i64 (0 : Int)) _ (op_move rfl) rfl ?_
    refine WL.nil ?_
    show W _ _ _ _ _ _
    obtain ⟨res6, hres7, h⟩ := bs h
    refine W.blockLoop (fun fq wq => ∃ s, res6 = Res.fin s ∧ St w wq []) ?_ ?_
    · refine W.forN (fun k (s : Unit) fq wq => fq 1 = v_s2 ∧ fq 2 = (Value.func (.func g_eq) fst_eq cap_eq) ∧ fq 15 = v_s1 ∧ fq 16 = (Value.int .i64 ((s1).length : Int)) ∧ fq 17 = Value.int .i64 (k : Int) ∧ InR .i64 (k : Int) ∧ St w wq []) hres7 ⟨rfl, rfl, rfl, rfl, rfl, (inL rfl), hS0⟩ ?_ ?_
      · intro k8 s48 ct9 f10 wd11 hk12 hb13 hI14 hbrk15 hret16
        obtain ⟨⟩ := s48
        replace hI14 : f10 1 = v_s2 ∧ f10 2 = (Value.func (.func g_eq) fst_eq cap_eq) ∧ f10 15 = v_s1 ∧ f10 16 = (Value.int .i64 ((s1).length : Int)) ∧ f10 17 = Value.int .i64 (k8 : Int) ∧ InR .i64 (k8 : Int) ∧ St w wd11 [] := hI14
        replace hb13 : p_slices_EqualFunc_LLint64_LLint64_Lint64_Lint64_L1 s1 s2 eq k8  = some ct9 := hb13
        unfold p_slices_EqualFunc_LLint64_LLint64_Lint64_Lint64_L1 at hb13
        obtain ⟨hf17, hf18, hf19, hf20, hf21, hr22, hS23⟩ := hI14
        refine W.seq (W.region ?_)
        refine WL.val (Value.bool (decide ((k8 : Int) < ((s1).length : Int)))) _ (op_lss hf21 hf20) rfl ?_
        have hl24 : (k8 : Int) < ((s1).length : Int) := by omega
        refine WL.nil ?_
        refine W.seq ?_
        refine W.condT (decide ((k8 : Int) < ((s1).length : Int))) rfl (decide_eq_true hl24) ?_
        refine W.skip ?_
        refine W.seq ?_
        refine W.block ?_
        refine W.seq (W.region ?_)
        refine WL.val (Value.int .i64 (k8 : Int)) _ (op_move hf21) rfl ?_
        obtain ⟨x26, hx29, hb13⟩ := bs hb13
        obtain ⟨ha27, hb28, hx29⟩ := idx_some hx29
        refine WL.val (Value.pointer (some (elA v_s1 ((k8 : Int)).toNat))) _ (op_idx sl_25 (Ty.lift _ hS23.ext r_s1) hf19 hf21 ha27 hb28) rfl ?_
        obtain ⟨u30, hc31, hr32⟩ := repSl.el r_s1 hx29
        refine WL.val u30 _ (op_load one_36 rfl (Ext.cell hS23.ext hc31)) rfl ?_
        refine WL.val (Value.int .i64 (k8 : Int)) _ (op_assign rfl) rfl ?_
        refine WL.val u30 _ (op_assign rfl) rfl ?_
        refine WL.nil ?_
        refine W.seq (W.region ?_)
        refine WL.val v_s2 _ (op_move hf17) rfl ?_
        refine WL.val (Value.int .i64 (k8 : Int)) _ (op_move rfl) rfl ?_
        obtain ⟨x33, hx36, hb13⟩ := bs hb13
        obtain ⟨ha34, hb35, hx36⟩ := idx_some hx36
        refine WL.val (Value.pointer (some (elA v_s2 ((k8 : Int)).toNat))) _ (op_idx sl_25 (Ty.lift _ hS23.ext r_s2) rfl rfl ha34 hb35) rfl ?_
        obtain ⟨u37, hc38, hr39⟩ := repSl.el r_s2 hx36
        refine WL.val u37 _ (op_load one_36 rfl (Ext.cell hS23.ext hc38)) rfl ?_
        refine WL.val u37 _ (op_assign rfl) rfl ?_
        refine WL.nil ?_
        refine W.seq (W.region ?_)
        refine WL.val (Value.func (.func g_eq) fst_eq cap_eq) _ (op_move hf18) rfl ?_
        refine WL.val u30 _ (op_move rfl) rfl ?_
        refine WL.val u37 _ (op_move rfl) rfl ?_
        obtain ⟨x40, hx41, hb13⟩ := bs hb13
        refine WL.call _ (op_callV rfl ok_eq (args2 rfl rfl)) (call_eq wd11 u30 x26 u37 x33 x40 hS23.ext (Ty.lift _ hS23.ext hr32) (Ty.lift _ hS23.ext hr39) hx41) rfl ?_
        rintro _ wd42 ⟨rfl, he43⟩
        have hS45 := St.extend hS23 he43
        refine WL.val (Value.bool (!x40)) _ (op_not rfl) rfl ?_
        refine WL.nil ?_
        refine W.cond (!x40) rfl (fun hc46 => ?_) (fun hc46 => ?_)
        · replace hb13 := ip hb13 hc46
          refine W.seq (W.region ?_)
          refine WL.val (Value.bool false) _ (op_assign rfl) rfl ?_
          refine WL.nil ?_
          refine W.ret ?_
          obtain rfl := Option.some.inj hb13
          obtain rfl := hret16 _ rfl
          replace h := onRes_ret h
          obtain rfl := Option.some.inj h
          show FinP _ _ _ _ _ _ _
          exact FinP.ret _ (res1 rfl rfl) ⟨rfl, hS45.ext⟩
        · replace hb13 := inegb hb13 hc46
          refine W.skip ?_
          show W _ _ _ _ _ _
          refine W.region ?_
          refine WL.val (Value.int .i64 (w64 ((k8 : Int) + (1 : Int)))) _ (op_add hf21 rfl) rfl ?_
          refine WL.val (Value.int .i64 (w64 ((k8 : Int) + (1 : Int)))) _ (op_move rfl) rfl ?_
          refine WL.nil ?_
          obtain rfl := Option.some.inj hb13
          show ∃ s, _ = Ctl.next s ∧ _
          exact ⟨_, rfl, hf17, hf18, hf19, hf20, (ctr_next hl24 hr5), (ctr_rng hl24 hr5), hS45⟩
      · intro s53 f49 wd50 hs51 hI52
        obtain ⟨⟩ := s53
        replace hI52 : f49 1 = v_s2 ∧ f49 2 = (Value.func (.func g_eq) fst_eq cap_eq) ∧ f49 15 = v_s1 ∧ f49 16 = (Value.int .i64 ((s1).length : Int)) ∧ f49 17 = Value.int .i64 (((s1).length : Nat) : Int) ∧ InR .i64 (((s1).length : Nat) : Int) ∧ St w wd50 [] := hI52
        obtain ⟨hf54, hf55, hf56, hf57, hf58, hr59, hS60⟩ := hI52
        refine W.seq (W.region ?_)
        refine WL.val (Value.bool (decide ((((s1).length : Nat) : Int) < ((s1).length : Int)))) _ (op_lss hf58 hf57) rfl ?_
        have hl61 : ¬ (((s1).length : Nat) : Int) < ((s1).length : Int) := by omega
        refine WL.nil ?_
        refine W.seq ?_
        refine W.condF (decide ((((s1).length : Nat) : Int) < ((s1).length : Int))) rfl (decide_eq_false hl61) ?_
        refine W.exit ?_
        show _ = _ ∧ _
        exact ⟨rfl, _, hs51, hS60⟩
    · rintro f62 wd63 ⟨s65, rfl, hq64⟩
      replace h := onRes_fin h
      obtain ⟨⟩ := s65
      replace hq64 : St w wd63 [] := hq64
      have hS66 := hq64
      refine W.seq (W.region ?_)
      refine WL.val (Value.bool true) _ (op_assign rfl) rfl ?_
      refine WL.nil ?_
      refine W.ret ?_
      obtain rfl := Option.some.inj h
      show FinP _ _ _ _ _ _ _
      exact FinP.ret _ (res1 rfl rfl) ⟨rfl, hS66.ext⟩

theorem c_slices_Equal_Lint64_int64 {w : World} {s1 : (List Int)} {v_s1 : Value} {s2 : (List Int)} {v_s2 : Value} (r_s1 : (Ty.sl (Ty.i .i64)).rep w v_s1 s1) (r_s2 : (Ty.sl (Ty.i .i64)).rep w v_s2 s2) {res : Bool} (h : p_slices_Equal_Lint64_int64 s1 s2  = some res) :
    Ret Try.prog 71 #[v_s1, v_s2] w (fun v w' => v = Value.bool res ∧ Ext w w') := by
  unfold p_slices_Equal_Lint64_int64 at h
  have hS0 : St w w [] := St.start w
  refine Ret.start (fn := Try.f71) Try.func71 rfl 26 rfl rfl ?_
  refine W.seq (W.region ?_)
  refine WL.val (Value.bool false) _ (op_assign rfl) rfl ?_
  refine WL.nil ?_
  refine W.seq (W.seq (W.region ?_))
  refine WL.val v_s1 _ (op_move rfl) rfl ?_
  have hr1 := inR_len (Ty.lift _ hS0.ext r_s1)
  refine WL.val (Value.int .i64 ((s1).length : Int)) _ (op_lenL sl_36 (Ty.lift _ hS0.ext r_s1) rfl) rfl ?_
  refine WL.val v_s2 _ (op_move rfl) rfl ?_
  have hr2 := inR_len (Ty.lift _ hS0.ext r_s2)
  refine WL.val (Value.int .i64 ((s2).length : Int)) _ (op_lenL sl_36 (Ty.lift _ hS0.ext r_s2) rfl) rfl ?_
  refine WL.val (Value.bool (((s1).length : Int) != ((s2).length : Int))) _ (op_neq rfl rfl) rfl ?_
  refine WL.nil ?_
  refine W.cond (((s1).length : Int) != ((s2).length : Int)) rfl (fun hc3 => ?_) (fun hc3 => ?_)
  · replace h := ip h hc3
    refine W.seq (W.region ?_)
    refine WL.val (Value.bool false) _ (op_assign rfl) rfl ?_
    refine WL.nil ?_
    refine W.ret ?_
    obtain rfl := Option.some.inj h
    show FinP _ _ _ _ _ _ _
    exact FinP.ret _ (res1 rfl rfl) ⟨rfl, hS0.ext⟩
  · replace h := inegb h hc3
    refine W.skip ?_
    refine W.seq (W.seq (W.region ?_))
    refine WL.val v_s1 _ (op_move rfl) rfl ?_
    have hr5 := inR_len (Ty.lift _ hS0.ext r_s1)
    refine WL.val (Value.int .i64 ((s1).length : Int)) _ (op_lenL sl_36 (Ty.lift _ hS0.ext r_s1) rfl) rfl ?_
    refine WL.val (Value.int .i64 (0 : Int)) _ (op_move rfl) rfl ?_
    refine WL.nil ?_
    show W _ _ _ _ _ _
    obtain ⟨res6, hres7, h⟩ := bs h
    refine W.blockLoop (fun fq wq => ∃ s, res6 = Res.fin s ∧ St w wq []) ?_ ?_
    · refine W.forN (fun k (s : Unit) fq wq => fq 0 = v_s1 ∧ fq 1 = v_s2 ∧ fq 12 = (Value.int .i64 ((s1).length : Int)) ∧ fq 13 = Value.int .i64 (k : Int) ∧ InR .i64 (k : Int) ∧ St w wq []) hres7 ⟨rfl, rfl, rfl, rfl, (inL rfl), hS0⟩ ?_ ?_
      · intro k8 s136 ct9 f10 wd11 hk12 hb13 hI14 hbrk15 hret16
        obtain ⟨⟩ := s136
        replace hI14 : f10 0 = v_s1 ∧ f10 1 = v_s2 ∧ f10 12 = (Value.int .i64 ((s1).length : Int)) ∧ f10 13 = Value.int .i64 (k8 : Int) ∧ InR .i64 (k8 : Int) ∧ St w wd11 [] := hI14
        replace hb13 : p_slices_Equal_Lint64_int64_L1 s1 s2 k8  = some ct9 := hb13
        unfold p_slices_Equal_Lint64_int64_L1 at hb13
        obtain ⟨hf17, hf18, hf19, hf20, hr21, hS22⟩ := hI14
        refine W.seq (W.region ?_)
        refine WL.val (Value.bool (decide ((k8 : Int) < ((s1).length : Int)))) _ (op_lss hf20 hf19) rfl ?_
        have hl23 : (k8 : Int) < ((s1).length : Int) := by omega
        refine WL.nil ?_
        refine W.seq ?_
        refine W.condT (decide ((k8 : Int) < ((s1).length : Int))) rfl (decide_eq_true hl23) ?_
        refine W.skip ?_
        refine W.seq ?_
        refine W.block ?_
        refine W.seq (W.region ?_)
        refine WL.val (Value.int .i64 (k8 : Int)) _ (op_move hf20) rfl ?_
        refine WL.val (Value.int .i64 (k8 : Int)) _ (op_assign rfl) rfl ?_
        refine WL.nil ?_
        refine W.seq ?_
        obtain ⟨x54, hx57, hb13⟩ := bs hb13
        obtain ⟨ha55, hb56, hx57⟩ := idx_some hx57
        obtain ⟨u68, hc69, hr70⟩ := repSl.el r_s1 hx57
        obtain ⟨rfl, hr70⟩ := hr70
        obtain ⟨x100, hx103, hb13⟩ := bs hb13
        obtain ⟨ha101, hb102, hx103⟩ := idx_some hx103
        obtain ⟨u114, hc115, hr116⟩ := repSl.el r_s2 hx103
        obtain ⟨rfl, hr116⟩ := hr116
        refine W.drawR mixo 8 [] [fun _ v _ _ => v = v_s1, fun _ v _ _ => v = (Value.int .i64 (k8 : Int)) ∧ InR .i64 (k8 : Int), fun _ v _ _ => v = (Value.pointer (some (elA v_s1 ((k8 : Int)).toNat))), fun _ v _ _ => v = (Value.int .i64 x54) ∧ InR .i64 x54, fun _ v _ _ => v = v_s2, fun _ v _ _ => v = (Value.int .i64 (k8 : Int)) ∧ InR .i64 (k8 : Int), fun _ v _ _ => v = (Value.pointer (some (elA v_s2 ((k8 : Int)).toNat))), fun _ v _ _ => v = (Value.int .i64 x100) ∧ InR .i64 x100] (by kernel_rfl) (by kernel_rfl) ⟨pk, pk, pk, pk, pk, pk, pk, pk, trivial⟩ ⟨?_, ?_, ?_, ?_, ?_, ?_, ?_, ?_, trivial⟩ ?_
        · refine ObX.op rfl fun f25 wd26 he27 hout28 hphi29 => ?_
          have e31 : f25 0 = v_s1 := (hout28 0 rfl).trans hf17
          exact OpX.val v_s1 wd26 rfl (op_move e31) (Ext.refl _) rfl
        · refine ObX.op rfl fun f32 wd33 he34 hout35 hphi36 => ?_
          have e38 : f32 5 = (Value.int .i64 (k8 : Int)) := (hout35 5 rfl).trans rfl
          exact OpX.val (Value.int .i64 (k8 : Int)) wd33 rfl (op_move e38) (Ext.refl _) ⟨rfl, hr21⟩
        · refine ObX.op rfl fun f39 wd40 he41 hout42 hphi43 => ?_
          have hS44 := St.extend hS22 he41
          obtain ⟨S45, hS46, hf47⟩ := hphi43 0 16 _ rfl rfl rfl
          have e48 : f39 16 = v_s1 := hf47
          obtain ⟨S49, hS50, hf51⟩ := hphi43 1 17 _ rfl rfl rfl
          obtain ⟨e52, hr53⟩ := hf51
          exact OpX.val (Value.pointer (some (elA v_s1 ((k8 : Int)).toNat))) wd40 rfl (op_idx sl_36 (Ty.lift _ hS44.ext r_s1) e48 e52 ha55 hb56) (Ext.refl _) rfl
        · refine ObX.op rfl fun f58 wd59 he60 hout61 hphi62 => ?_
          have hS63 := St.extend hS22 he60
          obtain ⟨S64, hS65, hf66⟩ := hphi62 2 18 _ rfl rfl rfl
          have e67 : f58 18 = (Value.pointer (some (elA v_s1 ((k8 : Int)).toNat))) := hf66
          exact OpX.val (Value.int .i64 x54) wd59 rfl (op_load one_2 e67 (Ext.cell hS63.ext hc69)) (Ext.refl _) ⟨rfl, hr70⟩
        · refine ObX.op rfl fun f71 wd72 he73 hout74 hphi75 => ?_
          have e77 : f71 1 = v_s2 := (hout74 1 rfl).trans hf18
          exact OpX.val v_s2 wd72 rfl (op_move e77) (Ext.refl _) rfl
        · refine ObX.op rfl fun f78 wd79 he80 hout81 hphi82 => ?_
          have e84 : f78 5 = (Value.int .i64 (k8 : Int)) := (hout81 5 rfl).trans rfl
          exact OpX.val (Value.int .i64 (k8 : Int)) wd79 rfl (op_move e84) (Ext.refl _) ⟨rfl, hr21⟩
        · refine ObX.op rfl fun f85 wd86 he87 hout88 hphi89 => ?_
          have hS90 := St.extend hS22 he87
          obtain ⟨S91, hS92, hf93⟩ := hphi89 4 20 _ rfl rfl rfl
          have e94 : f85 20 = v_s2 := hf93
          obtain ⟨S95, hS96, hf97⟩ := hphi89 5 21 _ rfl rfl rfl
          obtain ⟨e98, hr99⟩ := hf97
          exact OpX.val (Value.pointer (some (elA v_s2 ((k8 : Int)).toNat))) wd86 rfl (op_idx sl_36 (Ty.lift _ hS90.ext r_s2) e94 e98 ha101 hb102) (Ext.refl _) rfl
        · refine ObX.op rfl fun f104 wd105 he106 hout107 hphi108 => ?_
          have hS109 := St.extend hS22 he106
          obtain ⟨S110, hS111, hf112⟩ := hphi108 6 22 _ rfl rfl rfl
          have e113 : f104 22 = (Value.pointer (some (elA v_s2 ((k8 : Int)).toNat))) := hf112
          exact OpX.val (Value.int .i64 x100) wd105 rfl (op_load one_2 e113 (Ext.cell hS109.ext hc115)) (Ext.refl _) ⟨rfl, hr116⟩
        · intro f117 wd118 Ss119 he120 hout121 hSn122 hSd123 hphi124
          show WL _ _ _ _ _ _ _
          have hS125 := St.extend hS22 he120
          obtain ⟨e126, hr127⟩ := hphi124 3 19 _ (by decide) rfl rfl
          obtain ⟨e128, hr129⟩ := hphi124 7 23 _ (by decide) rfl rfl
          have e130 : f117 0 = v_s1 := (hout121 0 rfl).trans hf17
          have e131 : f117 1 = v_s2 := (hout121 1 rfl).trans hf18
          have e132 : f117 12 = (Value.int .i64 ((s1).length : Int)) := (hout121 12 rfl).trans hf19
          have e133 : f117 13 = (Value.int .i64 (k8 : Int)) := (hout121 13 rfl).trans hf20
          refine WL.val (Value.bool (x54 != x100)) _ (op_neq e126 e128) rfl ?_
          refine WL.nil ?_
          refine W.cond (x54 != x100) rfl (fun hc134 => ?_) (fun hc134 => ?_)
          · replace hb13 := ip hb13 hc134
            refine W.seq (W.region ?_)
            refine WL.val (Value.bool false) _ (op_assign rfl) rfl ?_
            refine WL.nil ?_
            refine W.ret ?_
            obtain rfl := Option.some.inj hb13
            obtain rfl := hret16 _ rfl
            replace h := onRes_ret h
            obtain rfl := Option.some.inj h
            show FinP _ _ _ _ _ _ _
            exact FinP.ret _ (res1 rfl rfl) ⟨rfl, hS125.ext⟩
          · replace hb13 := inegb hb13 hc134
            refine W.skip ?_
            show W _ _ _ _ _ _
            refine W.region ?_
            refine WL.val (Value.int .i64 (w64 ((k8 : Int) + (1 : Int)))) _ (op_add e133 rfl) rfl ?_
            refine WL.val (Value.int .i64 (w64 ((k8 : Int) + (1 : Int)))) _ (op_move rfl) rfl ?_
            refine WL.nil ?_
            obtain rfl := Option.some.inj hb13
            show ∃ s, _ = Ctl.next s ∧ _
            exact ⟨_, rfl, e130, e131, e132, (ctr_next hl23 hr5), (ctr_rng hl23 hr5), hS125⟩
      · intro s141 f137 wd138 hs139 hI140
        obtain ⟨⟩ := s141
        replace hI140 : f137 0 = v_s1 ∧ f137 1 = v_s2 ∧ f137 12 = (Value.int .i64 ((s1).length : Int)) ∧ f137 13 = Value.int .i64 (((s1).length : Nat) : Int) ∧ InR .i64 (((s1).length : Nat) : Int) ∧ St w wd138 [] := hI140
        obtain ⟨hf142, hf143, hf144, hf145, hr146, hS147⟩ := hI140
        refine W.seq (W.region ?_)
        refine WL.val (Value.bool (decide ((((s1).length : Nat) : Int) < ((s1).length : Int)))) _ (op_lss hf145 hf144) rfl ?_
        have hl148 : ¬ (((s1).length : Nat) : Int) < ((s1).length : Int) := by omega
        refine WL.nil ?_
        refine W.seq ?_
        refine W.condF (decide ((((s1).length : Nat) : Int) < ((s1).length : Int))) rfl (decide_eq_false hl148) ?_
        refine W.exit ?_
        show _ = _ ∧ _
        exact ⟨rfl, _, hs139, hS147⟩
    · rintro f149 wd150 ⟨s152, rfl, hq151⟩
      replace h := onRes_fin h
      obtain ⟨⟩ := s152
      replace hq151 : St w wd150 [] := hq151
      have hS153 := hq151
      refine W.seq (W.region ?_)
      refine WL.val (Value.bool true) _ (op_assign rfl) rfl ?_
      refine WL.nil ?_
      refine W.ret ?_
      obtain rfl := Option.some.inj h
      show FinP _ _ _ _ _ _ _
      exact FinP.ret _ (res1 rfl rfl) ⟨rfl, hS153.ext⟩

theorem c_impl_equalTables_c1 {w : World} {x : (List (List Int))} {v_x : Value} {y : (List (List Int))} {v_y : Value} (r_x : (Ty.sl (Ty.sl (Ty.i .i64))).rep w v_x x) (r_y : (Ty.sl (Ty.sl (Ty.i .i64))).rep w v_y y) {res : Bool} (h : p_impl_equalTables_c1 x y  = some res) :
    Ret Try.prog 69 #[v_x, v_y] w (fun v w' => v = Value.bool res ∧ Ext w w') := by
  unfold p_impl_equalTables_c1 at h
  have hS0 : St w w [] := St.start w
  refine Ret.start (fn := Try.f69) Try.func69 rfl 8 rfl rfl ?_
  refine W.seq (W.region ?_)
  refine WL.val (Value.bool false) _ (op_assign rfl) rfl ?_
  refine WL.nil ?_
  refine W.seq (W.region ?_)
  refine WL.val v_x _ (op_move rfl) rfl ?_
  refine WL.val v_y _ (op_move rfl) rfl ?_
  obtain ⟨x5, hx6, h⟩ := bs h
  refine WL.call _ (op_call fn_70 (args3 rfl rfl rfl)) (c_slices_EqualFunc_LLint64_LLint64_Lint64_Lint64 (Ty.lift _ hS0.ext r_x) (Ty.lift _ hS0.ext r_y) (⟨71, #[], #[], rfl, fn_71, fun wd1 u0_2 a0_2 u1_2 a1_2 r3 he2 ra0_2 ra1_2 hq4 => c_slices_Equal_Lint64_int64 ra0_2 ra1_2 hq4⟩) hx6) rfl ?_
  rintro _ wd7 ⟨rfl, he8⟩
  have hS10 := St.extend hS0 he8
  replace hS10 : St w wd7 [] := hS10
  refine WL.val (Value.bool x5) _ (op_assign rfl) rfl ?_
  refine WL.nil ?_
  refine W.ret ?_
  obtain rfl := Option.some.inj h
  show FinP _ _ _ _ _ _ _
  exact FinP.ret _ (res1 rfl rfl) ⟨rfl, hS10.ext⟩

theorem c_impl_equalTables {w : World} {a : (List (List (List Int)))} {v_a : Value} {b : (List (List (List Int)))} {v_b : Value} (r_a : (Ty.sl (Ty.sl (Ty.sl (Ty.i .i64)))).rep w v_a a) (r_b : (Ty.sl (Ty.sl (Ty.sl (Ty.i .i64)))).rep w v_b b) {res : Bool} (h : p_impl_equalTables a b  = some res) :
    Ret Try.prog 53 #[v_a, v_b] w (fun v w' => v = Value.bool res ∧ Ext w w') := by
  unfold p_impl_equalTables at h
  have hS0 : St w w [] := St.start w
  refine Ret.start (fn := Try.f53) Try.func53 rfl 8 rfl rfl ?_
  refine W.seq (W.region ?_)
  refine WL.val (Value.bool false) _ (op_assign rfl) rfl ?_
  refine WL.nil ?_
  refine W.seq (W.region ?_)
  refine WL.val v_a _ (op_move rfl) rfl ?_
  refine WL.val v_b _ (op_move rfl) rfl ?_
  obtain ⟨x5, hx6, h⟩ := bs h
  refine WL.call _ (op_call fn_68 (args3 rfl rfl rfl)) (c_slices_EqualFunc_LLLint64_LLLint64_LLint64_LLint64 (Ty.lift _ hS0.ext r_a) (Ty.lift _ hS0.ext r_b) (⟨69, #[], #[], rfl, fn_69, fun wd1 u0_2 a0_2 u1_2 a1_2 r3 he2 ra0_2 ra1_2 hq4 => c_impl_equalTables_c1 ra0_2 ra1_2 hq4⟩) hx6) rfl ?_
  rintro _ wd7 ⟨rfl, he8⟩
  have hS10 := St.extend hS0 he8
  replace hS10 : St w wd7 [] := hS10
  refine WL.val (Value.bool x5) _ (op_assign rfl) rfl ?_
  refine WL.nil ?_
  refine W.ret ?_
  obtain rfl := Option.some.inj h
  show FinP _ _ _ _ _ _ _
  exact FinP.ret _ (res1 rfl rfl) ⟨rfl, hS10.ext⟩

theorem c_impl_Ring_isCommutative {w : World} {r_Table : (List (List (List Int)))} {v_r_Table : Value} (r_r_Table : (Ty.sl (Ty.sl (Ty.sl (Ty.i .i64)))).rep w v_r_Table r_Table) {res : Bool} (h : p_impl_Ring_isCommutative r_Table  = some res) :
    Ret Try.prog 31 #[(Value.agg #[v_r_Table])] w (fun v w' => v = Value.bool res ∧ Ext w w') := by
  unfold p_impl_Ring_isCommutative at h
  have hS0 : St w w [] := St.start w
  refine Ret.start (fn := Try.f31) Try.func31 rfl 9 rfl rfl ?_
  refine W.seq (W.region ?_)
  refine WL.box hS0 rfl (cs := [v_r_Table]) rfl rfl ?_
  intro b1 wd2 hS3 he4 hx5
  replace hS3 : St w wd2 [bx b1 [v_r_Table]] := hS3
  have hx6 := St.boxAt hS3 0 rfl
  have hE7 : Ext w wd2 := hS3.ext
  have hS8 : St wd2 wd2 [] := St.start wd2
  refine WL.val (Value.bool false) _ (op_assign rfl) rfl ?_
  refine WL.nil ?_
  refine W.seq ?_
  obtain ⟨x43, hx44, h⟩ := bs h
  refine W.drawR mixo 5 [] [fun _ v _ _ => v = (Value.pointer (some ⟨b1, 0, none⟩)), fun _ v _ _ => v = v_r_Table, fun _ v S w' => v = (Value.agg #[v_r_Table]), fun _ v S w' => ∃ (uu0 : Value), v = (Value.agg #[uu0]) ∧ SepS S w' [(Ty.sl (Ty.sl (Ty.sl (Ty.i .i64)))).at uu0 x43], fun _ v _ w' => (Ty.sl (Ty.sl (Ty.sl (Ty.i .i64)))).rep w' v x43] (by kernel_rfl) (by kernel_rfl) ⟨pk, pk, pk, ⟨fun _ _ _ _ _ he ⟨uu0, h0, r0⟩ => ⟨uu0, h0, SepS.extend he r0⟩, fun _ _ _ _ _ _ h => h⟩, ⟨fun _ _ _ _ _ he h => Ty.lift _ he h, fun _ _ _ _ _ _ h => h⟩, trivial⟩ ⟨?_, ?_, ?_, ?_, ?_, trivial⟩ ?_
  · refine ObX.op rfl fun f9 wd10 he11 hout12 hphi13 => ?_
    have e15 : f9 1 = (Value.pointer (some ⟨b1, 0, none⟩)) := (hout12 1 rfl).trans rfl
    exact OpX.val (Value.pointer (some ⟨b1, 0, none⟩)) wd10 rfl (op_fieldAddr fd_30_0 e15) (Ext.refl _) rfl
  · refine ObX.op rfl fun f16 wd17 he18 hout19 hphi20 => ?_
    have hS21 := St.extend hS8 he18
    obtain ⟨S22, hS23, hf24⟩ := hphi20 0 3 _ rfl rfl rfl
    have e25 : f16 3 = (Value.pointer (some ⟨b1, 0, none⟩)) := hf24
    exact OpX.val v_r_Table wd17 rfl (op_load one_22 e25 (BoxAt.cell (BoxAt.lift hS21.ext hx6) rfl)) (Ext.refl _) rfl
  · refine ObX.op rfl fun f26 wd27 he28 hout29 hphi30 => ?_
    have hS31 := St.extend hS8 he28
    have e32 : f26 1 = (Value.pointer (some ⟨b1, 0, none⟩)) := (hout29 1 rfl).trans rfl
    exact OpX.val (Value.agg #[v_r_Table]) wd27 rfl (op_loadBox st_30 e32 (BoxAt.lift hS31.ext hx6) rfl rfl) (Ext.refl _) rfl
  · refine ObX.op rfl fun f33 wd34 he35 hout36 hphi37 => ?_
    have hS38 := St.extend hS8 he35
    obtain ⟨S39, hS40, hf41⟩ := hphi37 2 5 _ rfl rfl rfl
    have e42 : f33 5 = (Value.agg #[v_r_Table]) := hf41
    refine OpX.call rfl (op_call fn_54 (args1 e42)) (Ret.mono (c_impl_Ring_opposite (Ty.lift _ (Ext.trans hE7 hS38.ext) r_r_Table) hx44) ?_)
    rintro _ wd46 ⟨u45, rfl, he47, hs48⟩
    exact ⟨he47, _, newS _ _, ⟨u45, rfl, (Sep.new hs48)⟩⟩
  · refine ObX.op rfl fun f49 wd50 he51 hout52 hphi53 => ?_
    obtain ⟨S55, hS56, hf57⟩ := hphi53 3 6 _ rfl rfl rfl
    obtain ⟨u59, e58, e58s⟩ := hf57
    exact OpX.val u59 wd50 rfl (op_field fl_30_0 e58 rfl) (Ext.refl _) (SepS.rep (t := (Ty.sl (Ty.sl (Ty.sl (Ty.i .i64))))) e58s 0 rfl)
  · intro f60 wd61 Ss62 he63 hout64 hSn65 hSd66 hphi67
    show WL _ _ _ _ _ _ _
    have hS68 := St.extend hS8 he63
    have e69 : f60 4 = v_r_Table := hphi67 1 4 _ (by decide) rfl rfl
    have e70 : (Ty.sl (Ty.sl (Ty.sl (Ty.i .i64)))).rep wd61 (f60 7) x43 := hphi67 4 7 _ (by decide) rfl rfl
    obtain ⟨x71, hx72, h⟩ := bs h
    refine WL.call _ (op_call fn_53 (args2 e69 rfl)) (c_impl_equalTables (Ty.lift _ (Ext.trans hE7 hS68.ext) r_r_Table) e70 hx72) rfl ?_
    rintro _ wd73 ⟨rfl, he74⟩
    have hS76 := St.extend hS68 he74
    replace hS76 : St wd2 wd73 [] := hS76
    refine WL.val (Value.bool x71) _ (op_assign rfl) rfl ?_
    refine WL.nil ?_
    refine W.ret ?_
    obtain rfl := Option.some.inj h
    show FinP _ _ _ _ _ _ _
    exact FinP.ret _ (res1 rfl rfl) ⟨rfl, (Ext.trans hE7 hS76.ext)⟩

theorem c_slices_Max_Lint64_int64 {w : World} {x : (List Int)} {v_x : Value} (r_x : (Ty.sl (Ty.i .i64)).rep w v_x x) {res : Int} (h : p_slices_Max_Lint64_int64 x  = some res) :
    Ret Try.prog 72 #[v_x] w (fun v w' => v = Value.int .i64 res ∧ InR .i64 res ∧ Ext w w') := by
  unfold p_slices_Max_Lint64_int64 at h
  have hS0 : St w w [] := St.start w
  refine Ret.start (fn := Try.f72) Try.func72 rfl 25 rfl rfl ?_
  refine W.seq (W.region ?_)
  refine WL.val (Value.int .i64 (0 : Int)) _ (op_assign rfl) rfl ?_
  refine WL.nil ?_
  refine W.seq (W.seq (W.region ?_))
  refine WL.val v_x _ (op_move rfl) rfl ?_
  have hr1 := inR_len (Ty.lift _ hS0.ext r_x)
  refine WL.val (Value.int .i64 ((x).length : Int)) _ (op_lenL sl_36 (Ty.lift _ hS0.ext r_x) rfl) rfl ?_
  refine WL.val (Value.bool (decide (((x).length : Int) < (1 : Int)))) _ (op_lss rfl rfl) rfl ?_
  refine WL.nil ?_
  show W _ _ _ _ _ _
  obtain ⟨⟨⟩, hj2, h⟩ := bs h
  refine W.cutCode (fun fq wq => fq 0 = v_x ∧ St w wq []) ?_ ?_
  · refine W.cond (decide (((x).length : Int) < (1 : Int))) rfl (fun hc3 => ?_) (fun hc3 => ?_)
    · replace hj2 := ip hj2 hc3
      refine W.region ?_
      exact (none_some hj2).elim
    · replace hj2 := inegb hj2 hc3
      refine W.skip ?_
      exact ⟨rfl, hS0⟩
  · intro f4 wd5 hq6
    obtain ⟨hf7, hS8⟩ := hq6
    refine W.seq (W.region ?_)
    refine WL.val v_x _ (op_move hf7) rfl ?_
    obtain ⟨x9, hx12, h⟩ := bs h
    obtain ⟨ha10, hb11, hx12⟩ := idx_some hx12
    refine WL.val (Value.pointer (some (elA v_x ((0 : Int)).toNat))) _ (op_idx sl_36 (Ty.lift _ hS8.ext r_x) rfl rfl ha10 hb11) rfl ?_
    obtain ⟨u13, hc14, hr15⟩ := repSl.el r_x hx12
    obtain ⟨rfl, hr15⟩ := hr15
    refine WL.val (Value.int .i64 x9) _ (op_load one_2 rfl (Ext.cell hS8.ext hc14)) rfl ?_
    refine WL.val (Value.int .i64 x9) _ (op_assign rfl) rfl ?_
    refine WL.nil ?_
    refine W.seq (W.seq (W.region ?_))
    refine WL.val (Value.int .i64 (1 : Int)) _ (op_assign rfl) rfl ?_
    refine WL.nil ?_
    show W _ _ _ _ _ _
    obtain ⟨res16, hres17, h⟩ := bs h
    refine W.blockLoop (fun fq wq => ∃ s, res16 = Res.fin s ∧ fq 3 = Value.int .i64 s ∧ InR .i64 s ∧ St w wq []) ?_ ?_
    · refine W.forN (fun k (s : Int) fq wq => fq 0 = v_x ∧ fq 3 = Value.int .i64 s ∧ InR .i64 s ∧ fq 4 = Value.int .i64 ((1 : Int) + (k : Int)) ∧ InR .i64 ((1 : Int) + (k : Int)) ∧ St w wq []) hres17 ⟨hf7, rfl, hr15, rfl, (inL rfl), hS8⟩ ?_ ?_
      · intro k18 x19 ct20 f21 wd22 hk23 hb24 hI25 hbrk26 hret27
        replace hI25 : f21 0 = v_x ∧ f21 3 = Value.int .i64 x19 ∧ InR .i64 x19 ∧ f21 4 = Value.int .i64 ((1 : Int) + (k18 : Int)) ∧ InR .i64 ((1 : Int) + (k18 : Int)) ∧ St w wd22 [] := hI25
        replace hb24 : p_slices_Max_Lint64_int64_L1 x k18 x19 = some ct20 := hb24
        unfold p_slices_Max_Lint64_int64_L1 at hb24
        obtain ⟨hf28, hf29, hr30, hf31, hr32, hS33⟩ := hI25
        refine W.seq (W.seq (W.region ?_))
        refine WL.val (Value.int .i64 ((1 : Int) + (k18 : Int))) _ (op_move hf31) rfl ?_
        refine WL.val v_x _ (op_move hf28) rfl ?_
        have hr34 := inR_len (Ty.lift _ hS33.ext r_x)
        refine WL.val (Value.int .i64 ((x).length : Int)) _ (op_lenL sl_36 (Ty.lift _ hS33.ext r_x) rfl) rfl ?_
        refine WL.val (Value.bool (decide (((1 : Int) + (k18 : Int)) < ((x).length : Int)))) _ (op_lss rfl rfl) rfl ?_
        have hl35 : ((1 : Int) + (k18 : Int)) < ((x).length : Int) := by omega
        refine WL.nil ?_
        refine W.condT (decide (((1 : Int) + (k18 : Int)) < ((x).length : Int))) rfl (decide_eq_true hl35) ?_
        refine W.skip ?_
        refine W.seq ?_
        refine W.block ?_
        refine W.region ?_
        refine WL.val (Value.int .i64 x19) _ (op_move hf29) rfl ?_
        refine WL.val v_x _ (op_move hf28) rfl ?_
        refine WL.val (Value.int .i64 ((1 : Int) + (k18 : Int))) _ (op_move hf31) rfl ?_
        obtain ⟨x37, hx40, hb24⟩ := bs hb24
        obtain ⟨ha38, hb39, hx40⟩ := idx_some hx40
        refine WL.val (Value.pointer (some (elA v_x (((1 : Int) + (k18 : Int))).toNat))) _ (op_idx sl_36 (Ty.lift _ hS33.ext r_x) rfl rfl ha38 hb39) rfl ?_
        obtain ⟨u41, hc42, hr43⟩ := repSl.el r_x hx40
        obtain ⟨rfl, hr43⟩ := hr43
        refine WL.val (Value.int .i64 x37) _ (op_load one_2 rfl (Ext.cell hS33.ext hc42)) rfl ?_
        refine WL.val (Value.int .i64 (if x37 > x19 then x37 else x19)) _ (op_max2 rfl rfl) rfl ?_
        refine WL.val (Value.int .i64 (if x37 > x19 then x37 else x19)) _ (op_assign rfl) rfl ?_
        refine WL.nil ?_
        show W _ _ _ _ _ _
        refine W.region ?_
        refine WL.val (Value.int .i64 ((1 : Int) + (k18 : Int))) _ (op_move hf31) rfl ?_
        refine WL.val (Value.int .i64 (w64 (((1 : Int) + (k18 : Int)) + (1 : Int)))) _ (op_add rfl rfl) rfl ?_
        refine WL.val (Value.int .i64 (w64 (((1 : Int) + (k18 : Int)) + (1 : Int)))) _ (op_assign rfl) rfl ?_
        refine WL.nil ?_
        obtain rfl := Option.some.inj hb24
        show ∃ s, _ = Ctl.next s ∧ _
        exact ⟨_, rfl, hf28, rfl, (inR_ite hr43 hr30), (ctrS_next hl35 hr34 (inL rfl)), (ctrS_rng hl35 hr34 (inL rfl)), hS33⟩
      · intro x50 f45 wd46 hs47 hI48
        replace hI48 : f45 0 = v_x ∧ f45 3 = Value.int .i64 x50 ∧ InR .i64 x50 ∧ f45 4 = Value.int .i64 ((1 : Int) + (((((x).length : Int) - (1 : Int)).toNat : Nat) : Int)) ∧ InR .i64 ((1 : Int) + (((((x).length : Int) - (1 : Int)).toNat : Nat) : Int)) ∧ St w wd46 [] := hI48
        obtain ⟨hf51, hf52, hr53, hf54, hr55, hS56⟩ := hI48
        refine W.seq (W.seq (W.region ?_))
        refine WL.val (Value.int .i64 ((1 : Int) + (((((x).length : Int) - (1 : Int)).toNat : Nat) : Int))) _ (op_move hf54) rfl ?_
        refine WL.val v_x _ (op_move hf51) rfl ?_
        have hr57 := inR_len (Ty.lift _ hS56.ext r_x)
        refine WL.val (Value.int .i64 ((x).length : Int)) _ (op_lenL sl_36 (Ty.lift _ hS56.ext r_x) rfl) rfl ?_
        refine WL.val (Value.bool (decide (((1 : Int) + (((((x).length : Int) - (1 : Int)).toNat : Nat) : Int)) < ((x).length : Int)))) _ (op_lss rfl rfl) rfl ?_
        have hl58 : ¬ ((1 : Int) + (((((x).length : Int) - (1 : Int)).toNat : Nat) : Int)) < ((x).length : Int) := by omega
        refine WL.nil ?_
        refine W.condF (decide (((1 : Int) + (((((x).length : Int) - (1 : Int)).toNat : Nat) : Int)) < ((x).length : Int))) rfl (decide_eq_false hl58) ?_
        refine W.exit ?_
        show _ = _ ∧ _
        exact ⟨rfl, _, hs47, hf52, hr53, hS56⟩
    · rintro f59 wd60 ⟨x63, rfl, hq61⟩
      replace h := onRes_fin h
      replace hq61 : f59 3 = Value.int .i64 x63 ∧ InR .i64 x63 ∧ St w wd60 [] := hq61
      obtain ⟨hf64, hr65, hS66⟩ := hq61
      refine W.seq (W.region ?_)
      refine WL.val (Value.int .i64 x63) _ (op_move hf64) rfl ?_
      refine WL.val (Value.int .i64 x63) _ (op_assign rfl) rfl ?_
      refine WL.nil ?_
      refine W.ret ?_
      obtain rfl := Option.some.inj h
      show FinP _ _ _ _ _ _ _
      exact FinP.ret _ (res1 rfl rfl) ⟨rfl, hr65, hS66.ext⟩

theorem c_impl_Ring_greatest {w : World} {r_Table : (List (List (List Int)))} {v_r_Table : Value} (r_r_Table : (Ty.sl (Ty.sl (Ty.sl (Ty.i .i64)))).rep w v_r_Table r_Table) {res : Int} (h : p_impl_Ring_greatest r_Table  = some res) :
    Ret Try.prog 55 #[(Value.agg #[v_r_Table])] w (fun v w' => v = Value.int .i64 res ∧ InR .i64 res ∧ Ext w w') := by
  unfold p_impl_Ring_greatest at h
  have hS0 : St w w [] := St.start w
  refine Ret.start (fn := Try.f55) Try.func55 rfl 28 rfl rfl ?_
  refine W.seq (W.region ?_)
  refine WL.box hS0 rfl (cs := [v_r_Table]) rfl rfl ?_
  intro b1 wd2 hS3 he4 hx5
  replace hS3 : St w wd2 [bx b1 [v_r_Table]] := hS3
  have hx6 := St.boxAt hS3 0 rfl
  have hE7 : Ext w wd2 := hS3.ext
  have hS8 : St wd2 wd2 [] := St.start wd2
  refine WL.val (Value.int .i64 (0 : Int)) _ (op_assign rfl) rfl ?_
  refine WL.nil ?_
  refine W.seq (W.region ?_)
  refine WL.val (Value.int .i64 (0 : Int)) _ (op_assign rfl) rfl ?_
  refine WL.nil ?_
  refine W.seq (W.seq (W.region ?_))
  refine WL.val (Value.pointer (some ⟨b1, 0, none⟩)) _ (op_fieldAddr fd_30_0 rfl) rfl ?_
  refine WL.val v_r_Table _ (op_load one_22 rfl (BoxAt.cell (BoxAt.lift hS8.ext hx6) rfl)) rfl ?_
  have hr9 := inR_len (Ty.lift _ (Ext.trans hE7 hS8.ext) r_r_Table)
  refine WL.val (Value.int .i64 ((r_Table).length : Int)) _ (op_lenL sl_22 (Ty.lift _ (Ext.trans hE7 hS8.ext) r_r_Table) rfl) rfl ?_
  refine WL.val (Value.int .i64 (0 : Int)) _ (op_move rfl) rfl ?_
  refine WL.nil ?_
  show W _ _ _ _ _ _
  obtain ⟨res10, hres11, h⟩ := bs h
  refine W.blockLoop (fun fq wq => ∃ s, res10 = Res.fin s ∧ fq 3 = Value.int .i64 s ∧ InR .i64 s ∧ St wd2 wq []) ?_ ?_
  · refine W.forN (fun k (s : Int) fq wq => fq 3 = Value.int .i64 s ∧ InR .i64 s ∧ fq 9 = v_r_Table ∧ fq 10 = (Value.int .i64 ((r_Table).length : Int)) ∧ fq 11 = Value.int .i64 (k : Int) ∧ InR .i64 (k : Int) ∧ St wd2 wq []) hres11 ⟨rfl, (inL rfl), rfl, rfl, rfl, (inL rfl), hS8⟩ ?_ ?_
    · intro k12 x13 ct14 f15 wd16 hk17 hb18 hI19 hbrk20 hret21
      replace hI19 : f15 3 = Value.int .i64 x13 ∧ InR .i64 x13 ∧ f15 9 = v_r_Table ∧ f15 10 = (Value.int .i64 ((r_Table).length : Int)) ∧ f15 11 = Value.int .i64 (k12 : Int) ∧ InR .i64 (k12 : Int) ∧ St wd2 wd16 [] := hI19
      replace hb18 : p_impl_Ring_greatest_L1 r_Table k12 x13 = some ct14 := hb18
      unfold p_impl_Ring_greatest_L1 at hb18
      obtain ⟨hf22, hr23, hf24, hf25, hf26, hr27, hS28⟩ := hI19
      refine W.seq (W.region ?_)
      refine WL.val (Value.bool (decide ((k12 : Int) < ((r_Table).length : Int)))) _ (op_lss hf26 hf25) rfl ?_
      have hl29 : (k12 : Int) < ((r_Table).length : Int) := by omega
      refine WL.nil ?_
      refine W.seq ?_
      refine W.condT (decide ((k12 : Int) < ((r_Table).length : Int))) rfl (decide_eq_true hl29) ?_
      refine W.skip ?_
      refine W.seq ?_
      refine W.block ?_
      refine W.seq (W.region ?_)
      obtain ⟨x31, hx34, hb18⟩ := bs hb18
      obtain ⟨ha32, hb33, hx34⟩ := idx_some hx34
      refine WL.val (Value.pointer (some (elA v_r_Table ((k12 : Int)).toNat))) _ (op_idx sl_22 (Ty.lift _ (Ext.trans hE7 hS28.ext) r_r_Table) hf24 hf26 ha32 hb33) rfl ?_
      obtain ⟨u35, hc36, hr37⟩ := repSl.el r_r_Table hx34
      refine WL.val u35 _ (op_load one_25 rfl (Ext.cell (Ext.trans hE7 hS28.ext) hc36)) rfl ?_
      refine WL.val u35 _ (op_assign rfl) rfl ?_
      refine WL.nil ?_
      refine W.seq (W.region ?_)
      refine WL.val u35 _ (op_move rfl) rfl ?_
      have hr38 := inR_len (Ty.lift _ (Ext.trans hE7 hS28.ext) hr37)
      refine WL.val (Value.int .i64 ((x31).length : Int)) _ (op_lenL sl_25 (Ty.lift _ (Ext.trans hE7 hS28.ext) hr37) rfl) rfl ?_
      refine WL.val (Value.int .i64 (0 : Int)) _ (op_move rfl) rfl ?_
      refine WL.nil ?_
      show W _ _ _ _ _ _
      obtain ⟨res39, hres40, hb18⟩ := bs hb18
      refine W.blockLoop (fun fq wq => ∃ s, res39 = Res.fin s ∧ fq 3 = Value.int .i64 s ∧ InR .i64 s ∧ fq 9 = v_r_Table ∧ fq 10 = (Value.int .i64 ((r_Table).length : Int)) ∧ fq 11 = (Value.int .i64 (k12 : Int)) ∧ St wd2 wq []) ?_ ?_
      · refine W.forN (fun k (s : Int) fq wq => fq 3 = Value.int .i64 s ∧ InR .i64 s ∧ fq 9 = v_r_Table ∧ fq 10 = (Value.int .i64 ((r_Table).length : Int)) ∧ fq 11 = (Value.int .i64 (k12 : Int)) ∧ fq 15 = u35 ∧ fq 16 = (Value.int .i64 ((x31).length : Int)) ∧ fq 17 = Value.int .i64 (k : Int) ∧ InR .i64 (k : Int) ∧ St wd2 wq []) hres40 ⟨hf22, hr23, hf24, hf25, hf26, rfl, rfl, rfl, (inL rfl), hS28⟩ ?_ ?_
        · intro k41 x42 ct43 f44 wd45 hk46 hb47 hI48 hbrk49 hret50
          replace hI48 : f44 3 = Value.int .i64 x42 ∧ InR .i64 x42 ∧ f44 9 = v_r_Table ∧ f44 10 = (Value.int .i64 ((r_Table).length : Int)) ∧ f44 11 = (Value.int .i64 (k12 : Int)) ∧ f44 15 = u35 ∧ f44 16 = (Value.int .i64 ((x31).length : Int)) ∧ f44 17 = Value.int .i64 (k41 : Int) ∧ InR .i64 (k41 : Int) ∧ St wd2 wd45 [] := hI48
          replace hb47 : p_impl_Ring_greatest_L2 x31 k41 x42 = some ct43 := hb47
          unfold p_impl_Ring_greatest_L2 at hb47
          obtain ⟨hf51, hr52, hf53, hf54, hf55, hf56, hf57, hf58, hr59, hS60⟩ := hI48
          refine W.seq (W.region ?_)
          refine WL.val (Value.bool (decide ((k41 : Int) < ((x31).length : Int)))) _ (op_lss hf58 hf57) rfl ?_
          have hl61 : (k41 : Int) < ((x31).length : Int) := by omega
          refine WL.nil ?_
          refine W.seq ?_
          refine W.condT (decide ((k41 : Int) < ((x31).length : Int))) rfl (decide_eq_true hl61) ?_
          refine W.skip ?_
          refine W.seq ?_
          refine W.block ?_
          refine W.seq (W.region ?_)
          obtain ⟨x63, hx66, hb47⟩ := bs hb47
          obtain ⟨ha64, hb65, hx66⟩ := idx_some hx66
          refine WL.val (Value.pointer (some (elA u35 ((k41 : Int)).toNat))) _ (op_idx sl_25 (Ty.lift _ (Ext.trans hE7 hS60.ext) hr37) hf56 hf58 ha64 hb65) rfl ?_
          obtain ⟨u67, hc68, hr69⟩ := repSl.el hr37 hx66
          refine WL.val u67 _ (op_load one_36 rfl (Ext.cell (Ext.trans hE7 hS60.ext) hc68)) rfl ?_
          refine WL.val u67 _ (op_assign rfl) rfl ?_
          refine WL.nil ?_
          show W _ _ _ _ _ _
          refine W.region ?_
          refine WL.val (Value.int .i64 x42) _ (op_move hf51) rfl ?_
          refine WL.val u67 _ (op_move rfl) rfl ?_
          obtain ⟨x70, hx71, hb47⟩ := bs hb47
          refine WL.call _ (op_call fn_72 (args1 rfl)) (c_slices_Max_Lint64_int64 (Ty.lift _ (Ext.trans hE7 hS60.ext) hr69) hx71) rfl ?_
          rintro _ wd73 ⟨rfl, hr72, he74⟩
          have hS76 := St.extend hS60 he74
          replace hS76 : St wd2 wd73 [] := hS76
          refine WL.val (Value.int .i64 (if x70 > x42 then x70 else x42)) _ (op_max2 rfl rfl) rfl ?_
          refine WL.val (Value.int .i64 (if x70 > x42 then x70 else x42)) _ (op_assign rfl) rfl ?_
          refine WL.nil ?_
          show W _ _ _ _ _ _
          refine W.region ?_
          refine WL.val (Value.int .i64 (w64 ((k41 : Int) + (1 : Int)))) _ (op_add hf58 rfl) rfl ?_
          refine WL.val (Value.int .i64 (w64 ((k41 : Int) + (1 : Int)))) _ (op_move rfl) rfl ?_
          refine WL.nil ?_
          obtain rfl := Option.some.inj hb47
          show ∃ s, _ = Ctl.next s ∧ _
          exact ⟨_, rfl, rfl, (inR_ite hr72 hr52), hf53, hf54, hf55, hf56, hf57, (ctr_next hl61 hr38), (ctr_rng hl61 hr38), hS76⟩
        · intro x83 f78 wd79 hs80 hI81
          replace hI81 : f78 3 = Value.int .i64 x83 ∧ InR .i64 x83 ∧ f78 9 = v_r_Table ∧ f78 10 = (Value.int .i64 ((r_Table).length : Int)) ∧ f78 11 = (Value.int .i64 (k12 : Int)) ∧ f78 15 = u35 ∧ f78 16 = (Value.int .i64 ((x31).length : Int)) ∧ f78 17 = Value.int .i64 (((x31).length : Nat) : Int) ∧ InR .i64 (((x31).length : Nat) : Int) ∧ St wd2 wd79 [] := hI81
          obtain ⟨hf84, hr85, hf86, hf87, hf88, hf89, hf90, hf91, hr92, hS93⟩ := hI81
          refine W.seq (W.region ?_)
          refine WL.val (Value.bool (decide ((((x31).length : Nat) : Int) < ((x31).length : Int)))) _ (op_lss hf91 hf90) rfl ?_
          have hl94 : ¬ (((x31).length : Nat) : Int) < ((x31).length : Int) := by omega
          refine WL.nil ?_
          refine W.seq ?_
          refine W.condF (decide ((((x31).length : Nat) : Int) < ((x31).length : Int))) rfl (decide_eq_false hl94) ?_
          refine W.exit ?_
          show _ = _ ∧ _
          exact ⟨rfl, _, hs80, hf84, hr85, hf86, hf87, hf88, hS93⟩
      · rintro f95 wd96 ⟨x99, rfl, hq97⟩
        replace hb18 := onRes_fin hb18
        replace hq97 : f95 3 = Value.int .i64 x99 ∧ InR .i64 x99 ∧ f95 9 = v_r_Table ∧ f95 10 = (Value.int .i64 ((r_Table).length : Int)) ∧ f95 11 = (Value.int .i64 (k12 : Int)) ∧ St wd2 wd96 [] := hq97
        obtain ⟨hf100, hr101, hf102, hf103, hf104, hS105⟩ := hq97
        show W _ _ _ _ _ _
        refine W.region ?_
        refine WL.val (Value.int .i64 (w64 ((k12 : Int) + (1 : Int)))) _ (op_add hf104 rfl) rfl ?_
        refine WL.val (Value.int .i64 (w64 ((k12 : Int) + (1 : Int)))) _ (op_move rfl) rfl ?_
        refine WL.nil ?_
        obtain rfl := Option.some.inj hb18
        show ∃ s, _ = Ctl.next s ∧ _
        exact ⟨_, rfl, hf100, hr101, hf102, hf103, (ctr_next hl29 hr9), (ctr_rng hl29 hr9), hS105⟩
    · intro x113 f108 wd109 hs110 hI111
      replace hI111 : f108 3 = Value.int .i64 x113 ∧ InR .i64 x113 ∧ f108 9 = v_r_Table ∧ f108 10 = (Value.int .i64 ((r_Table).length : Int)) ∧ f108 11 = Value.int .i64 (((r_Table).length : Nat) : Int) ∧ InR .i64 (((r_Table).length : Nat) : Int) ∧ St wd2 wd109 [] := hI111
      obtain ⟨hf114, hr115, hf116, hf117, hf118, hr119, hS120⟩ := hI111
      refine W.seq (W.region ?_)
      refine WL.val (Value.bool (decide ((((r_Table).length : Nat) : Int) < ((r_Table).length : Int)))) _ (op_lss hf118 hf117) rfl ?_
      have hl121 : ¬ (((r_Table).length : Nat) : Int) < ((r_Table).length : Int) := by omega
      refine WL.nil ?_
      refine W.seq ?_
      refine W.condF (decide ((((r_Table).length : Nat) : Int) < ((r_Table).length : Int))) rfl (decide_eq_false hl121) ?_
      refine W.exit ?_
      show _ = _ ∧ _
      exact ⟨rfl, _, hs110, hf114, hr115, hS120⟩
  · rintro f122 wd123 ⟨x126, rfl, hq124⟩
    replace h := onRes_fin h
    replace hq124 : f122 3 = Value.int .i64 x126 ∧ InR .i64 x126 ∧ St wd2 wd123 [] := hq124
    obtain ⟨hf127, hr128, hS129⟩ := hq124
    refine W.seq (W.region ?_)
    refine WL.val (Value.int .i64 x126) _ (op_move hf127) rfl ?_
    refine WL.val (Value.int .i64 x126) _ (op_assign rfl) rfl ?_
    refine WL.nil ?_
    refine W.ret ?_
    obtain rfl := Option.some.inj h
    show FinP _ _ _ _ _ _ _
    exact FinP.ret _ (res1 rfl rfl) ⟨rfl, hr128, (Ext.trans hE7 hS129.ext)⟩

theorem c_impl_Ring_labellings {w : World} {r_Table : (List (List (List Int)))} {v_r_Table : Value} {edges : Int} {vertices : Int} (r_r_Table : (Ty.sl (Ty.sl (Ty.sl (Ty.i .i64)))).rep w v_r_Table r_Table) (r_edges : InR .i64 edges) (r_vertices : InR .i64 vertices) {res : Int} (h : p_impl_Ring_labellings r_Table edges vertices  = some res) :
    Ret Try.prog 32 #[(Value.agg #[v_r_Table]), (Value.int .i64 edges), (Value.int .i64 vertices)] w (fun v w' => v = Value.int .i64 res ∧ InR .i64 res ∧ Ext w w') := by
  unfold p_impl_Ring_labellings at h
  have hS0 : St w w [] := St.start w
  refine Ret.start (fn := Try.f32) Try.func32 rfl 34 rfl rfl ?_
  refine W.seq (W.region ?_)
  refine WL.box hS0 rfl (cs := [v_r_Table]) rfl rfl ?_
  intro b1 wd2 hS3 he4 hx5
  replace hS3 : St w wd2 [bx b1 [v_r_Table]] := hS3
  have hx6 := St.boxAt hS3 0 rfl
  have hE7 : Ext w wd2 := hS3.ext
  have hS8 : St wd2 wd2 [] := St.start wd2
  refine WL.val (Value.int .i64 (0 : Int)) _ (op_assign rfl) rfl ?_
  refine WL.nil ?_
  refine W.seq (W.region ?_)
  refine WL.val (Value.int .i64 (1 : Int)) _ (op_assign rfl) rfl ?_
  refine WL.nil ?_
  refine W.seq (W.seq (W.region ?_))
  refine WL.val (Value.int .i64 edges) _ (op_move rfl) rfl ?_
  refine WL.val (Value.int .i64 (0 : Int)) _ (op_move rfl) rfl ?_
  refine WL.nil ?_
  show W _ _ _ _ _ _
  obtain ⟨res9, hres10, h⟩ := bs h
  refine W.blockLoop (fun fq wq => ∃ s, res9 = Res.fin s ∧ fq 2 = (Value.int .i64 vertices) ∧ fq 3 = (Value.pointer (some ⟨b1, 0, none⟩)) ∧ fq 7 = Value.int .i64 s ∧ InR .i64 s ∧ St wd2 wq []) ?_ ?_
  · refine W.forN (fun k (s : Int) fq wq => fq 2 = (Value.int .i64 vertices) ∧ fq 3 = (Value.pointer (some ⟨b1, 0, none⟩)) ∧ fq 7 = Value.int .i64 s ∧ InR .i64 s ∧ fq 10 = (Value.int .i64 edges) ∧ fq 11 = Value.int .i64 (k : Int) ∧ InR .i64 (k : Int) ∧ St wd2 wq []) hres10 ⟨rfl, rfl, rfl, (inL rfl), rfl, rfl, (inL rfl), hS8⟩ ?_ ?_
    · intro k11 x12 ct13 f14 wd15 hk16 hb17 hI18 hbrk19 hret20
      replace hI18 : f14 2 = (Value.int .i64 vertices) ∧ f14 3 = (Value.pointer (some ⟨b1, 0, none⟩)) ∧ f14 7 = Value.int .i64 x12 ∧ InR .i64 x12 ∧ f14 10 = (Value.int .i64 edges) ∧ f14 11 = Value.int .i64 (k11 : Int) ∧ InR .i64 (k11 : Int) ∧ St wd2 wd15 [] := hI18
      replace hb17 : p_impl_Ring_labellings_L1 r_Table k11 x12 = some ct13 := hb17
      unfold p_impl_Ring_labellings_L1 at hb17
      obtain ⟨hf21, hf22, hf23, hr24, hf25, hf26, hr27, hS28⟩ := hI18
      refine W.seq (W.region ?_)
      refine WL.val (Value.bool (decide ((k11 : Int) < edges))) _ (op_lss hf26 hf25) rfl ?_
      have hl29 : (k11 : Int) < edges := by omega
      refine WL.nil ?_
      refine W.seq ?_
      refine W.condT (decide ((k11 : Int) < edges)) rfl (decide_eq_true hl29) ?_
      refine W.skip ?_
      refine W.seq ?_
      refine W.block ?_
      refine W.seq (W.region ?_)
      refine WL.val (Value.int .i64 x12) _ (op_move hf23) rfl ?_
      refine WL.val (Value.pointer (some ⟨b1, 0, none⟩)) _ (op_fieldAddr fd_30_0 hf22) rfl ?_
      refine WL.val v_r_Table _ (op_load one_22 rfl (BoxAt.cell (BoxAt.lift hS28.ext hx6) rfl)) rfl ?_
      have hr31 := inR_len (Ty.lift _ (Ext.trans hE7 hS28.ext) r_r_Table)
      refine WL.val (Value.int .i64 ((r_Table).length : Int)) _ (op_lenL sl_22 (Ty.lift _ (Ext.trans hE7 hS28.ext) r_r_Table) rfl) rfl ?_
      refine WL.val (Value.int .i64 (w64 (x12 * ((r_Table).length : Int)))) _ (op_mul rfl rfl) rfl ?_
      refine WL.val (Value.int .i64 (w64 (x12 * ((r_Table).length : Int)))) _ (op_assign rfl) rfl ?_
      refine WL.nil ?_
      refine W.seq (W.region ?_)
      refine WL.val (Value.int .i64 (w64 (x12 * ((r_Table).length : Int)))) _ (op_move rfl) rfl ?_
      refine WL.val (Value.bool (decide ((w64 (x12 * ((r_Table).length : Int))) > (300000 : Int)))) _ (op_gtr rfl rfl) rfl ?_
      refine WL.nil ?_
      refine W.cond (decide ((w64 (x12 * ((r_Table).length : Int))) > (300000 : Int))) rfl (fun hc32 => ?_) (fun hc32 => ?_)
      · replace hb17 := ip hb17 hc32
        refine W.seq (W.region ?_)
        refine WL.val (Value.int .i64 (-1 : Int)) _ (op_assign rfl) rfl ?_
        refine WL.nil ?_
        refine W.ret ?_
        obtain rfl := Option.some.inj hb17
        obtain rfl := hret20 _ rfl
        replace h := onRes_ret h
        obtain rfl := Option.some.inj h
        show FinP _ _ _ _ _ _ _
        exact FinP.ret _ (res1 rfl rfl) ⟨rfl, (inR_i64.2 (show (-9223372036854775808 : Int) ≤ -1 ∧ (-1 : Int) ≤ 9223372036854775807 from by decide)), (Ext.trans hE7 hS28.ext)⟩
      · replace hb17 := inegb hb17 hc32
        refine W.skip ?_
        show W _ _ _ _ _ _
        refine W.region ?_
        refine WL.val (Value.int .i64 (w64 ((k11 : Int) + (1 : Int)))) _ (op_add hf26 rfl) rfl ?_
        refine WL.val (Value.int .i64 (w64 ((k11 : Int) + (1 : Int)))) _ (op_move rfl) rfl ?_
        refine WL.nil ?_
        obtain rfl := Option.some.inj hb17
        show ∃ s, _ = Ctl.next s ∧ _
        exact ⟨_, rfl, hf21, hf22, rfl, (inR_wrap _ _), hf25, (ctr_next hl29 r_edges), (ctr_rng hl29 r_edges), hS28⟩
    · intro x40 f35 wd36 hs37 hI38
      replace hI38 : f35 2 = (Value.int .i64 vertices) ∧ f35 3 = (Value.pointer (some ⟨b1, 0, none⟩)) ∧ f35 7 = Value.int .i64 x40 ∧ InR .i64 x40 ∧ f35 10 = (Value.int .i64 edges) ∧ f35 11 = Value.int .i64 (((edges).toNat : Nat) : Int) ∧ InR .i64 (((edges).toNat : Nat) : Int) ∧ St wd2 wd36 [] := hI38
      obtain ⟨hf41, hf42, hf43, hr44, hf45, hf46, hr47, hS48⟩ := hI38
      refine W.seq (W.region ?_)
      refine WL.val (Value.bool (decide ((((edges).toNat : Nat) : Int) < edges))) _ (op_lss hf46 hf45) rfl ?_
      have hl49 : ¬ (((edges).toNat : Nat) : Int) < edges := by omega
      refine WL.nil ?_
      refine W.seq ?_
      refine W.condF (decide ((((edges).toNat : Nat) : Int) < edges)) rfl (decide_eq_false hl49) ?_
      refine W.exit ?_
      show _ = _ ∧ _
      exact ⟨rfl, _, hs37, hf41, hf42, hf43, hr44, hS48⟩
  · rintro f50 wd51 ⟨x54, rfl, hq52⟩
    replace h := onRes_fin h
    replace hq52 : f50 2 = (Value.int .i64 vertices) ∧ f50 3 = (Value.pointer (some ⟨b1, 0, none⟩)) ∧ f50 7 = Value.int .i64 x54 ∧ InR .i64 x54 ∧ St wd2 wd51 [] := hq52
    obtain ⟨hf55, hf56, hf57, hr58, hS59⟩ := hq52
    refine W.seq (W.region ?_)
    refine WL.val (Value.int .i64 x54) _ (op_move hf57) rfl ?_
    refine WL.val (Value.agg #[v_r_Table]) _ (op_loadBox st_30 hf56 (BoxAt.lift hS59.ext hx6) rfl rfl) rfl ?_
    obtain ⟨x60, hx61, h⟩ := bs h
    refine WL.call _ (op_call fn_55 (args1 rfl)) (c_impl_Ring_greatest (Ty.lift _ (Ext.trans hE7 hS59.ext) r_r_Table) hx61) rfl ?_
    rintro _ wd63 ⟨rfl, hr62, he64⟩
    have hS66 := St.extend hS59 he64
    replace hS66 : St wd2 wd63 [] := hS66
    refine WL.val (Value.int .i64 x54) _ (op_assign rfl) rfl ?_
    refine WL.val (Value.int .i64 x60) _ (op_assign rfl) rfl ?_
    refine WL.nil ?_
    refine W.seq (W.seq (W.region ?_))
    refine WL.val (Value.int .i64 vertices) _ (op_move hf55) rfl ?_
    refine WL.val (Value.int .i64 (0 : Int)) _ (op_move rfl) rfl ?_
    refine WL.nil ?_
    show W _ _ _ _ _ _
    obtain ⟨res67, hres68, h⟩ := bs h
    refine W.blockLoop (fun fq wq => ∃ s, res67 = Res.fin s ∧ fq 7 = (Value.int .i64 x54) ∧ St wd2 wq []) ?_ ?_
    · refine W.forN (fun k (s : Int) fq wq => fq 7 = (Value.int .i64 x54) ∧ fq 8 = Value.int .i64 s ∧ InR .i64 s ∧ fq 9 = (Value.int .i64 x60) ∧ fq 24 = (Value.int .i64 vertices) ∧ fq 25 = Value.int .i64 (k : Int) ∧ InR .i64 (k : Int) ∧ St wd2 wq []) hres68 ⟨hf57, rfl, hr58, rfl, rfl, rfl, (inL rfl), hS66⟩ ?_ ?_
      · intro k69 x70 ct71 f72 wd73 hk74 hb75 hI76 hbrk77 hret78
        replace hI76 : f72 7 = (Value.int .i64 x54) ∧ f72 8 = Value.int .i64 x70 ∧ InR .i64 x70 ∧ f72 9 = (Value.int .i64 x60) ∧ f72 24 = (Value.int .i64 vertices) ∧ f72 25 = Value.int .i64 (k69 : Int) ∧ InR .i64 (k69 : Int) ∧ St wd2 wd73 [] := hI76
        replace hb75 : p_impl_Ring_labellings_L2 x60 k69 x70 = some ct71 := hb75
        unfold p_impl_Ring_labellings_L2 at hb75
        obtain ⟨hf79, hf80, hr81, hf82, hf83, hf84, hr85, hS86⟩ := hI76
        refine W.seq (W.region ?_)
        refine WL.val (Value.bool (decide ((k69 : Int) < vertices))) _ (op_lss hf84 hf83) rfl ?_
        have hl87 : (k69 : Int) < vertices := by omega
        refine WL.nil ?_
        refine W.seq ?_
        refine W.condT (decide ((k69 : Int) < vertices)) rfl (decide_eq_true hl87) ?_
        refine W.skip ?_
        refine W.seq ?_
        refine W.block ?_
        refine W.seq (W.region ?_)
        refine WL.val (Value.int .i64 x70) _ (op_move hf80) rfl ?_
        refine WL.val (Value.int .i64 x60) _ (op_move hf82) rfl ?_
        refine WL.val (Value.int .i64 (w64 (x70 * x60))) _ (op_mul rfl rfl) rfl ?_
        refine WL.val (Value.int .i64 (w64 (x70 * x60))) _ (op_assign rfl) rfl ?_
        refine WL.nil ?_
        refine W.seq (W.region ?_)
        refine WL.val (Value.int .i64 (w64 (x70 * x60))) _ (op_move rfl) rfl ?_
        refine WL.val (Value.bool (decide ((w64 (x70 * x60)) > (1000000000000000 : Int)))) _ (op_gtr rfl rfl) rfl ?_
        refine WL.nil ?_
        refine W.cond (decide ((w64 (x70 * x60)) > (1000000000000000 : Int))) rfl (fun hc89 => ?_) (fun hc89 => ?_)
        · replace hb75 := ip hb75 hc89
          refine W.seq (W.region ?_)
          refine WL.val (Value.int .i64 (-1 : Int)) _ (op_assign rfl) rfl ?_
          refine WL.nil ?_
          refine W.ret ?_
          obtain rfl := Option.some.inj hb75
          obtain rfl := hret78 _ rfl
          replace h := onRes_ret h
          obtain rfl := Option.some.inj h
          show FinP _ _ _ _ _ _ _
          exact FinP.ret _ (res1 rfl rfl) ⟨rfl, (inR_i64.2 (show (-9223372036854775808 : Int) ≤ -1 ∧ (-1 : Int) ≤ 9223372036854775807 from by decide)), (Ext.trans hE7 hS86.ext)⟩
        · replace hb75 := inegb hb75 hc89
          refine W.skip ?_
          show W _ _ _ _ _ _
          refine W.region ?_
          refine WL.val (Value.int .i64 (w64 ((k69 : Int) + (1 : Int)))) _ (op_add hf84 rfl) rfl ?_
          refine WL.val (Value.int .i64 (w64 ((k69 : Int) + (1 : Int)))) _ (op_move rfl) rfl ?_
          refine WL.nil ?_
          obtain rfl := Option.some.inj hb75
          show ∃ s, _ = Ctl.next s ∧ _
          exact ⟨_, rfl, hf79, rfl, (inR_wrap _ _), hf82, hf83, (ctr_next hl87 r_vertices), (ctr_rng hl87 r_vertices), hS86⟩
      · intro x97 f92 wd93 hs94 hI95
        replace hI95 : f92 7 = (Value.int .i64 x54) ∧ f92 8 = Value.int .i64 x97 ∧ InR .i64 x97 ∧ f92 9 = (Value.int .i64 x60) ∧ f92 24 = (Value.int .i64 vertices) ∧ f92 25 = Value.int .i64 (((vertices).toNat : Nat) : Int) ∧ InR .i64 (((vertices).toNat : Nat) : Int) ∧ St wd2 wd93 [] := hI95
        obtain ⟨hf98, hf99, hr100, hf101, hf102, hf103, hr104, hS105⟩ := hI95
        refine W.seq (W.region ?_)
        refine WL.val (Value.bool (decide ((((vertices).toNat : Nat) : Int) < vertices))) _ (op_lss hf103 hf102) rfl ?_
        have hl106 : ¬ (((vertices).toNat : Nat) : Int) < vertices := by omega
        refine WL.nil ?_
        refine W.seq ?_
        refine W.condF (decide ((((vertices).toNat : Nat) : Int) < vertices)) rfl (decide_eq_false hl106) ?_
        refine W.exit ?_
        show _ = _ ∧ _
        exact ⟨rfl, _, hs94, hf98, hS105⟩
    · rintro f107 wd108 ⟨x111, rfl, hq109⟩
      replace h := onRes_fin h
      replace hq109 : f107 7 = (Value.int .i64 x54) ∧ St wd2 wd108 [] := hq109
      obtain ⟨hf112, hS113⟩ := hq109
      refine W.seq (W.region ?_)
      refine WL.val (Value.int .i64 x54) _ (op_move hf112) rfl ?_
      refine WL.val (Value.int .i64 x54) _ (op_assign rfl) rfl ?_
      refine WL.nil ?_
      refine W.ret ?_
      obtain rfl := Option.some.inj h
      show FinP _ _ _ _ _ _ _
      exact FinP.ret _ (res1 rfl rfl) ⟨rfl, hr58, (Ext.trans hE7 hS113.ext)⟩

end Go.VG
