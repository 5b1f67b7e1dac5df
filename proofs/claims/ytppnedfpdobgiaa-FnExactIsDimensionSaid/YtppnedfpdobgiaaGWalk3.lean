/- The walks, part 3: each Go function returns what its plain twin returns. No condition beyond what each names. -/
import Derived.Test.YtppnedfpdobgiaaGWalk2
set_option linter.all false
namespace Go.VG
open Go.Proofs
attribute [local irreducible] W WL Sep FinP

theorem c_impl_Ring_bracketFault {w : World} {r_Table : (List (List (List Int)))} {v_r_Table : Value} (r_r_Table : (Ty.sl (Ty.sl (Ty.sl (Ty.i .i64)))).rep w v_r_Table r_Table) {res : (List Int)} (h : p_impl_Ring_bracketFault r_Table  = some res) :
    Ret Try.prog 86 #[(Value.agg #[v_r_Table])] w (fun v w' => ∃ (u0 : Value), v = u0 ∧ NilIff u0 res ∧ Ext w w' ∧ Sep w.heap.size w' [(Ty.sl (Ty.i .i64)).at u0 res]) := by
  unfold p_impl_Ring_bracketFault at h
  have hS0 : St w w [] := St.start w
  refine Ret.start (fn := Try.f86) Try.func86 rfl 97 rfl rfl ?_
  refine W.seq ?_
  refine W.region ?_
  refine WL.box hS0 rfl (cs := [v_r_Table]) rfl rfl ?_
  intro b1 wd2 hS3 he4 hx5
  replace hS3 : St w wd2 [bx b1 [v_r_Table]] := hS3
  have hx6 := St.boxAt hS3 0 rfl
  have hE7 : Ext w wd2 := hS3.ext
  have hS8 : St wd2 wd2 [] := St.start wd2
  refine WL.val (Value.slice none 0 0) _ (op_assign rfl) rfl ?_
  refine WL.nil ?_
  show W _ _ _ _ _ _
  refine W.seq ?_
  refine W.seq ?_
  refine W.region ?_
  refine WL.val (Value.pointer (some ⟨b1, 0, none⟩)) _ (op_fieldAddr fd_29_0 rfl) rfl ?_
  refine WL.val v_r_Table _ (op_load one_22 rfl (BoxAt.cell (BoxAt.lift hS8.ext hx6) rfl)) rfl ?_
  have hr9 := inR_len (Ty.lift _ (Ext.trans hE7 hS8.ext) r_r_Table)
  refine WL.val (Value.int .i64 ((r_Table).length : Int)) _ (op_lenL sl_22 (Ty.lift _ (Ext.trans hE7 hS8.ext) r_r_Table) rfl) rfl ?_
  refine WL.val (Value.int .i64 (0 : Int)) _ (op_move rfl) rfl ?_
  refine WL.nil ?_
  show W _ _ _ _ _ _
  obtain ⟨res10, hres11, h⟩ := bs h
  refine W.blockLoop (fun fq wq => ∃ s, res10 = Res.fin s ∧ St wd2 wq []) ?_ ?_
  · refine W.forN (fun k s fq wq => fq 1 = (Value.pointer (some ⟨b1, 0, none⟩)) ∧ fq 13 = v_r_Table ∧ fq 14 = (Value.int .i64 ((r_Table).length : Int)) ∧ fq 15 = Value.int .i64 (k : Int) ∧ InR .i64 (k : Int) ∧ St wd2 wq []) hres11 ⟨rfl, rfl, rfl, rfl, (inR_i64.2 (show (-9223372036854775808 : Int) ≤ 0 ∧ (0 : Int) ≤ 9223372036854775807 from by decide)), hS8⟩ ?_ ?_
    · intro k12 s748 ct13 f14 wd15 hk16 hb17 hI18 hbrk19 hret20
      obtain ⟨⟩ := s748
      replace hI18 : f14 1 = (Value.pointer (some ⟨b1, 0, none⟩)) ∧ f14 13 = v_r_Table ∧ f14 14 = (Value.int .i64 ((r_Table).length : Int)) ∧ f14 15 = Value.int .i64 (k12 : Int) ∧ InR .i64 (k12 : Int) ∧ St wd2 wd15 [] := hI18
      replace hb17 : p_impl_Ring_bracketFault_L1 r_Table k12  = some ct13 := hb17
      unfold p_impl_Ring_bracketFault_L1 at hb17
      obtain ⟨hf21, hf22, hf23, hf24, hr25, hS26⟩ := hI18
      refine W.seq ?_
      refine W.region ?_
      refine WL.val (Value.bool (decide ((k12 : Int) < ((r_Table).length : Int)))) _ (op_lss hf24 hf23) rfl ?_
      have hl27 : (k12 : Int) < ((r_Table).length : Int) := by omega
      refine WL.nil ?_
      show W _ _ _ _ _ _
      refine W.seq ?_
      refine W.condT (decide ((k12 : Int) < ((r_Table).length : Int))) rfl (decide_eq_true hl27) ?_
      refine W.skip ?_
      show W _ _ _ _ _ _
      refine W.seq ?_
      refine W.block ?_
      refine W.seq ?_
      refine W.region ?_
      refine WL.val (Value.int .i64 (k12 : Int)) _ (op_move hf24) rfl ?_
      obtain ⟨x29, hx32, hb17⟩ := bs hb17
      obtain ⟨ha30, hb31, hx32⟩ := idx_some hx32
      refine WL.val (Value.pointer (some (elA v_r_Table ((k12 : Int)).toNat))) _ (op_idx sl_22 (Ty.lift _ (Ext.trans hE7 hS26.ext) r_r_Table) hf22 hf24 ha30 hb31) rfl ?_
      obtain ⟨u33, hc34, hr35⟩ := repSl.el r_r_Table hx32
      refine WL.val u33 _ (op_load one_61 rfl (Ext.cell (Ext.trans hE7 hS26.ext) hc34)) rfl ?_
      refine WL.val (Value.int .i64 (k12 : Int)) _ (op_assign rfl) rfl ?_
      refine WL.val u33 _ (op_assign rfl) rfl ?_
      refine WL.nil ?_
      show W _ _ _ _ _ _
      refine W.seq ?_
      refine W.region ?_
      refine WL.val (Value.pointer (some ⟨b1, 0, none⟩)) _ (op_fieldAddr fd_29_0 hf21) rfl ?_
      refine WL.val v_r_Table _ (op_load one_22 rfl (BoxAt.cell (BoxAt.lift hS26.ext hx6) rfl)) rfl ?_
      have hr36 := inR_len (Ty.lift _ (Ext.trans hE7 hS26.ext) r_r_Table)
      refine WL.val (Value.int .i64 ((r_Table).length : Int)) _ (op_lenL sl_22 (Ty.lift _ (Ext.trans hE7 hS26.ext) r_r_Table) rfl) rfl ?_
      refine WL.val (Value.int .i64 (0 : Int)) _ (op_move rfl) rfl ?_
      refine WL.nil ?_
      show W _ _ _ _ _ _
      obtain ⟨res37, hres38, hb17⟩ := bs hb17
      refine W.blockLoop (fun fq wq => ∃ s, res37 = Res.fin s ∧ fq 1 = (Value.pointer (some ⟨b1, 0, none⟩)) ∧ fq 13 = v_r_Table ∧ fq 14 = (Value.int .i64 ((r_Table).length : Int)) ∧ fq 15 = (Value.int .i64 (k12 : Int)) ∧ St wd2 wq []) ?_ ?_
      · refine W.forN (fun k s fq wq => fq 1 = (Value.pointer (some ⟨b1, 0, none⟩)) ∧ fq 3 = (Value.int .i64 (k12 : Int)) ∧ fq 4 = u33 ∧ fq 13 = v_r_Table ∧ fq 14 = (Value.int .i64 ((r_Table).length : Int)) ∧ fq 15 = (Value.int .i64 (k12 : Int)) ∧ fq 21 = v_r_Table ∧ fq 22 = (Value.int .i64 ((r_Table).length : Int)) ∧ fq 23 = Value.int .i64 (k : Int) ∧ InR .i64 (k : Int) ∧ St wd2 wq []) hres38 ⟨hf21, rfl, rfl, hf22, hf23, hf24, rfl, rfl, rfl, (inR_i64.2 (show (-9223372036854775808 : Int) ≤ 0 ∧ (0 : Int) ≤ 9223372036854775807 from by decide)), hS26⟩ ?_ ?_
        · intro k39 s720 ct40 f41 wd42 hk43 hb44 hI45 hbrk46 hret47
          obtain ⟨⟩ := s720
          replace hI45 : f41 1 = (Value.pointer (some ⟨b1, 0, none⟩)) ∧ f41 3 = (Value.int .i64 (k12 : Int)) ∧ f41 4 = u33 ∧ f41 13 = v_r_Table ∧ f41 14 = (Value.int .i64 ((r_Table).length : Int)) ∧ f41 15 = (Value.int .i64 (k12 : Int)) ∧ f41 21 = v_r_Table ∧ f41 22 = (Value.int .i64 ((r_Table).length : Int)) ∧ f41 23 = Value.int .i64 (k39 : Int) ∧ InR .i64 (k39 : Int) ∧ St wd2 wd42 [] := hI45
          replace hb44 : p_impl_Ring_bracketFault_L2 r_Table x29 k12 k39  = some ct40 := hb44
          unfold p_impl_Ring_bracketFault_L2 at hb44
          obtain ⟨hf48, hf49, hf50, hf51, hf52, hf53, hf54, hf55, hf56, hr57, hS58⟩ := hI45
          refine W.seq ?_
          refine W.region ?_
          refine WL.val (Value.bool (decide ((k39 : Int) < ((r_Table).length : Int)))) _ (op_lss hf56 hf55) rfl ?_
          have hl59 : (k39 : Int) < ((r_Table).length : Int) := by omega
          refine WL.nil ?_
          show W _ _ _ _ _ _
          refine W.seq ?_
          refine W.condT (decide ((k39 : Int) < ((r_Table).length : Int))) rfl (decide_eq_true hl59) ?_
          refine W.skip ?_
          show W _ _ _ _ _ _
          refine W.seq ?_
          refine W.block ?_
          refine W.seq ?_
          refine W.region ?_
          refine WL.val (Value.int .i64 (k39 : Int)) _ (op_move hf56) rfl ?_
          obtain ⟨x61, hx64, hb44⟩ := bs hb44
          obtain ⟨ha62, hb63, hx64⟩ := idx_some hx64
          refine WL.val (Value.pointer (some (elA v_r_Table ((k39 : Int)).toNat))) _ (op_idx sl_22 (Ty.lift _ (Ext.trans hE7 hS58.ext) r_r_Table) hf54 hf56 ha62 hb63) rfl ?_
          obtain ⟨u65, hc66, hr67⟩ := repSl.el r_r_Table hx64
          refine WL.val u65 _ (op_load one_61 rfl (Ext.cell (Ext.trans hE7 hS58.ext) hc66)) rfl ?_
          refine WL.val (Value.int .i64 (k39 : Int)) _ (op_assign rfl) rfl ?_
          refine WL.val u65 _ (op_assign rfl) rfl ?_
          refine WL.nil ?_
          show W _ _ _ _ _ _
          refine W.seq ?_
          refine W.region ?_
          refine WL.val (Value.pointer (some ⟨b1, 0, none⟩)) _ (op_fieldAddr fd_29_0 hf48) rfl ?_
          refine WL.val v_r_Table _ (op_load one_22 rfl (BoxAt.cell (BoxAt.lift hS58.ext hx6) rfl)) rfl ?_
          have hr68 := inR_len (Ty.lift _ (Ext.trans hE7 hS58.ext) r_r_Table)
          refine WL.val (Value.int .i64 ((r_Table).length : Int)) _ (op_lenL sl_22 (Ty.lift _ (Ext.trans hE7 hS58.ext) r_r_Table) rfl) rfl ?_
          refine WL.val (Value.int .i64 (0 : Int)) _ (op_move rfl) rfl ?_
          refine WL.nil ?_
          show W _ _ _ _ _ _
          obtain ⟨res69, hres70, hb44⟩ := bs hb44
          refine W.blockLoop (fun fq wq => ∃ s, res69 = Res.fin s ∧ fq 1 = (Value.pointer (some ⟨b1, 0, none⟩)) ∧ fq 3 = (Value.int .i64 (k12 : Int)) ∧ fq 4 = u33 ∧ fq 13 = v_r_Table ∧ fq 14 = (Value.int .i64 ((r_Table).length : Int)) ∧ fq 15 = (Value.int .i64 (k12 : Int)) ∧ fq 21 = v_r_Table ∧ fq 22 = (Value.int .i64 ((r_Table).length : Int)) ∧ fq 23 = (Value.int .i64 (k39 : Int)) ∧ St wd2 wq []) ?_ ?_
          · refine W.forN (fun k s fq wq => fq 1 = (Value.pointer (some ⟨b1, 0, none⟩)) ∧ fq 3 = (Value.int .i64 (k12 : Int)) ∧ fq 4 = u33 ∧ fq 5 = (Value.int .i64 (k39 : Int)) ∧ fq 6 = u65 ∧ fq 13 = v_r_Table ∧ fq 14 = (Value.int .i64 ((r_Table).length : Int)) ∧ fq 15 = (Value.int .i64 (k12 : Int)) ∧ fq 21 = v_r_Table ∧ fq 22 = (Value.int .i64 ((r_Table).length : Int)) ∧ fq 23 = (Value.int .i64 (k39 : Int)) ∧ fq 30 = (Value.int .i64 ((r_Table).length : Int)) ∧ fq 31 = Value.int .i64 (k : Int) ∧ InR .i64 (k : Int) ∧ St wd2 wq []) hres70 ⟨hf48, hf49, hf50, rfl, rfl, hf51, hf52, hf53, hf54, hf55, hf56, rfl, rfl, (inR_i64.2 (show (-9223372036854775808 : Int) ≤ 0 ∧ (0 : Int) ≤ 9223372036854775807 from by decide)), hS58⟩ ?_ ?_
            · intro k71 s683 ct72 f73 wd74 hk75 hb76 hI77 hbrk78 hret79
              obtain ⟨⟩ := s683
              replace hI77 : f73 1 = (Value.pointer (some ⟨b1, 0, none⟩)) ∧ f73 3 = (Value.int .i64 (k12 : Int)) ∧ f73 4 = u33 ∧ f73 5 = (Value.int .i64 (k39 : Int)) ∧ f73 6 = u65 ∧ f73 13 = v_r_Table ∧ f73 14 = (Value.int .i64 ((r_Table).length : Int)) ∧ f73 15 = (Value.int .i64 (k12 : Int)) ∧ f73 21 = v_r_Table ∧ f73 22 = (Value.int .i64 ((r_Table).length : Int)) ∧ f73 23 = (Value.int .i64 (k39 : Int)) ∧ f73 30 = (Value.int .i64 ((r_Table).length : Int)) ∧ f73 31 = Value.int .i64 (k71 : Int) ∧ InR .i64 (k71 : Int) ∧ St wd2 wd74 [] := hI77
              replace hb76 : p_impl_Ring_bracketFault_L3 x29 k39 r_Table x61 k12 k71  = some ct72 := hb76
              unfold p_impl_Ring_bracketFault_L3 at hb76
              obtain ⟨hf80, hf81, hf82, hf83, hf84, hf85, hf86, hf87, hf88, hf89, hf90, hf91, hf92, hr93, hS94⟩ := hI77
              refine W.seq ?_
              refine W.region ?_
              refine WL.val (Value.bool (decide ((k71 : Int) < ((r_Table).length : Int)))) _ (op_lss hf92 hf91) rfl ?_
              have hl95 : (k71 : Int) < ((r_Table).length : Int) := by omega
              refine WL.nil ?_
              show W _ _ _ _ _ _
              refine W.seq ?_
              refine W.condT (decide ((k71 : Int) < ((r_Table).length : Int))) rfl (decide_eq_true hl95) ?_
              refine W.skip ?_
              show W _ _ _ _ _ _
              refine W.seq ?_
              refine W.block ?_
              refine W.seq ?_
              refine W.region ?_
              refine WL.val (Value.int .i64 (k71 : Int)) _ (op_move hf92) rfl ?_
              refine WL.val (Value.int .i64 (k71 : Int)) _ (op_assign rfl) rfl ?_
              refine WL.nil ?_
              show W _ _ _ _ _ _
              refine W.seq ?_
              refine W.region ?_
              refine WL.val (Value.pointer (some ⟨b1, 0, none⟩)) _ (op_fieldAddr fd_29_0 hf80) rfl ?_
              refine WL.val v_r_Table _ (op_load one_22 rfl (BoxAt.cell (BoxAt.lift hS94.ext hx6) rfl)) rfl ?_
              have hr97 := inR_len (Ty.lift _ (Ext.trans hE7 hS94.ext) r_r_Table)
              refine WL.val (Value.int .i64 ((r_Table).length : Int)) _ (op_lenL sl_22 (Ty.lift _ (Ext.trans hE7 hS94.ext) r_r_Table) rfl) rfl ?_
              refine WL.val (Value.int .i64 (0 : Int)) _ (op_move rfl) rfl ?_
              refine WL.nil ?_
              show W _ _ _ _ _ _
              obtain ⟨res98, hres99, hb76⟩ := bs hb76
              refine W.blockLoop (fun fq wq => ∃ s, res98 = Res.fin s ∧ fq 1 = (Value.pointer (some ⟨b1, 0, none⟩)) ∧ fq 3 = (Value.int .i64 (k12 : Int)) ∧ fq 4 = u33 ∧ fq 5 = (Value.int .i64 (k39 : Int)) ∧ fq 6 = u65 ∧ fq 13 = v_r_Table ∧ fq 14 = (Value.int .i64 ((r_Table).length : Int)) ∧ fq 15 = (Value.int .i64 (k12 : Int)) ∧ fq 21 = v_r_Table ∧ fq 22 = (Value.int .i64 ((r_Table).length : Int)) ∧ fq 23 = (Value.int .i64 (k39 : Int)) ∧ fq 30 = (Value.int .i64 ((r_Table).length : Int)) ∧ fq 31 = (Value.int .i64 (k71 : Int)) ∧ St wd2 wq []) ?_ ?_
              · refine W.forN (fun k s fq wq => fq 1 = (Value.pointer (some ⟨b1, 0, none⟩)) ∧ fq 3 = (Value.int .i64 (k12 : Int)) ∧ fq 4 = u33 ∧ fq 5 = (Value.int .i64 (k39 : Int)) ∧ fq 6 = u65 ∧ fq 7 = (Value.int .i64 (k71 : Int)) ∧ fq 13 = v_r_Table ∧ fq 14 = (Value.int .i64 ((r_Table).length : Int)) ∧ fq 15 = (Value.int .i64 (k12 : Int)) ∧ fq 21 = v_r_Table ∧ fq 22 = (Value.int .i64 ((r_Table).length : Int)) ∧ fq 23 = (Value.int .i64 (k39 : Int)) ∧ fq 30 = (Value.int .i64 ((r_Table).length : Int)) ∧ fq 31 = (Value.int .i64 (k71 : Int)) ∧ fq 36 = (Value.int .i64 ((r_Table).length : Int)) ∧ fq 37 = Value.int .i64 (k : Int) ∧ InR .i64 (k : Int) ∧ St wd2 wq []) hres99 ⟨hf80, hf81, hf82, hf83, hf84, rfl, hf85, hf86, hf87, hf88, hf89, hf90, hf91, hf92, rfl, rfl, (inR_i64.2 (show (-9223372036854775808 : Int) ≤ 0 ∧ (0 : Int) ≤ 9223372036854775807 from by decide)), hS94⟩ ?_ ?_
                · intro k100 s639 ct101 f102 wd103 hk104 hb105 hI106 hbrk107 hret108
                  obtain ⟨⟩ := s639
                  replace hI106 : f102 1 = (Value.pointer (some ⟨b1, 0, none⟩)) ∧ f102 3 = (Value.int .i64 (k12 : Int)) ∧ f102 4 = u33 ∧ f102 5 = (Value.int .i64 (k39 : Int)) ∧ f102 6 = u65 ∧ f102 7 = (Value.int .i64 (k71 : Int)) ∧ f102 13 = v_r_Table ∧ f102 14 = (Value.int .i64 ((r_Table).length : Int)) ∧ f102 15 = (Value.int .i64 (k12 : Int)) ∧ f102 21 = v_r_Table ∧ f102 22 = (Value.int .i64 ((r_Table).length : Int)) ∧ f102 23 = (Value.int .i64 (k39 : Int)) ∧ f102 30 = (Value.int .i64 ((r_Table).length : Int)) ∧ f102 31 = (Value.int .i64 (k71 : Int)) ∧ f102 36 = (Value.int .i64 ((r_Table).length : Int)) ∧ f102 37 = Value.int .i64 (k100 : Int) ∧ InR .i64 (k100 : Int) ∧ St wd2 wd103 [] := hI106
                  replace hb105 : p_impl_Ring_bracketFault_L4 x29 k39 r_Table k71 x61 k12 k100  = some ct101 := hb105
                  unfold p_impl_Ring_bracketFault_L4 at hb105
                  obtain ⟨hf109, hf110, hf111, hf112, hf113, hf114, hf115, hf116, hf117, hf118, hf119, hf120, hf121, hf122, hf123, hf124, hr125, hS126⟩ := hI106
                  refine W.seq ?_
                  refine W.region ?_
                  refine WL.val (Value.bool (decide ((k100 : Int) < ((r_Table).length : Int)))) _ (op_lss hf124 hf123) rfl ?_
                  have hl127 : (k100 : Int) < ((r_Table).length : Int) := by omega
                  refine WL.nil ?_
                  show W _ _ _ _ _ _
                  refine W.seq ?_
                  refine W.condT (decide ((k100 : Int) < ((r_Table).length : Int))) rfl (decide_eq_true hl127) ?_
                  refine W.skip ?_
                  show W _ _ _ _ _ _
                  refine W.seq ?_
                  refine W.block ?_
                  refine W.seq ?_
                  refine W.region ?_
                  refine WL.val (Value.int .i64 (k100 : Int)) _ (op_move hf124) rfl ?_
                  refine WL.val (Value.int .i64 (k100 : Int)) _ (op_assign rfl) rfl ?_
                  refine WL.nil ?_
                  show W _ _ _ _ _ _
                  refine W.seq ?_
                  refine W.region ?_
                  refine WL.val (Value.int .i64 (0 : Int)) _ (op_assign rfl) rfl ?_
                  refine WL.val (Value.int .i64 (0 : Int)) _ (op_assign rfl) rfl ?_
                  refine WL.nil ?_
                  show W _ _ _ _ _ _
                  refine W.seq ?_
                  refine W.seq ?_
                  refine W.region ?_
                  refine WL.val (Value.pointer (some ⟨b1, 0, none⟩)) _ (op_fieldAddr fd_29_0 hf109) rfl ?_
                  refine WL.val v_r_Table _ (op_load one_22 rfl (BoxAt.cell (BoxAt.lift hS126.ext hx6) rfl)) rfl ?_
                  have hr129 := inR_len (Ty.lift _ (Ext.trans hE7 hS126.ext) r_r_Table)
                  refine WL.val (Value.int .i64 ((r_Table).length : Int)) _ (op_lenL sl_22 (Ty.lift _ (Ext.trans hE7 hS126.ext) r_r_Table) rfl) rfl ?_
                  refine WL.val (Value.int .i64 (0 : Int)) _ (op_move rfl) rfl ?_
                  refine WL.nil ?_
                  show W _ _ _ _ _ _
                  obtain ⟨res130, hres131, hb105⟩ := bs hb105
                  refine W.blockLoop (fun fq wq => ∃ s, res130 = Res.fin s ∧ fq 1 = (Value.pointer (some ⟨b1, 0, none⟩)) ∧ fq 3 = (Value.int .i64 (k12 : Int)) ∧ fq 4 = u33 ∧ fq 5 = (Value.int .i64 (k39 : Int)) ∧ fq 6 = u65 ∧ fq 7 = (Value.int .i64 (k71 : Int)) ∧ fq 8 = (Value.int .i64 (k100 : Int)) ∧ fq 9 = Value.int .i64 s.1 ∧ InR .i64 s.1 ∧ fq 10 = Value.int .i64 s.2 ∧ InR .i64 s.2 ∧ fq 13 = v_r_Table ∧ fq 14 = (Value.int .i64 ((r_Table).length : Int)) ∧ fq 15 = (Value.int .i64 (k12 : Int)) ∧ fq 21 = v_r_Table ∧ fq 22 = (Value.int .i64 ((r_Table).length : Int)) ∧ fq 23 = (Value.int .i64 (k39 : Int)) ∧ fq 30 = (Value.int .i64 ((r_Table).length : Int)) ∧ fq 31 = (Value.int .i64 (k71 : Int)) ∧ fq 36 = (Value.int .i64 ((r_Table).length : Int)) ∧ fq 37 = (Value.int .i64 (k100 : Int)) ∧ St wd2 wq []) ?_ ?_
                  · refine W.forN (fun k s fq wq => fq 1 = (Value.pointer (some ⟨b1, 0, none⟩)) ∧ fq 3 = (Value.int .i64 (k12 : Int)) ∧ fq 4 = u33 ∧ fq 5 = (Value.int .i64 (k39 : Int)) ∧ fq 6 = u65 ∧ fq 7 = (Value.int .i64 (k71 : Int)) ∧ fq 8 = (Value.int .i64 (k100 : Int)) ∧ fq 9 = Value.int .i64 s.1 ∧ InR .i64 s.1 ∧ fq 10 = Value.int .i64 s.2 ∧ InR .i64 s.2 ∧ fq 13 = v_r_Table ∧ fq 14 = (Value.int .i64 ((r_Table).length : Int)) ∧ fq 15 = (Value.int .i64 (k12 : Int)) ∧ fq 21 = v_r_Table ∧ fq 22 = (Value.int .i64 ((r_Table).length : Int)) ∧ fq 23 = (Value.int .i64 (k39 : Int)) ∧ fq 30 = (Value.int .i64 ((r_Table).length : Int)) ∧ fq 31 = (Value.int .i64 (k71 : Int)) ∧ fq 36 = (Value.int .i64 ((r_Table).length : Int)) ∧ fq 37 = (Value.int .i64 (k100 : Int)) ∧ fq 42 = (Value.int .i64 ((r_Table).length : Int)) ∧ fq 43 = Value.int .i64 (k : Int) ∧ InR .i64 (k : Int) ∧ St wd2 wq []) hres131 ⟨hf109, hf110, hf111, hf112, hf113, hf114, rfl, rfl, (inR_i64.2 (show (-9223372036854775808 : Int) ≤ 0 ∧ (0 : Int) ≤ 9223372036854775807 from by decide)), rfl, (inR_i64.2 (show (-9223372036854775808 : Int) ≤ 0 ∧ (0 : Int) ≤ 9223372036854775807 from by decide)), hf115, hf116, hf117, hf118, hf119, hf120, hf121, hf122, hf123, hf124, rfl, rfl, (inR_i64.2 (show (-9223372036854775808 : Int) ≤ 0 ∧ (0 : Int) ≤ 9223372036854775807 from by decide)), hS126⟩ ?_ ?_
                    · intro k132 s570 ct135 f136 wd137 hk138 hb139 hI140 hbrk141 hret142
                      obtain ⟨x133, x134⟩ := s570
                      replace hI140 : f136 1 = (Value.pointer (some ⟨b1, 0, none⟩)) ∧ f136 3 = (Value.int .i64 (k12 : Int)) ∧ f136 4 = u33 ∧ f136 5 = (Value.int .i64 (k39 : Int)) ∧ f136 6 = u65 ∧ f136 7 = (Value.int .i64 (k71 : Int)) ∧ f136 8 = (Value.int .i64 (k100 : Int)) ∧ f136 9 = Value.int .i64 x133 ∧ InR .i64 x133 ∧ f136 10 = Value.int .i64 x134 ∧ InR .i64 x134 ∧ f136 13 = v_r_Table ∧ f136 14 = (Value.int .i64 ((r_Table).length : Int)) ∧ f136 15 = (Value.int .i64 (k12 : Int)) ∧ f136 21 = v_r_Table ∧ f136 22 = (Value.int .i64 ((r_Table).length : Int)) ∧ f136 23 = (Value.int .i64 (k39 : Int)) ∧ f136 30 = (Value.int .i64 ((r_Table).length : Int)) ∧ f136 31 = (Value.int .i64 (k71 : Int)) ∧ f136 36 = (Value.int .i64 ((r_Table).length : Int)) ∧ f136 37 = (Value.int .i64 (k100 : Int)) ∧ f136 42 = (Value.int .i64 ((r_Table).length : Int)) ∧ f136 43 = Value.int .i64 (k132 : Int) ∧ InR .i64 (k132 : Int) ∧ St wd2 wd137 [] := hI140
                      replace hb139 : p_impl_Ring_bracketFault_L5 x29 k39 r_Table k71 k100 x61 k132 x133 x134 = some ct135 := hb139
                      unfold p_impl_Ring_bracketFault_L5 at hb139
                      obtain ⟨hf143, hf144, hf145, hf146, hf147, hf148, hf149, hf150, hr151, hf152, hr153, hf154, hf155, hf156, hf157, hf158, hf159, hf160, hf161, hf162, hf163, hf164, hf165, hr166, hS167⟩ := hI140
                      refine W.seq ?_
                      refine W.region ?_
                      refine WL.val (Value.bool (decide ((k132 : Int) < ((r_Table).length : Int)))) _ (op_lss hf165 hf164) rfl ?_
                      have hl168 : (k132 : Int) < ((r_Table).length : Int) := by omega
                      refine WL.nil ?_
                      show W _ _ _ _ _ _
                      refine W.seq ?_
                      refine W.condT (decide ((k132 : Int) < ((r_Table).length : Int))) rfl (decide_eq_true hl168) ?_
                      refine W.skip ?_
                      show W _ _ _ _ _ _
                      refine W.seq ?_
                      refine W.block ?_
                      refine W.seq ?_
                      refine W.region ?_
                      refine WL.val (Value.int .i64 (k132 : Int)) _ (op_move hf165) rfl ?_
                      refine WL.val (Value.int .i64 (k132 : Int)) _ (op_assign rfl) rfl ?_
                      refine WL.nil ?_
                      show W _ _ _ _ _ _
                      refine W.seq ?_
                      obtain ⟨x200, hx203, hb139⟩ := bs hb139
                      obtain ⟨ha201, hb202, hx203⟩ := idx_some hx203
                      obtain ⟨u211, hc212, hr213⟩ := repSl.el hr35 hx203
                      obtain ⟨x230, hx233, hb139⟩ := bs hb139
                      obtain ⟨ha231, hb232, hx233⟩ := idx_some hx233
                      obtain ⟨u241, hc242, hr243⟩ := repSl.el hr213 hx233
                      obtain ⟨rfl, hr243⟩ := hr243
                      obtain ⟨x274, hx277, hb139⟩ := bs hb139
                      obtain ⟨ha275, hb276, hx277⟩ := idx_some hx277
                      obtain ⟨u285, hc286, hr287⟩ := repSl.el r_r_Table hx277
                      obtain ⟨x304, hx307, hb139⟩ := bs hb139
                      obtain ⟨ha305, hb306, hx307⟩ := idx_some hx307
                      obtain ⟨u315, hc316, hr317⟩ := repSl.el hr287 hx307
                      obtain ⟨x334, hx337, hb139⟩ := bs hb139
                      obtain ⟨ha335, hb336, hx337⟩ := idx_some hx337
                      obtain ⟨u345, hc346, hr347⟩ := repSl.el hr317 hx337
                      obtain ⟨rfl, hr347⟩ := hr347
                      refine W.draw mixo 20 [fun v _ => v = (Value.int .i64 x133) ∧ InR .i64 x133, fun v _ => v = u33, fun v _ => v = (Value.int .i64 (k39 : Int)) ∧ InR .i64 (k39 : Int), fun v _ => v = (Value.pointer (some (elA u33 ((k39 : Int)).toNat))), fun v _ => v = u211, fun v _ => v = (Value.int .i64 (k132 : Int)) ∧ InR .i64 (k132 : Int), fun v _ => v = (Value.pointer (some (elA u211 ((k132 : Int)).toNat))), fun v _ => v = (Value.int .i64 x230) ∧ InR .i64 x230, fun v _ => v = (Value.pointer (some ⟨b1, 0, none⟩)), fun v _ => v = v_r_Table, fun v _ => v = (Value.int .i64 (k132 : Int)) ∧ InR .i64 (k132 : Int), fun v _ => v = (Value.pointer (some (elA v_r_Table ((k132 : Int)).toNat))), fun v _ => v = u285, fun v _ => v = (Value.int .i64 (k71 : Int)) ∧ InR .i64 (k71 : Int), fun v _ => v = (Value.pointer (some (elA u285 ((k71 : Int)).toNat))), fun v _ => v = u315, fun v _ => v = (Value.int .i64 (k100 : Int)) ∧ InR .i64 (k100 : Int), fun v _ => v = (Value.pointer (some (elA u315 ((k100 : Int)).toNat))), fun v _ => v = (Value.int .i64 x334) ∧ InR .i64 x334, fun v _ => v = (Value.int .i64 (w64 (x230 * x334))) ∧ InR .i64 (w64 (x230 * x334))] (by kernel_rfl) (by kernel_rfl) (stabL ⟨(fun _ _ _ _ h => h), (fun _ _ _ _ h => h), (fun _ _ _ _ h => h), (fun _ _ _ _ h => h), (fun _ _ _ _ h => h), (fun _ _ _ _ h => h), (fun _ _ _ _ h => h), (fun _ _ _ _ h => h), (fun _ _ _ _ h => h), (fun _ _ _ _ h => h), (fun _ _ _ _ h => h), (fun _ _ _ _ h => h), (fun _ _ _ _ h => h), (fun _ _ _ _ h => h), (fun _ _ _ _ h => h), (fun _ _ _ _ h => h), (fun _ _ _ _ h => h), (fun _ _ _ _ h => h), (fun _ _ _ _ h => h), (fun _ _ _ _ h => h), trivial⟩) ⟨?_, ?_, ?_, ?_, ?_, ?_, ?_, ?_, ?_, ?_, ?_, ?_, ?_, ?_, ?_, ?_, ?_, ?_, ?_, ?_, trivial⟩ ?_
                      · intro f170 wd171 he172 hout173 hphi174
                        have hS175 : St wd2 wd171 [] := St.extend hS167 he172
                        have e176 : f170 9 = (Value.int .i64 x133) := (hout173 9 rfl).trans hf150
                        exact OpY.val (Value.int .i64 x133) wd171 rfl (op_move e176) (Ext.refl _) ⟨rfl, hr151⟩
                      · intro f177 wd178 he179 hout180 hphi181
                        have hS182 : St wd2 wd178 [] := St.extend hS167 he179
                        have e183 : f177 4 = u33 := (hout180 4 rfl).trans hf145
                        exact OpY.val u33 wd178 rfl (op_move e183) (Ext.refl _) rfl
                      · intro f184 wd185 he186 hout187 hphi188
                        have hS189 : St wd2 wd185 [] := St.extend hS167 he186
                        have e190 : f184 5 = (Value.int .i64 (k39 : Int)) := (hout187 5 rfl).trans hf146
                        exact OpY.val (Value.int .i64 (k39 : Int)) wd185 rfl (op_move e190) (Ext.refl _) ⟨rfl, hr57⟩
                      · intro f191 wd192 he193 hout194 hphi195
                        have hS196 : St wd2 wd192 [] := St.extend hS167 he193
                        have e197 : f191 47 = u33 := hphi195 1 47 _ rfl rfl rfl
                        obtain ⟨e198, hr199⟩ : f191 48 = (Value.int .i64 (k39 : Int)) ∧ InR .i64 (k39 : Int) := hphi195 2 48 _ rfl rfl rfl
                        exact OpY.val (Value.pointer (some (elA u33 ((k39 : Int)).toNat))) wd192 rfl (op_idx sl_61 (Ty.lift _ (Ext.trans hE7 hS196.ext) hr35) e197 e198 ha201 hb202) (Ext.refl _) rfl
                      · intro f204 wd205 he206 hout207 hphi208
                        have hS209 : St wd2 wd205 [] := St.extend hS167 he206
                        have e210 : f204 49 = (Value.pointer (some (elA u33 ((k39 : Int)).toNat))) := hphi208 3 49 _ rfl rfl rfl
                        exact OpY.val u211 wd205 rfl (op_load one_25 e210 (Ext.cell (Ext.trans hE7 hS209.ext) hc212)) (Ext.refl _) rfl
                      · intro f214 wd215 he216 hout217 hphi218
                        have hS219 : St wd2 wd215 [] := St.extend hS167 he216
                        have e220 : f214 11 = (Value.int .i64 (k132 : Int)) := (hout217 11 rfl).trans rfl
                        exact OpY.val (Value.int .i64 (k132 : Int)) wd215 rfl (op_move e220) (Ext.refl _) ⟨rfl, hr166⟩
                      · intro f221 wd222 he223 hout224 hphi225
                        have hS226 : St wd2 wd222 [] := St.extend hS167 he223
                        have e227 : f221 50 = u211 := hphi225 4 50 _ rfl rfl rfl
                        obtain ⟨e228, hr229⟩ : f221 51 = (Value.int .i64 (k132 : Int)) ∧ InR .i64 (k132 : Int) := hphi225 5 51 _ rfl rfl rfl
                        exact OpY.val (Value.pointer (some (elA u211 ((k132 : Int)).toNat))) wd222 rfl (op_idx sl_25 (Ty.lift _ (Ext.trans hE7 hS226.ext) hr213) e227 e228 ha231 hb232) (Ext.refl _) rfl
                      · intro f234 wd235 he236 hout237 hphi238
                        have hS239 : St wd2 wd235 [] := St.extend hS167 he236
                        have e240 : f234 52 = (Value.pointer (some (elA u211 ((k132 : Int)).toNat))) := hphi238 6 52 _ rfl rfl rfl
                        exact OpY.val (Value.int .i64 x230) wd235 rfl (op_load one_2 e240 (Ext.cell (Ext.trans hE7 hS239.ext) hc242)) (Ext.refl _) ⟨rfl, hr243⟩
                      · intro f244 wd245 he246 hout247 hphi248
                        have hS249 : St wd2 wd245 [] := St.extend hS167 he246
                        have e250 : f244 1 = (Value.pointer (some ⟨b1, 0, none⟩)) := (hout247 1 rfl).trans hf143
                        exact OpY.val (Value.pointer (some ⟨b1, 0, none⟩)) wd245 rfl (op_fieldAddr fd_29_0 e250) (Ext.refl _) rfl
                      · intro f251 wd252 he253 hout254 hphi255
                        have hS256 : St wd2 wd252 [] := St.extend hS167 he253
                        have e257 : f251 54 = (Value.pointer (some ⟨b1, 0, none⟩)) := hphi255 8 54 _ rfl rfl rfl
                        exact OpY.val v_r_Table wd252 rfl (op_load one_22 e257 (BoxAt.cell (BoxAt.lift hS256.ext hx6) rfl)) (Ext.refl _) rfl
                      · intro f258 wd259 he260 hout261 hphi262
                        have hS263 : St wd2 wd259 [] := St.extend hS167 he260
                        have e264 : f258 11 = (Value.int .i64 (k132 : Int)) := (hout261 11 rfl).trans rfl
                        exact OpY.val (Value.int .i64 (k132 : Int)) wd259 rfl (op_move e264) (Ext.refl _) ⟨rfl, hr166⟩
                      · intro f265 wd266 he267 hout268 hphi269
                        have hS270 : St wd2 wd266 [] := St.extend hS167 he267
                        have e271 : f265 55 = v_r_Table := hphi269 9 55 _ rfl rfl rfl
                        obtain ⟨e272, hr273⟩ : f265 56 = (Value.int .i64 (k132 : Int)) ∧ InR .i64 (k132 : Int) := hphi269 10 56 _ rfl rfl rfl
                        exact OpY.val (Value.pointer (some (elA v_r_Table ((k132 : Int)).toNat))) wd266 rfl (op_idx sl_22 (Ty.lift _ (Ext.trans hE7 hS270.ext) r_r_Table) e271 e272 ha275 hb276) (Ext.refl _) rfl
                      · intro f278 wd279 he280 hout281 hphi282
                        have hS283 : St wd2 wd279 [] := St.extend hS167 he280
                        have e284 : f278 57 = (Value.pointer (some (elA v_r_Table ((k132 : Int)).toNat))) := hphi282 11 57 _ rfl rfl rfl
                        exact OpY.val u285 wd279 rfl (op_load one_61 e284 (Ext.cell (Ext.trans hE7 hS283.ext) hc286)) (Ext.refl _) rfl
                      · intro f288 wd289 he290 hout291 hphi292
                        have hS293 : St wd2 wd289 [] := St.extend hS167 he290
                        have e294 : f288 7 = (Value.int .i64 (k71 : Int)) := (hout291 7 rfl).trans hf148
                        exact OpY.val (Value.int .i64 (k71 : Int)) wd289 rfl (op_move e294) (Ext.refl _) ⟨rfl, hr93⟩
                      · intro f295 wd296 he297 hout298 hphi299
                        have hS300 : St wd2 wd296 [] := St.extend hS167 he297
                        have e301 : f295 58 = u285 := hphi299 12 58 _ rfl rfl rfl
                        obtain ⟨e302, hr303⟩ : f295 59 = (Value.int .i64 (k71 : Int)) ∧ InR .i64 (k71 : Int) := hphi299 13 59 _ rfl rfl rfl
                        exact OpY.val (Value.pointer (some (elA u285 ((k71 : Int)).toNat))) wd296 rfl (op_idx sl_61 (Ty.lift _ (Ext.trans hE7 hS300.ext) hr287) e301 e302 ha305 hb306) (Ext.refl _) rfl
                      · intro f308 wd309 he310 hout311 hphi312
                        have hS313 : St wd2 wd309 [] := St.extend hS167 he310
                        have e314 : f308 60 = (Value.pointer (some (elA u285 ((k71 : Int)).toNat))) := hphi312 14 60 _ rfl rfl rfl
                        exact OpY.val u315 wd309 rfl (op_load one_25 e314 (Ext.cell (Ext.trans hE7 hS313.ext) hc316)) (Ext.refl _) rfl
                      · intro f318 wd319 he320 hout321 hphi322
                        have hS323 : St wd2 wd319 [] := St.extend hS167 he320
                        have e324 : f318 8 = (Value.int .i64 (k100 : Int)) := (hout321 8 rfl).trans hf149
                        exact OpY.val (Value.int .i64 (k100 : Int)) wd319 rfl (op_move e324) (Ext.refl _) ⟨rfl, hr125⟩
                      · intro f325 wd326 he327 hout328 hphi329
                        have hS330 : St wd2 wd326 [] := St.extend hS167 he327
                        have e331 : f325 61 = u315 := hphi329 15 61 _ rfl rfl rfl
                        obtain ⟨e332, hr333⟩ : f325 62 = (Value.int .i64 (k100 : Int)) ∧ InR .i64 (k100 : Int) := hphi329 16 62 _ rfl rfl rfl
                        exact OpY.val (Value.pointer (some (elA u315 ((k100 : Int)).toNat))) wd326 rfl (op_idx sl_25 (Ty.lift _ (Ext.trans hE7 hS330.ext) hr317) e331 e332 ha335 hb336) (Ext.refl _) rfl
                      · intro f338 wd339 he340 hout341 hphi342
                        have hS343 : St wd2 wd339 [] := St.extend hS167 he340
                        have e344 : f338 63 = (Value.pointer (some (elA u315 ((k100 : Int)).toNat))) := hphi342 17 63 _ rfl rfl rfl
                        exact OpY.val (Value.int .i64 x334) wd339 rfl (op_load one_2 e344 (Ext.cell (Ext.trans hE7 hS343.ext) hc346)) (Ext.refl _) ⟨rfl, hr347⟩
                      · intro f348 wd349 he350 hout351 hphi352
                        have hS353 : St wd2 wd349 [] := St.extend hS167 he350
                        obtain ⟨e354, hr355⟩ : f348 53 = (Value.int .i64 x230) ∧ InR .i64 x230 := hphi352 7 53 _ rfl rfl rfl
                        obtain ⟨e356, hr357⟩ : f348 64 = (Value.int .i64 x334) ∧ InR .i64 x334 := hphi352 18 64 _ rfl rfl rfl
                        exact OpY.val (Value.int .i64 (w64 (x230 * x334))) wd349 rfl (op_mul e354 e356) (Ext.refl _) ⟨rfl, (inR_wrap _ _)⟩
                      · intro f358 wd359 he360 hout361 hphi362
                        show WL _ _ _ _ _ _ _
                        have hS363 : St wd2 wd359 [] := St.extend hS167 he360
                        obtain ⟨e364, hr365⟩ : f358 46 = (Value.int .i64 x133) ∧ InR .i64 x133 := hphi362 0 46 _ (by decide) rfl rfl
                        obtain ⟨e366, hr367⟩ : f358 65 = (Value.int .i64 (w64 (x230 * x334))) ∧ InR .i64 (w64 (x230 * x334)) := hphi362 19 65 _ (by decide) rfl rfl
                        have e368 : f358 1 = (Value.pointer (some ⟨b1, 0, none⟩)) := (hout361 1 rfl).trans hf143
                        have e369 : f358 3 = (Value.int .i64 (k12 : Int)) := (hout361 3 rfl).trans hf144
                        have e370 : f358 4 = u33 := (hout361 4 rfl).trans hf145
                        have e371 : f358 5 = (Value.int .i64 (k39 : Int)) := (hout361 5 rfl).trans hf146
                        have e372 : f358 6 = u65 := (hout361 6 rfl).trans hf147
                        have e373 : f358 7 = (Value.int .i64 (k71 : Int)) := (hout361 7 rfl).trans hf148
                        have e374 : f358 8 = (Value.int .i64 (k100 : Int)) := (hout361 8 rfl).trans hf149
                        have e375 : f358 10 = (Value.int .i64 x134) := (hout361 10 rfl).trans hf152
                        have e376 : f358 11 = (Value.int .i64 (k132 : Int)) := (hout361 11 rfl).trans rfl
                        have e377 : f358 13 = v_r_Table := (hout361 13 rfl).trans hf154
                        have e378 : f358 14 = (Value.int .i64 ((r_Table).length : Int)) := (hout361 14 rfl).trans hf155
                        have e379 : f358 15 = (Value.int .i64 (k12 : Int)) := (hout361 15 rfl).trans hf156
                        have e380 : f358 21 = v_r_Table := (hout361 21 rfl).trans hf157
                        have e381 : f358 22 = (Value.int .i64 ((r_Table).length : Int)) := (hout361 22 rfl).trans hf158
                        have e382 : f358 23 = (Value.int .i64 (k39 : Int)) := (hout361 23 rfl).trans hf159
                        have e383 : f358 30 = (Value.int .i64 ((r_Table).length : Int)) := (hout361 30 rfl).trans hf160
                        have e384 : f358 31 = (Value.int .i64 (k71 : Int)) := (hout361 31 rfl).trans hf161
                        have e385 : f358 36 = (Value.int .i64 ((r_Table).length : Int)) := (hout361 36 rfl).trans hf162
                        have e386 : f358 37 = (Value.int .i64 (k100 : Int)) := (hout361 37 rfl).trans hf163
                        have e387 : f358 42 = (Value.int .i64 ((r_Table).length : Int)) := (hout361 42 rfl).trans hf164
                        have e388 : f358 43 = (Value.int .i64 (k132 : Int)) := (hout361 43 rfl).trans hf165
                        refine WL.val (Value.int .i64 (w64 (x133 + (w64 (x230 * x334))))) _ (op_add e364 e366) rfl ?_
                        refine WL.val (Value.int .i64 (w64 (x133 + (w64 (x230 * x334))))) _ (op_assign rfl) rfl ?_
                        refine WL.nil ?_
                        show W _ _ _ _ _ _
                        obtain ⟨x419, hx422, hb139⟩ := bs hb139
                        obtain ⟨ha420, hb421, hx422⟩ := idx_some hx422
                        obtain ⟨u430, hc431, hr432⟩ := repSl.el hr67 hx422
                        obtain ⟨x449, hx452, hb139⟩ := bs hb139
                        obtain ⟨ha450, hb451, hx452⟩ := idx_some hx452
                        obtain ⟨u460, hc461, hr462⟩ := repSl.el hr432 hx452
                        obtain ⟨rfl, hr462⟩ := hr462
                        obtain ⟨x486, hx489, hb139⟩ := bs hb139
                        obtain ⟨ha487, hb488, hx489⟩ := idx_some hx489
                        obtain ⟨u497, hc498, hr499⟩ := repSl.el hr35 hx489
                        obtain ⟨x516, hx519, hb139⟩ := bs hb139
                        obtain ⟨ha517, hb518, hx519⟩ := idx_some hx519
                        obtain ⟨u527, hc528, hr529⟩ := repSl.el hr499 hx519
                        obtain ⟨rfl, hr529⟩ := hr529
                        refine W.draw mixo 16 [fun v _ => v = (Value.int .i64 x134) ∧ InR .i64 x134, fun v _ => v = u65, fun v _ => v = (Value.int .i64 (k71 : Int)) ∧ InR .i64 (k71 : Int), fun v _ => v = (Value.pointer (some (elA u65 ((k71 : Int)).toNat))), fun v _ => v = u430, fun v _ => v = (Value.int .i64 (k132 : Int)) ∧ InR .i64 (k132 : Int), fun v _ => v = (Value.pointer (some (elA u430 ((k132 : Int)).toNat))), fun v _ => v = (Value.int .i64 x449) ∧ InR .i64 x449, fun v _ => v = u33, fun v _ => v = (Value.int .i64 (k132 : Int)) ∧ InR .i64 (k132 : Int), fun v _ => v = (Value.pointer (some (elA u33 ((k132 : Int)).toNat))), fun v _ => v = u497, fun v _ => v = (Value.int .i64 (k100 : Int)) ∧ InR .i64 (k100 : Int), fun v _ => v = (Value.pointer (some (elA u497 ((k100 : Int)).toNat))), fun v _ => v = (Value.int .i64 x516) ∧ InR .i64 x516, fun v _ => v = (Value.int .i64 (w64 (x449 * x516))) ∧ InR .i64 (w64 (x449 * x516))] (by kernel_rfl) (by kernel_rfl) (stabL ⟨(fun _ _ _ _ h => h), (fun _ _ _ _ h => h), (fun _ _ _ _ h => h), (fun _ _ _ _ h => h), (fun _ _ _ _ h => h), (fun _ _ _ _ h => h), (fun _ _ _ _ h => h), (fun _ _ _ _ h => h), (fun _ _ _ _ h => h), (fun _ _ _ _ h => h), (fun _ _ _ _ h => h), (fun _ _ _ _ h => h), (fun _ _ _ _ h => h), (fun _ _ _ _ h => h), (fun _ _ _ _ h => h), (fun _ _ _ _ h => h), trivial⟩) ⟨?_, ?_, ?_, ?_, ?_, ?_, ?_, ?_, ?_, ?_, ?_, ?_, ?_, ?_, ?_, ?_, trivial⟩ ?_
                        · intro f389 wd390 he391 hout392 hphi393
                          have hS394 : St wd2 wd390 [] := St.extend hS363 he391
                          have e395 : f389 10 = (Value.int .i64 x134) := (hout392 10 rfl).trans e375
                          exact OpY.val (Value.int .i64 x134) wd390 rfl (op_move e395) (Ext.refl _) ⟨rfl, hr153⟩
                        · intro f396 wd397 he398 hout399 hphi400
                          have hS401 : St wd2 wd397 [] := St.extend hS363 he398
                          have e402 : f396 6 = u65 := (hout399 6 rfl).trans e372
                          exact OpY.val u65 wd397 rfl (op_move e402) (Ext.refl _) rfl
                        · intro f403 wd404 he405 hout406 hphi407
                          have hS408 : St wd2 wd404 [] := St.extend hS363 he405
                          have e409 : f403 7 = (Value.int .i64 (k71 : Int)) := (hout406 7 rfl).trans e373
                          exact OpY.val (Value.int .i64 (k71 : Int)) wd404 rfl (op_move e409) (Ext.refl _) ⟨rfl, hr93⟩
                        · intro f410 wd411 he412 hout413 hphi414
                          have hS415 : St wd2 wd411 [] := St.extend hS363 he412
                          have e416 : f410 68 = u65 := hphi414 1 68 _ rfl rfl rfl
                          obtain ⟨e417, hr418⟩ : f410 69 = (Value.int .i64 (k71 : Int)) ∧ InR .i64 (k71 : Int) := hphi414 2 69 _ rfl rfl rfl
                          exact OpY.val (Value.pointer (some (elA u65 ((k71 : Int)).toNat))) wd411 rfl (op_idx sl_61 (Ty.lift _ (Ext.trans hE7 hS415.ext) hr67) e416 e417 ha420 hb421) (Ext.refl _) rfl
                        · intro f423 wd424 he425 hout426 hphi427
                          have hS428 : St wd2 wd424 [] := St.extend hS363 he425
                          have e429 : f423 70 = (Value.pointer (some (elA u65 ((k71 : Int)).toNat))) := hphi427 3 70 _ rfl rfl rfl
                          exact OpY.val u430 wd424 rfl (op_load one_25 e429 (Ext.cell (Ext.trans hE7 hS428.ext) hc431)) (Ext.refl _) rfl
                        · intro f433 wd434 he435 hout436 hphi437
                          have hS438 : St wd2 wd434 [] := St.extend hS363 he435
                          have e439 : f433 11 = (Value.int .i64 (k132 : Int)) := (hout436 11 rfl).trans e376
                          exact OpY.val (Value.int .i64 (k132 : Int)) wd434 rfl (op_move e439) (Ext.refl _) ⟨rfl, hr166⟩
                        · intro f440 wd441 he442 hout443 hphi444
                          have hS445 : St wd2 wd441 [] := St.extend hS363 he442
                          have e446 : f440 71 = u430 := hphi444 4 71 _ rfl rfl rfl
                          obtain ⟨e447, hr448⟩ : f440 72 = (Value.int .i64 (k132 : Int)) ∧ InR .i64 (k132 : Int) := hphi444 5 72 _ rfl rfl rfl
                          exact OpY.val (Value.pointer (some (elA u430 ((k132 : Int)).toNat))) wd441 rfl (op_idx sl_25 (Ty.lift _ (Ext.trans hE7 hS445.ext) hr432) e446 e447 ha450 hb451) (Ext.refl _) rfl
                        · intro f453 wd454 he455 hout456 hphi457
                          have hS458 : St wd2 wd454 [] := St.extend hS363 he455
                          have e459 : f453 73 = (Value.pointer (some (elA u430 ((k132 : Int)).toNat))) := hphi457 6 73 _ rfl rfl rfl
                          exact OpY.val (Value.int .i64 x449) wd454 rfl (op_load one_2 e459 (Ext.cell (Ext.trans hE7 hS458.ext) hc461)) (Ext.refl _) ⟨rfl, hr462⟩
                        · intro f463 wd464 he465 hout466 hphi467
                          have hS468 : St wd2 wd464 [] := St.extend hS363 he465
                          have e469 : f463 4 = u33 := (hout466 4 rfl).trans e370
                          exact OpY.val u33 wd464 rfl (op_move e469) (Ext.refl _) rfl
                        · intro f470 wd471 he472 hout473 hphi474
                          have hS475 : St wd2 wd471 [] := St.extend hS363 he472
                          have e476 : f470 11 = (Value.int .i64 (k132 : Int)) := (hout473 11 rfl).trans e376
                          exact OpY.val (Value.int .i64 (k132 : Int)) wd471 rfl (op_move e476) (Ext.refl _) ⟨rfl, hr166⟩
                        · intro f477 wd478 he479 hout480 hphi481
                          have hS482 : St wd2 wd478 [] := St.extend hS363 he479
                          have e483 : f477 75 = u33 := hphi481 8 75 _ rfl rfl rfl
                          obtain ⟨e484, hr485⟩ : f477 76 = (Value.int .i64 (k132 : Int)) ∧ InR .i64 (k132 : Int) := hphi481 9 76 _ rfl rfl rfl
                          exact OpY.val (Value.pointer (some (elA u33 ((k132 : Int)).toNat))) wd478 rfl (op_idx sl_61 (Ty.lift _ (Ext.trans hE7 hS482.ext) hr35) e483 e484 ha487 hb488) (Ext.refl _) rfl
                        · intro f490 wd491 he492 hout493 hphi494
                          have hS495 : St wd2 wd491 [] := St.extend hS363 he492
                          have e496 : f490 77 = (Value.pointer (some (elA u33 ((k132 : Int)).toNat))) := hphi494 10 77 _ rfl rfl rfl
                          exact OpY.val u497 wd491 rfl (op_load one_25 e496 (Ext.cell (Ext.trans hE7 hS495.ext) hc498)) (Ext.refl _) rfl
                        · intro f500 wd501 he502 hout503 hphi504
                          have hS505 : St wd2 wd501 [] := St.extend hS363 he502
                          have e506 : f500 8 = (Value.int .i64 (k100 : Int)) := (hout503 8 rfl).trans e374
                          exact OpY.val (Value.int .i64 (k100 : Int)) wd501 rfl (op_move e506) (Ext.refl _) ⟨rfl, hr125⟩
                        · intro f507 wd508 he509 hout510 hphi511
                          have hS512 : St wd2 wd508 [] := St.extend hS363 he509
                          have e513 : f507 78 = u497 := hphi511 11 78 _ rfl rfl rfl
                          obtain ⟨e514, hr515⟩ : f507 79 = (Value.int .i64 (k100 : Int)) ∧ InR .i64 (k100 : Int) := hphi511 12 79 _ rfl rfl rfl
                          exact OpY.val (Value.pointer (some (elA u497 ((k100 : Int)).toNat))) wd508 rfl (op_idx sl_25 (Ty.lift _ (Ext.trans hE7 hS512.ext) hr499) e513 e514 ha517 hb518) (Ext.refl _) rfl
                        · intro f520 wd521 he522 hout523 hphi524
                          have hS525 : St wd2 wd521 [] := St.extend hS363 he522
                          have e526 : f520 80 = (Value.pointer (some (elA u497 ((k100 : Int)).toNat))) := hphi524 13 80 _ rfl rfl rfl
                          exact OpY.val (Value.int .i64 x516) wd521 rfl (op_load one_2 e526 (Ext.cell (Ext.trans hE7 hS525.ext) hc528)) (Ext.refl _) ⟨rfl, hr529⟩
                        · intro f530 wd531 he532 hout533 hphi534
                          have hS535 : St wd2 wd531 [] := St.extend hS363 he532
                          obtain ⟨e536, hr537⟩ : f530 74 = (Value.int .i64 x449) ∧ InR .i64 x449 := hphi534 7 74 _ rfl rfl rfl
                          obtain ⟨e538, hr539⟩ : f530 81 = (Value.int .i64 x516) ∧ InR .i64 x516 := hphi534 14 81 _ rfl rfl rfl
                          exact OpY.val (Value.int .i64 (w64 (x449 * x516))) wd531 rfl (op_mul e536 e538) (Ext.refl _) ⟨rfl, (inR_wrap _ _)⟩
                        · intro f540 wd541 he542 hout543 hphi544
                          show WL _ _ _ _ _ _ _
                          have hS545 : St wd2 wd541 [] := St.extend hS363 he542
                          obtain ⟨e546, hr547⟩ : f540 67 = (Value.int .i64 x134) ∧ InR .i64 x134 := hphi544 0 67 _ (by decide) rfl rfl
                          obtain ⟨e548, hr549⟩ : f540 82 = (Value.int .i64 (w64 (x449 * x516))) ∧ InR .i64 (w64 (x449 * x516)) := hphi544 15 82 _ (by decide) rfl rfl
                          have e550 : f540 1 = (Value.pointer (some ⟨b1, 0, none⟩)) := (hout543 1 rfl).trans e368
                          have e551 : f540 3 = (Value.int .i64 (k12 : Int)) := (hout543 3 rfl).trans e369
                          have e552 : f540 4 = u33 := (hout543 4 rfl).trans e370
                          have e553 : f540 5 = (Value.int .i64 (k39 : Int)) := (hout543 5 rfl).trans e371
                          have e554 : f540 6 = u65 := (hout543 6 rfl).trans e372
                          have e555 : f540 7 = (Value.int .i64 (k71 : Int)) := (hout543 7 rfl).trans e373
                          have e556 : f540 8 = (Value.int .i64 (k100 : Int)) := (hout543 8 rfl).trans e374
                          have e557 : f540 9 = (Value.int .i64 (w64 (x133 + (w64 (x230 * x334))))) := (hout543 9 rfl).trans rfl
                          have e558 : f540 13 = v_r_Table := (hout543 13 rfl).trans e377
                          have e559 : f540 14 = (Value.int .i64 ((r_Table).length : Int)) := (hout543 14 rfl).trans e378
                          have e560 : f540 15 = (Value.int .i64 (k12 : Int)) := (hout543 15 rfl).trans e379
                          have e561 : f540 21 = v_r_Table := (hout543 21 rfl).trans e380
                          have e562 : f540 22 = (Value.int .i64 ((r_Table).length : Int)) := (hout543 22 rfl).trans e381
                          have e563 : f540 23 = (Value.int .i64 (k39 : Int)) := (hout543 23 rfl).trans e382
                          have e564 : f540 30 = (Value.int .i64 ((r_Table).length : Int)) := (hout543 30 rfl).trans e383
                          have e565 : f540 31 = (Value.int .i64 (k71 : Int)) := (hout543 31 rfl).trans e384
                          have e566 : f540 36 = (Value.int .i64 ((r_Table).length : Int)) := (hout543 36 rfl).trans e385
                          have e567 : f540 37 = (Value.int .i64 (k100 : Int)) := (hout543 37 rfl).trans e386
                          have e568 : f540 42 = (Value.int .i64 ((r_Table).length : Int)) := (hout543 42 rfl).trans e387
                          have e569 : f540 43 = (Value.int .i64 (k132 : Int)) := (hout543 43 rfl).trans e388
                          refine WL.val (Value.int .i64 (w64 (x134 + (w64 (x449 * x516))))) _ (op_add e546 e548) rfl ?_
                          refine WL.val (Value.int .i64 (w64 (x134 + (w64 (x449 * x516))))) _ (op_assign rfl) rfl ?_
                          refine WL.nil ?_
                          show W _ _ _ _ _ _
                          refine W.region ?_
                          refine WL.val (Value.int .i64 (w64 ((k132 : Int) + (1 : Int)))) _ (op_add e569 rfl) rfl ?_
                          refine WL.val (Value.int .i64 (w64 ((k132 : Int) + (1 : Int)))) _ (op_move rfl) rfl ?_
                          refine WL.nil ?_
                          obtain rfl := Option.some.inj hb139
                          show ∃ s, _ = Ctl.next s ∧ _
                          exact ⟨_, rfl, e550, e551, e552, e553, e554, e555, e556, e557, (inR_wrap _ _), rfl, (inR_wrap _ _), e558, e559, e560, e561, e562, e563, e564, e565, e566, e567, e568, (ctr_next hl168 hr129), (ctr_rng hl168 hr129), hS545⟩
                    · intro s575 f571 wd572 hs573 hI574
                      obtain ⟨x576, x577⟩ := s575
                      replace hI574 : f571 1 = (Value.pointer (some ⟨b1, 0, none⟩)) ∧ f571 3 = (Value.int .i64 (k12 : Int)) ∧ f571 4 = u33 ∧ f571 5 = (Value.int .i64 (k39 : Int)) ∧ f571 6 = u65 ∧ f571 7 = (Value.int .i64 (k71 : Int)) ∧ f571 8 = (Value.int .i64 (k100 : Int)) ∧ f571 9 = Value.int .i64 x576 ∧ InR .i64 x576 ∧ f571 10 = Value.int .i64 x577 ∧ InR .i64 x577 ∧ f571 13 = v_r_Table ∧ f571 14 = (Value.int .i64 ((r_Table).length : Int)) ∧ f571 15 = (Value.int .i64 (k12 : Int)) ∧ f571 21 = v_r_Table ∧ f571 22 = (Value.int .i64 ((r_Table).length : Int)) ∧ f571 23 = (Value.int .i64 (k39 : Int)) ∧ f571 30 = (Value.int .i64 ((r_Table).length : Int)) ∧ f571 31 = (Value.int .i64 (k71 : Int)) ∧ f571 36 = (Value.int .i64 ((r_Table).length : Int)) ∧ f571 37 = (Value.int .i64 (k100 : Int)) ∧ f571 42 = (Value.int .i64 ((r_Table).length : Int)) ∧ f571 43 = Value.int .i64 (((r_Table).length : Nat) : Int) ∧ InR .i64 (((r_Table).length : Nat) : Int) ∧ St wd2 wd572 [] := hI574
                      obtain ⟨hf578, hf579, hf580, hf581, hf582, hf583, hf584, hf585, hr586, hf587, hr588, hf589, hf590, hf591, hf592, hf593, hf594, hf595, hf596, hf597, hf598, hf599, hf600, hr601, hS602⟩ := hI574
                      refine W.seq ?_
                      refine W.region ?_
                      refine WL.val (Value.bool (decide ((((r_Table).length : Nat) : Int) < ((r_Table).length : Int)))) _ (op_lss hf600 hf599) rfl ?_
                      have hl603 : ¬ (((r_Table).length : Nat) : Int) < ((r_Table).length : Int) := by omega
                      refine WL.nil ?_
                      show W _ _ _ _ _ _
                      refine W.seq ?_
                      refine W.condF (decide ((((r_Table).length : Nat) : Int) < ((r_Table).length : Int))) rfl (decide_eq_false hl603) ?_
                      refine W.exit ?_
                      show _ = _ ∧ _
                      exact ⟨rfl, _, hs573, hf578, hf579, hf580, hf581, hf582, hf583, hf584, hf585, hr586, hf587, hr588, hf589, hf590, hf591, hf592, hf593, hf594, hf595, hf596, hf597, hf598, hS602⟩
                  · rintro f604 wd605 ⟨s607, rfl, hq606⟩
                    replace hb105 := onRes_fin hb105
                    obtain ⟨x608, x609⟩ := s607
                    replace hq606 : f604 1 = (Value.pointer (some ⟨b1, 0, none⟩)) ∧ f604 3 = (Value.int .i64 (k12 : Int)) ∧ f604 4 = u33 ∧ f604 5 = (Value.int .i64 (k39 : Int)) ∧ f604 6 = u65 ∧ f604 7 = (Value.int .i64 (k71 : Int)) ∧ f604 8 = (Value.int .i64 (k100 : Int)) ∧ f604 9 = Value.int .i64 x608 ∧ InR .i64 x608 ∧ f604 10 = Value.int .i64 x609 ∧ InR .i64 x609 ∧ f604 13 = v_r_Table ∧ f604 14 = (Value.int .i64 ((r_Table).length : Int)) ∧ f604 15 = (Value.int .i64 (k12 : Int)) ∧ f604 21 = v_r_Table ∧ f604 22 = (Value.int .i64 ((r_Table).length : Int)) ∧ f604 23 = (Value.int .i64 (k39 : Int)) ∧ f604 30 = (Value.int .i64 ((r_Table).length : Int)) ∧ f604 31 = (Value.int .i64 (k71 : Int)) ∧ f604 36 = (Value.int .i64 ((r_Table).length : Int)) ∧ f604 37 = (Value.int .i64 (k100 : Int)) ∧ St wd2 wd605 [] := hq606
                    replace hb105 : (_ : Option _) = _ := hb105
                    dsimp only at hb105
                    obtain ⟨hf610, hf611, hf612, hf613, hf614, hf615, hf616, hf617, hr618, hf619, hr620, hf621, hf622, hf623, hf624, hf625, hf626, hf627, hf628, hf629, hf630, hS631⟩ := hq606
                    show W _ _ _ _ _ _
                    refine W.seq ?_
                    refine W.region ?_
                    refine WL.val (Value.int .i64 x608) _ (op_move hf617) rfl ?_
                    refine WL.val (Value.int .i64 x609) _ (op_move hf619) rfl ?_
                    refine WL.val (Value.bool (x608 != x609)) _ (op_neq rfl rfl) rfl ?_
                    refine WL.nil ?_
                    show W _ _ _ _ _ _
                    refine W.cond (x608 != x609) rfl (fun hc632 => ?_) (fun hc632 => ?_)
                    · replace hb105 := ip hb105 hc632
                      refine W.seq ?_
                      refine W.region ?_
                      refine WL.val (Value.int .i64 (k12 : Int)) _ (op_move hf611) rfl ?_
                      refine WL.val (Value.int .i64 (k39 : Int)) _ (op_move hf613) rfl ?_
                      refine WL.val (Value.int .i64 (k71 : Int)) _ (op_move hf615) rfl ?_
                      refine WL.val (Value.int .i64 (k100 : Int)) _ (op_move hf616) rfl ?_
                      refine WL.litFlat (t := (Ty.i .i64)) (flat_i .i64) [(Value.int .i64 (3 : Int)), (Value.int .i64 (k12 : Int)), (Value.int .i64 (k39 : Int)), (Value.int .i64 (k71 : Int)), (Value.int .i64 (k100 : Int))] [(3 : Int), (k12 : Int), (k39 : Int), (k71 : Int), (k100 : Int)] hS631 sl_25 rfl rfl (fillL rfl ⟨rfl, rfl, rfl, rfl, rfl, rfl, rfl, rfl, rfl, rfl, rfl, rfl, rfl, rfl, rfl, trivial⟩) rfl rfl (litL ⟨⟨rfl, (inR_i64.2 (show (-9223372036854775808 : Int) ≤ 3 ∧ (3 : Int) ≤ 9223372036854775807 from by decide))⟩, ⟨rfl, hr25⟩, ⟨rfl, hr57⟩, ⟨rfl, hr93⟩, ⟨rfl, hr125⟩, trivial⟩) rfl ?_
                      intro u634 wd635 hS636 he637
                      replace hS636 : St wd2 wd635 [(Ty.sl (Ty.i .i64)).at u634 ([(3 : Int), (k12 : Int), (k39 : Int), (k71 : Int), (k100 : Int)] : (List Int))] := hS636
                      refine WL.val u634 _ (op_assign rfl) rfl ?_
                      refine WL.nil ?_
                      show W _ _ _ _ _ _
                      refine W.ret ?_
                      obtain rfl := Option.some.inj hb105
                      obtain rfl := hret108 _ rfl
                      replace hb76 := onRes_ret hb76
                      obtain rfl := Option.some.inj hb76
                      obtain rfl := hret79 _ rfl
                      replace hb44 := onRes_ret hb44
                      obtain rfl := Option.some.inj hb44
                      obtain rfl := hret47 _ rfl
                      replace hb17 := onRes_ret hb17
                      obtain rfl := Option.some.inj hb17
                      obtain rfl := hret20 _ rfl
                      replace h := onRes_ret h
                      obtain rfl := Option.some.inj h
                      show FinP _ _ _ _ _ _ _
                      exact FinP.ret _ (res1 rfl rfl) ⟨u634, rfl, (nil_cons), (Ext.trans hE7 hS636.ext), (St.out (St.pick hS636 [0] rfl) (hE7))⟩
                    · replace hb105 := inegb hb105 hc632
                      refine W.skip ?_
                      show W _ _ _ _ _ _
                      refine W.region ?_
                      refine WL.val (Value.int .i64 (w64 ((k100 : Int) + (1 : Int)))) _ (op_add hf630 rfl) rfl ?_
                      refine WL.val (Value.int .i64 (w64 ((k100 : Int) + (1 : Int)))) _ (op_move rfl) rfl ?_
                      refine WL.nil ?_
                      obtain rfl := Option.some.inj hb105
                      show ∃ s, _ = Ctl.next s ∧ _
                      exact ⟨_, rfl, hf610, hf611, hf612, hf613, hf614, hf615, hf621, hf622, hf623, hf624, hf625, hf626, hf627, hf628, hf629, (ctr_next hl127 hr97), (ctr_rng hl127 hr97), hS631⟩
                · intro s644 f640 wd641 hs642 hI643
                  obtain ⟨⟩ := s644
                  replace hI643 : f640 1 = (Value.pointer (some ⟨b1, 0, none⟩)) ∧ f640 3 = (Value.int .i64 (k12 : Int)) ∧ f640 4 = u33 ∧ f640 5 = (Value.int .i64 (k39 : Int)) ∧ f640 6 = u65 ∧ f640 7 = (Value.int .i64 (k71 : Int)) ∧ f640 13 = v_r_Table ∧ f640 14 = (Value.int .i64 ((r_Table).length : Int)) ∧ f640 15 = (Value.int .i64 (k12 : Int)) ∧ f640 21 = v_r_Table ∧ f640 22 = (Value.int .i64 ((r_Table).length : Int)) ∧ f640 23 = (Value.int .i64 (k39 : Int)) ∧ f640 30 = (Value.int .i64 ((r_Table).length : Int)) ∧ f640 31 = (Value.int .i64 (k71 : Int)) ∧ f640 36 = (Value.int .i64 ((r_Table).length : Int)) ∧ f640 37 = Value.int .i64 (((r_Table).length : Nat) : Int) ∧ InR .i64 (((r_Table).length : Nat) : Int) ∧ St wd2 wd641 [] := hI643
                  obtain ⟨hf645, hf646, hf647, hf648, hf649, hf650, hf651, hf652, hf653, hf654, hf655, hf656, hf657, hf658, hf659, hf660, hr661, hS662⟩ := hI643
                  refine W.seq ?_
                  refine W.region ?_
                  refine WL.val (Value.bool (decide ((((r_Table).length : Nat) : Int) < ((r_Table).length : Int)))) _ (op_lss hf660 hf659) rfl ?_
                  have hl663 : ¬ (((r_Table).length : Nat) : Int) < ((r_Table).length : Int) := by omega
                  refine WL.nil ?_
                  show W _ _ _ _ _ _
                  refine W.seq ?_
                  refine W.condF (decide ((((r_Table).length : Nat) : Int) < ((r_Table).length : Int))) rfl (decide_eq_false hl663) ?_
                  refine W.exit ?_
                  show _ = _ ∧ _
                  exact ⟨rfl, _, hs642, hf645, hf646, hf647, hf648, hf649, hf651, hf652, hf653, hf654, hf655, hf656, hf657, hf658, hS662⟩
              · rintro f664 wd665 ⟨s667, rfl, hq666⟩
                replace hb76 := onRes_fin hb76
                obtain ⟨⟩ := s667
                replace hq666 : f664 1 = (Value.pointer (some ⟨b1, 0, none⟩)) ∧ f664 3 = (Value.int .i64 (k12 : Int)) ∧ f664 4 = u33 ∧ f664 5 = (Value.int .i64 (k39 : Int)) ∧ f664 6 = u65 ∧ f664 13 = v_r_Table ∧ f664 14 = (Value.int .i64 ((r_Table).length : Int)) ∧ f664 15 = (Value.int .i64 (k12 : Int)) ∧ f664 21 = v_r_Table ∧ f664 22 = (Value.int .i64 ((r_Table).length : Int)) ∧ f664 23 = (Value.int .i64 (k39 : Int)) ∧ f664 30 = (Value.int .i64 ((r_Table).length : Int)) ∧ f664 31 = (Value.int .i64 (k71 : Int)) ∧ St wd2 wd665 [] := hq666
                obtain ⟨hf668, hf669, hf670, hf671, hf672, hf673, hf674, hf675, hf676, hf677, hf678, hf679, hf680, hS681⟩ := hq666
                show W _ _ _ _ _ _
                refine W.region ?_
                refine WL.val (Value.int .i64 (w64 ((k71 : Int) + (1 : Int)))) _ (op_add hf680 rfl) rfl ?_
                refine WL.val (Value.int .i64 (w64 ((k71 : Int) + (1 : Int)))) _ (op_move rfl) rfl ?_
                refine WL.nil ?_
                obtain rfl := Option.some.inj hb76
                show ∃ s, _ = Ctl.next s ∧ _
                exact ⟨_, rfl, hf668, hf669, hf670, hf671, hf672, hf673, hf674, hf675, hf676, hf677, hf678, hf679, (ctr_next hl95 hr68), (ctr_rng hl95 hr68), hS681⟩
            · intro s688 f684 wd685 hs686 hI687
              obtain ⟨⟩ := s688
              replace hI687 : f684 1 = (Value.pointer (some ⟨b1, 0, none⟩)) ∧ f684 3 = (Value.int .i64 (k12 : Int)) ∧ f684 4 = u33 ∧ f684 5 = (Value.int .i64 (k39 : Int)) ∧ f684 6 = u65 ∧ f684 13 = v_r_Table ∧ f684 14 = (Value.int .i64 ((r_Table).length : Int)) ∧ f684 15 = (Value.int .i64 (k12 : Int)) ∧ f684 21 = v_r_Table ∧ f684 22 = (Value.int .i64 ((r_Table).length : Int)) ∧ f684 23 = (Value.int .i64 (k39 : Int)) ∧ f684 30 = (Value.int .i64 ((r_Table).length : Int)) ∧ f684 31 = Value.int .i64 (((r_Table).length : Nat) : Int) ∧ InR .i64 (((r_Table).length : Nat) : Int) ∧ St wd2 wd685 [] := hI687
              obtain ⟨hf689, hf690, hf691, hf692, hf693, hf694, hf695, hf696, hf697, hf698, hf699, hf700, hf701, hr702, hS703⟩ := hI687
              refine W.seq ?_
              refine W.region ?_
              refine WL.val (Value.bool (decide ((((r_Table).length : Nat) : Int) < ((r_Table).length : Int)))) _ (op_lss hf701 hf700) rfl ?_
              have hl704 : ¬ (((r_Table).length : Nat) : Int) < ((r_Table).length : Int) := by omega
              refine WL.nil ?_
              show W _ _ _ _ _ _
              refine W.seq ?_
              refine W.condF (decide ((((r_Table).length : Nat) : Int) < ((r_Table).length : Int))) rfl (decide_eq_false hl704) ?_
              refine W.exit ?_
              show _ = _ ∧ _
              exact ⟨rfl, _, hs686, hf689, hf690, hf691, hf694, hf695, hf696, hf697, hf698, hf699, hS703⟩
          · rintro f705 wd706 ⟨s708, rfl, hq707⟩
            replace hb44 := onRes_fin hb44
            obtain ⟨⟩ := s708
            replace hq707 : f705 1 = (Value.pointer (some ⟨b1, 0, none⟩)) ∧ f705 3 = (Value.int .i64 (k12 : Int)) ∧ f705 4 = u33 ∧ f705 13 = v_r_Table ∧ f705 14 = (Value.int .i64 ((r_Table).length : Int)) ∧ f705 15 = (Value.int .i64 (k12 : Int)) ∧ f705 21 = v_r_Table ∧ f705 22 = (Value.int .i64 ((r_Table).length : Int)) ∧ f705 23 = (Value.int .i64 (k39 : Int)) ∧ St wd2 wd706 [] := hq707
            obtain ⟨hf709, hf710, hf711, hf712, hf713, hf714, hf715, hf716, hf717, hS718⟩ := hq707
            show W _ _ _ _ _ _
            refine W.region ?_
            refine WL.val (Value.int .i64 (w64 ((k39 : Int) + (1 : Int)))) _ (op_add hf717 rfl) rfl ?_
            refine WL.val (Value.int .i64 (w64 ((k39 : Int) + (1 : Int)))) _ (op_move rfl) rfl ?_
            refine WL.nil ?_
            obtain rfl := Option.some.inj hb44
            show ∃ s, _ = Ctl.next s ∧ _
            exact ⟨_, rfl, hf709, hf710, hf711, hf712, hf713, hf714, hf715, hf716, (ctr_next hl59 hr36), (ctr_rng hl59 hr36), hS718⟩
        · intro s725 f721 wd722 hs723 hI724
          obtain ⟨⟩ := s725
          replace hI724 : f721 1 = (Value.pointer (some ⟨b1, 0, none⟩)) ∧ f721 3 = (Value.int .i64 (k12 : Int)) ∧ f721 4 = u33 ∧ f721 13 = v_r_Table ∧ f721 14 = (Value.int .i64 ((r_Table).length : Int)) ∧ f721 15 = (Value.int .i64 (k12 : Int)) ∧ f721 21 = v_r_Table ∧ f721 22 = (Value.int .i64 ((r_Table).length : Int)) ∧ f721 23 = Value.int .i64 (((r_Table).length : Nat) : Int) ∧ InR .i64 (((r_Table).length : Nat) : Int) ∧ St wd2 wd722 [] := hI724
          obtain ⟨hf726, hf727, hf728, hf729, hf730, hf731, hf732, hf733, hf734, hr735, hS736⟩ := hI724
          refine W.seq ?_
          refine W.region ?_
          refine WL.val (Value.bool (decide ((((r_Table).length : Nat) : Int) < ((r_Table).length : Int)))) _ (op_lss hf734 hf733) rfl ?_
          have hl737 : ¬ (((r_Table).length : Nat) : Int) < ((r_Table).length : Int) := by omega
          refine WL.nil ?_
          show W _ _ _ _ _ _
          refine W.seq ?_
          refine W.condF (decide ((((r_Table).length : Nat) : Int) < ((r_Table).length : Int))) rfl (decide_eq_false hl737) ?_
          refine W.exit ?_
          show _ = _ ∧ _
          exact ⟨rfl, _, hs723, hf726, hf729, hf730, hf731, hS736⟩
      · rintro f738 wd739 ⟨s741, rfl, hq740⟩
        replace hb17 := onRes_fin hb17
        obtain ⟨⟩ := s741
        replace hq740 : f738 1 = (Value.pointer (some ⟨b1, 0, none⟩)) ∧ f738 13 = v_r_Table ∧ f738 14 = (Value.int .i64 ((r_Table).length : Int)) ∧ f738 15 = (Value.int .i64 (k12 : Int)) ∧ St wd2 wd739 [] := hq740
        obtain ⟨hf742, hf743, hf744, hf745, hS746⟩ := hq740
        show W _ _ _ _ _ _
        refine W.region ?_
        refine WL.val (Value.int .i64 (w64 ((k12 : Int) + (1 : Int)))) _ (op_add hf745 rfl) rfl ?_
        refine WL.val (Value.int .i64 (w64 ((k12 : Int) + (1 : Int)))) _ (op_move rfl) rfl ?_
        refine WL.nil ?_
        obtain rfl := Option.some.inj hb17
        show ∃ s, _ = Ctl.next s ∧ _
        exact ⟨_, rfl, hf742, hf743, hf744, (ctr_next hl27 hr9), (ctr_rng hl27 hr9), hS746⟩
    · intro s753 f749 wd750 hs751 hI752
      obtain ⟨⟩ := s753
      replace hI752 : f749 1 = (Value.pointer (some ⟨b1, 0, none⟩)) ∧ f749 13 = v_r_Table ∧ f749 14 = (Value.int .i64 ((r_Table).length : Int)) ∧ f749 15 = Value.int .i64 (((r_Table).length : Nat) : Int) ∧ InR .i64 (((r_Table).length : Nat) : Int) ∧ St wd2 wd750 [] := hI752
      obtain ⟨hf754, hf755, hf756, hf757, hr758, hS759⟩ := hI752
      refine W.seq ?_
      refine W.region ?_
      refine WL.val (Value.bool (decide ((((r_Table).length : Nat) : Int) < ((r_Table).length : Int)))) _ (op_lss hf757 hf756) rfl ?_
      have hl760 : ¬ (((r_Table).length : Nat) : Int) < ((r_Table).length : Int) := by omega
      refine WL.nil ?_
      show W _ _ _ _ _ _
      refine W.seq ?_
      refine W.condF (decide ((((r_Table).length : Nat) : Int) < ((r_Table).length : Int))) rfl (decide_eq_false hl760) ?_
      refine W.exit ?_
      show _ = _ ∧ _
      exact ⟨rfl, _, hs751, hS759⟩
  · rintro f761 wd762 ⟨s764, rfl, hq763⟩
    replace h := onRes_fin h
    obtain ⟨⟩ := s764
    replace hq763 : St wd2 wd762 [] := hq763
    have hS765 := hq763
    show W _ _ _ _ _ _
    refine W.seq ?_
    refine W.region ?_
    refine WL.val (Value.slice none 0 0) _ (op_assign rfl) rfl ?_
    refine WL.nil ?_
    show W _ _ _ _ _ _
    refine W.ret ?_
    obtain rfl := Option.some.inj h
    show FinP _ _ _ _ _ _ _
    exact FinP.ret _ (res1 rfl rfl) ⟨(Value.slice none 0 0), rfl, (fun _ => ⟨0, 0, rfl⟩), (Ext.trans hE7 hS765.ext), (St.out (St.pick (St.addNil (Ty.i .i64) hS765) [0] rfl) (hE7))⟩

theorem c_impl_Ring_fault {w : World} {r_Table : (List (List (List Int)))} {v_r_Table : Value} (r_r_Table : (Ty.sl (Ty.sl (Ty.sl (Ty.i .i64)))).rep w v_r_Table r_Table) {res : (List Int)} (h : p_impl_Ring_fault r_Table  = some res) :
    Ret Try.prog 67 #[(Value.agg #[v_r_Table])] w (fun v w' => ∃ (u0 : Value), v = u0 ∧ NilIff u0 res ∧ Ext w w' ∧ Sep w.heap.size w' [(Ty.sl (Ty.i .i64)).at u0 res]) := by
  unfold p_impl_Ring_fault at h
  have hS0 : St w w [] := St.start w
  refine Ret.start (fn := Try.f67) Try.func67 rfl 24 rfl rfl ?_
  refine W.seq ?_
  refine W.region ?_
  refine WL.box hS0 rfl (cs := [v_r_Table]) rfl rfl ?_
  intro b1 wd2 hS3 he4 hx5
  replace hS3 : St w wd2 [bx b1 [v_r_Table]] := hS3
  have hx6 := St.boxAt hS3 0 rfl
  have hE7 : Ext w wd2 := hS3.ext
  have hS8 : St wd2 wd2 [] := St.start wd2
  refine WL.val (Value.slice none 0 0) _ (op_assign rfl) rfl ?_
  refine WL.nil ?_
  show W _ _ _ _ _ _
  refine W.seq ?_
  refine W.seq ?_
  refine W.region ?_
  refine WL.val (Value.agg #[v_r_Table]) _ (op_loadBox st_29 rfl (BoxAt.lift hS8.ext hx6) rfl rfl) rfl ?_
  obtain ⟨x9, hx10, h⟩ := bs h
  refine WL.call _ (op_call fn_83 (args1 rfl)) (c_impl_Ring_unitFault (Ty.lift _ (Ext.trans hE7 hS8.ext) r_r_Table) hx10) rfl ?_
  rintro u11 wd13 ⟨_, rfl, hn12, he14, hs15⟩
  have hS16 := St.join hS8 he14 hs15
  replace hS16 : St wd2 wd13 [(Ty.sl (Ty.i .i64)).at u11 x9] := hS16
  refine WL.val u11 _ (op_assign rfl) rfl ?_
  refine WL.nil ?_
  show W _ _ _ _ _ _
  refine W.seq ?_
  refine W.region ?_
  refine WL.val u11 _ (op_move rfl) rfl ?_
  refine WL.val (Value.bool (!(x9).isEmpty)) _ (op_neqNilL sl_25 (St.rep (t := (Ty.sl (Ty.i .i64))) hS16 0 rfl) hn12 rfl rfl) rfl ?_
  refine WL.nil ?_
  show W _ _ _ _ _ _
  refine W.cond (!(x9).isEmpty) rfl (fun hc17 => ?_) (fun hc17 => ?_)
  · replace h := ip h hc17
    refine W.seq ?_
    refine W.region ?_
    refine WL.val u11 _ (op_move rfl) rfl ?_
    refine WL.val u11 _ (op_assign rfl) rfl ?_
    refine WL.nil ?_
    show W _ _ _ _ _ _
    refine W.ret ?_
    obtain rfl := Option.some.inj h
    show FinP _ _ _ _ _ _ _
    exact FinP.ret _ (res1 rfl rfl) ⟨u11, rfl, hn12, (Ext.trans hE7 hS16.ext), (St.out (St.pick hS16 [0] rfl) (hE7))⟩
  · replace h := inegb h hc17
    refine W.skip ?_
    show W _ _ _ _ _ _
    refine W.seq ?_
    refine W.seq ?_
    refine W.region ?_
    refine WL.val (Value.agg #[v_r_Table]) _ (op_loadBox st_29 rfl (BoxAt.lift hS16.ext hx6) rfl rfl) rfl ?_
    obtain ⟨x19, hx20, h⟩ := bs h
    refine WL.call _ (op_call fn_84 (args1 rfl)) (c_impl_Ring_dualFault (Ty.lift _ (Ext.trans hE7 hS16.ext) r_r_Table) hx20) rfl ?_
    rintro _ wd22 ⟨rfl, hr21, he23⟩
    have hS25 := St.extend hS16 he23
    replace hS25 : St wd2 wd22 [(Ty.sl (Ty.i .i64)).at u11 x9] := hS25
    refine WL.val (Value.int .i64 x19) _ (op_assign rfl) rfl ?_
    refine WL.nil ?_
    show W _ _ _ _ _ _
    refine W.seq ?_
    refine W.region ?_
    refine WL.val (Value.int .i64 x19) _ (op_move rfl) rfl ?_
    refine WL.val (Value.bool (decide (x19 ≥ (0 : Int)))) _ (op_geq rfl rfl) rfl ?_
    refine WL.nil ?_
    show W _ _ _ _ _ _
    refine W.cond (decide (x19 ≥ (0 : Int))) rfl (fun hc26 => ?_) (fun hc26 => ?_)
    · replace h := ip h hc26
      refine W.seq ?_
      refine W.region ?_
      refine WL.val (Value.int .i64 x19) _ (op_move rfl) rfl ?_
      refine WL.litFlat (t := (Ty.i .i64)) (flat_i .i64) [(Value.int .i64 (1 : Int)), (Value.int .i64 x19)] [(1 : Int), x19] hS25 sl_25 rfl rfl (fillL rfl ⟨rfl, rfl, rfl, rfl, rfl, rfl, trivial⟩) rfl rfl (litL ⟨⟨rfl, (inR_i64.2 (show (-9223372036854775808 : Int) ≤ 1 ∧ (1 : Int) ≤ 9223372036854775807 from by decide))⟩, ⟨rfl, hr21⟩, trivial⟩) rfl ?_
      intro u28 wd29 hS30 he31
      replace hS30 : St wd2 wd29 [(Ty.sl (Ty.i .i64)).at u11 x9, (Ty.sl (Ty.i .i64)).at u28 ([(1 : Int), x19] : (List Int))] := hS30
      refine WL.val u28 _ (op_assign rfl) rfl ?_
      refine WL.nil ?_
      show W _ _ _ _ _ _
      refine W.ret ?_
      obtain rfl := Option.some.inj h
      show FinP _ _ _ _ _ _ _
      exact FinP.ret _ (res1 rfl rfl) ⟨u28, rfl, (nil_cons), (Ext.trans hE7 hS30.ext), (St.out (St.pick hS30 [1] rfl) (hE7))⟩
    · replace h := inegb h hc26
      refine W.skip ?_
      show W _ _ _ _ _ _
      refine W.seq ?_
      refine W.seq ?_
      refine W.region ?_
      refine WL.val (Value.agg #[v_r_Table]) _ (op_loadBox st_29 rfl (BoxAt.lift hS25.ext hx6) rfl rfl) rfl ?_
      obtain ⟨x32, hx33, h⟩ := bs h
      refine WL.call _ (op_call fn_85 (args1 rfl)) (c_impl_Ring_turnFault (Ty.lift _ (Ext.trans hE7 hS25.ext) r_r_Table) hx33) rfl ?_
      rintro u34 wd36 ⟨_, rfl, hn35, he37, hs38⟩
      have hS39 := St.join hS25 he37 hs38
      replace hS39 : St wd2 wd36 [(Ty.sl (Ty.i .i64)).at u11 x9, (Ty.sl (Ty.i .i64)).at u34 x32] := hS39
      refine WL.val u34 _ (op_assign rfl) rfl ?_
      refine WL.nil ?_
      show W _ _ _ _ _ _
      refine W.seq ?_
      refine W.region ?_
      refine WL.val u34 _ (op_move rfl) rfl ?_
      refine WL.val (Value.bool (!(x32).isEmpty)) _ (op_neqNilL sl_25 (St.rep (t := (Ty.sl (Ty.i .i64))) hS39 1 rfl) hn35 rfl rfl) rfl ?_
      refine WL.nil ?_
      show W _ _ _ _ _ _
      refine W.cond (!(x32).isEmpty) rfl (fun hc40 => ?_) (fun hc40 => ?_)
      · replace h := ip h hc40
        refine W.seq ?_
        refine W.region ?_
        refine WL.val u34 _ (op_move rfl) rfl ?_
        refine WL.val u34 _ (op_assign rfl) rfl ?_
        refine WL.nil ?_
        show W _ _ _ _ _ _
        refine W.ret ?_
        obtain rfl := Option.some.inj h
        show FinP _ _ _ _ _ _ _
        exact FinP.ret _ (res1 rfl rfl) ⟨u34, rfl, hn35, (Ext.trans hE7 hS39.ext), (St.out (St.pick hS39 [1] rfl) (hE7))⟩
      · replace h := inegb h hc40
        refine W.skip ?_
        show W _ _ _ _ _ _
        refine W.seq ?_
        refine W.region ?_
        refine WL.val (Value.agg #[v_r_Table]) _ (op_loadBox st_29 rfl (BoxAt.lift hS39.ext hx6) rfl rfl) rfl ?_
        obtain ⟨x42, hx43, h⟩ := bs h
        refine WL.call _ (op_call fn_86 (args1 rfl)) (c_impl_Ring_bracketFault (Ty.lift _ (Ext.trans hE7 hS39.ext) r_r_Table) hx43) rfl ?_
        rintro u44 wd46 ⟨_, rfl, hn45, he47, hs48⟩
        have hS49 := St.join hS39 he47 hs48
        replace hS49 : St wd2 wd46 [(Ty.sl (Ty.i .i64)).at u11 x9, (Ty.sl (Ty.i .i64)).at u34 x32, (Ty.sl (Ty.i .i64)).at u44 x42] := hS49
        refine WL.val u44 _ (op_assign rfl) rfl ?_
        refine WL.nil ?_
        show W _ _ _ _ _ _
        refine W.ret ?_
        obtain rfl := Option.some.inj h
        show FinP _ _ _ _ _ _ _
        exact FinP.ret _ (res1 rfl rfl) ⟨u44, rfl, hn45, (Ext.trans hE7 hS49.ext), (St.out (St.pick hS49 [2] rfl) (hE7))⟩

theorem c_impl_IsRing {w : World} {r_Table : (List (List (List Int)))} {v_r_Table : Value} (r_r_Table : (Ty.sl (Ty.sl (Ty.sl (Ty.i .i64)))).rep w v_r_Table r_Table) {res : Bool} (h : p_impl_IsRing r_Table  = some res) :
    Ret Try.prog 41 #[(Value.agg #[v_r_Table])] w (fun v w' => v = Value.bool res ∧ Ext w w') := by
  unfold p_impl_IsRing at h
  have hS0 : St w w [] := St.start w
  refine Ret.start (fn := Try.f41) Try.func41 rfl 10 rfl rfl ?_
  refine W.seq ?_
  refine W.region ?_
  refine WL.box hS0 rfl (cs := [v_r_Table]) rfl rfl ?_
  intro b1 wd2 hS3 he4 hx5
  replace hS3 : St w wd2 [bx b1 [v_r_Table]] := hS3
  have hx6 := St.boxAt hS3 0 rfl
  have hE7 : Ext w wd2 := hS3.ext
  have hS8 : St wd2 wd2 [] := St.start wd2
  refine WL.val (Value.bool false) _ (op_assign rfl) rfl ?_
  refine WL.nil ?_
  show W _ _ _ _ _ _
  refine W.seq ?_
  refine W.region ?_
  refine WL.val (Value.agg #[v_r_Table]) _ (op_loadBox st_29 rfl (BoxAt.lift hS8.ext hx6) rfl rfl) rfl ?_
  obtain ⟨x9, hx10, h⟩ := bs h
  refine WL.call _ (op_call fn_66 (args1 rfl)) (c_impl_isCube (Ty.lift _ (Ext.trans hE7 hS8.ext) r_r_Table) hx10) rfl ?_
  rintro _ wd11 ⟨rfl, he12⟩
  have hS14 := St.extend hS8 he12
  replace hS14 : St wd2 wd11 [] := hS14
  refine WL.val (Value.bool x9) _ (op_move rfl) rfl ?_
  obtain ⟨x16, hj17, h⟩ := bs h
  refine WL.cut 4 (fun fq wq => fq 9 = Value.bool x16 ∧ St wd2 wq []) ?_ ?_
  · rcases Bool.eq_false_or_eq_true x9 with hc15 | hc15
    · replace hj17 := ip hj17 hc15
      refine WL.grun rfl (bool_of rfl hc15) ?_
      refine WL.val (Value.agg #[v_r_Table]) _ (op_loadBox st_29 rfl (BoxAt.lift hS14.ext hx6) rfl rfl) rfl ?_
      refine WL.grun rfl (bool_of rfl hc15) ?_
      obtain ⟨x21, hx22, hj17⟩ := bs hj17
      refine WL.call _ (op_call fn_67 (args1 rfl)) (c_impl_Ring_fault (Ty.lift _ (Ext.trans hE7 hS14.ext) r_r_Table) hx22) rfl ?_
      rintro u23 wd25 ⟨_, rfl, hn24, he26, hs27⟩
      have hS28 := St.join hS14 he26 hs27
      replace hS28 : St wd2 wd25 [(Ty.sl (Ty.i .i64)).at u23 x21] := hS28
      refine WL.grun rfl (bool_of rfl hc15) ?_
      refine WL.val (Value.bool (x21).isEmpty) _ (op_eqlNilL sl_25 (St.rep (t := (Ty.sl (Ty.i .i64))) hS28 0 rfl) hn24 rfl rfl) rfl ?_
      refine WL.val (Value.bool (x21).isEmpty) _ (op_pick_t (evb_of rfl hc15) rfl) rfl ?_
      refine WL.nil ?_
      obtain rfl := Option.some.inj hj17
      exact ⟨rfl, rfl, (St.pick hS28 [] rfl)⟩
    · replace hj17 := inegb hj17 hc15
      refine WL.gskip rfl (bool_of rfl hc15) rfl ?_
      refine WL.gskip rfl (bool_of rfl hc15) rfl ?_
      refine WL.gskip rfl (bool_of rfl hc15) rfl ?_
      refine WL.val (Value.bool false) _ (op_pick_f (evb_of rfl hc15) rfl) rfl ?_
      refine WL.nil ?_
      obtain rfl := Option.some.inj hj17
      exact ⟨rfl, rfl, hS14⟩
  · intro f18 wd19 hq20
    obtain ⟨hf29, hS30⟩ := hq20
    refine WL.val (Value.bool x16) _ (op_assign hf29) rfl ?_
    refine WL.nil ?_
    show W _ _ _ _ _ _
    refine W.ret ?_
    obtain rfl := Option.some.inj h
    show FinP _ _ _ _ _ _ _
    exact FinP.ret _ (res1 rfl rfl) ⟨rfl, (Ext.trans hE7 hS30.ext)⟩

theorem c_impl_Ring_isVector {w : World} {r_Table : (List (List (List Int)))} {v_r_Table : Value} {x : (List Int)} {v_x : Value} (r_r_Table : (Ty.sl (Ty.sl (Ty.sl (Ty.i .i64)))).rep w v_r_Table r_Table) (r_x : (Ty.sl (Ty.i .i64)).rep w v_x x) {res : Bool} (h : p_impl_Ring_isVector r_Table x  = some res) :
    Ret Try.prog 42 #[(Value.agg #[v_r_Table]), v_x] w (fun v w' => v = Value.bool res ∧ Ext w w') := by
  unfold p_impl_Ring_isVector at h
  have hS0 : St w w [] := St.start w
  refine Ret.start (fn := Try.f42) Try.func42 rfl 15 rfl rfl ?_
  refine W.seq ?_
  refine W.region ?_
  refine WL.box hS0 rfl (cs := [v_r_Table]) rfl rfl ?_
  intro b1 wd2 hS3 he4 hx5
  replace hS3 : St w wd2 [bx b1 [v_r_Table]] := hS3
  have hx6 := St.boxAt hS3 0 rfl
  have hE7 : Ext w wd2 := hS3.ext
  have hS8 : St wd2 wd2 [] := St.start wd2
  refine WL.val (Value.bool false) _ (op_assign rfl) rfl ?_
  refine WL.nil ?_
  show W _ _ _ _ _ _
  refine W.seq ?_
  refine W.region ?_
  refine WL.val v_x _ (op_move rfl) rfl ?_
  have hr9 := inR_len (Ty.lift _ (Ext.trans hE7 hS8.ext) r_x)
  refine WL.val (Value.int .i64 ((x).length : Int)) _ (op_lenL sl_25 (Ty.lift _ (Ext.trans hE7 hS8.ext) r_x) rfl) rfl ?_
  refine WL.val (Value.pointer (some ⟨b1, 0, none⟩)) _ (op_fieldAddr fd_29_0 rfl) rfl ?_
  refine WL.val v_r_Table _ (op_load one_22 rfl (BoxAt.cell (BoxAt.lift hS8.ext hx6) rfl)) rfl ?_
  have hr10 := inR_len (Ty.lift _ (Ext.trans hE7 hS8.ext) r_r_Table)
  refine WL.val (Value.int .i64 ((r_Table).length : Int)) _ (op_lenL sl_22 (Ty.lift _ (Ext.trans hE7 hS8.ext) r_r_Table) rfl) rfl ?_
  refine WL.val (Value.bool (((x).length : Int) == ((r_Table).length : Int))) _ (op_eql rfl rfl) rfl ?_
  refine WL.val (Value.bool (((x).length : Int) == ((r_Table).length : Int))) _ (op_move rfl) rfl ?_
  obtain ⟨x12, hj13, h⟩ := bs h
  refine WL.cut 3 (fun fq wq => fq 14 = Value.bool x12 ∧ St wd2 wq []) ?_ ?_
  · rcases Bool.eq_false_or_eq_true (((x).length : Int) == ((r_Table).length : Int)) with hc11 | hc11
    · replace hj13 := ip hj13 hc11
      refine WL.grun rfl (bool_of rfl hc11) ?_
      refine WL.val v_x _ (op_move rfl) rfl ?_
      refine WL.grun rfl (bool_of rfl hc11) ?_
      obtain ⟨x17, hx18, hj13⟩ := bs hj13
      refine WL.call _ (op_call fn_68 (args3 rfl rfl rfl)) (c_impl_allWithin (Ty.lift _ (Ext.trans hE7 hS8.ext) r_x) (inR_i64.2 (show (-9223372036854775808 : Int) ≤ 0 ∧ (0 : Int) ≤ 9223372036854775807 from by decide)) (inR_i64.2 (show (-9223372036854775808 : Int) ≤ 1000000 ∧ (1000000 : Int) ≤ 9223372036854775807 from by decide)) hx18) rfl ?_
      rintro _ wd19 ⟨rfl, he20⟩
      have hS22 := St.extend hS8 he20
      replace hS22 : St wd2 wd19 [] := hS22
      refine WL.val (Value.bool x17) _ (op_pick_t (evb_of rfl hc11) rfl) rfl ?_
      refine WL.nil ?_
      obtain rfl := Option.some.inj hj13
      exact ⟨rfl, rfl, hS22⟩
    · replace hj13 := inegb hj13 hc11
      refine WL.gskip rfl (bool_of rfl hc11) rfl ?_
      refine WL.gskip rfl (bool_of rfl hc11) rfl ?_
      refine WL.val (Value.bool false) _ (op_pick_f (evb_of rfl hc11) rfl) rfl ?_
      refine WL.nil ?_
      obtain rfl := Option.some.inj hj13
      exact ⟨rfl, rfl, hS8⟩
  · intro f14 wd15 hq16
    obtain ⟨hf23, hS24⟩ := hq16
    refine WL.val (Value.bool x12) _ (op_assign hf23) rfl ?_
    refine WL.nil ?_
    show W _ _ _ _ _ _
    refine W.ret ?_
    obtain rfl := Option.some.inj h
    show FinP _ _ _ _ _ _ _
    exact FinP.ret _ (res1 rfl rfl) ⟨rfl, (Ext.trans hE7 hS24.ext)⟩

theorem c_slices_Min_Lint64_int64 {w : World} {x : (List Int)} {v_x : Value} (r_x : (Ty.sl (Ty.i .i64)).rep w v_x x) {res : Int} (h : p_slices_Min_Lint64_int64 x  = some res) :
    Ret Try.prog 69 #[v_x] w (fun v w' => v = Value.int .i64 res ∧ InR .i64 res ∧ Ext w w') := by
  unfold p_slices_Min_Lint64_int64 at h
  have hS0 : St w w [] := St.start w
  refine Ret.start (fn := Try.f69) Try.func69 rfl 25 rfl rfl ?_
  refine W.seq ?_
  refine W.region ?_
  refine WL.val (Value.int .i64 (0 : Int)) _ (op_assign rfl) rfl ?_
  refine WL.nil ?_
  show W _ _ _ _ _ _
  refine W.seq ?_
  refine W.seq ?_
  refine W.region ?_
  refine WL.val v_x _ (op_move rfl) rfl ?_
  have hr1 := inR_len (Ty.lift _ hS0.ext r_x)
  refine WL.val (Value.int .i64 ((x).length : Int)) _ (op_lenL sl_25 (Ty.lift _ hS0.ext r_x) rfl) rfl ?_
  refine WL.val (Value.bool (decide (((x).length : Int) < (1 : Int)))) _ (op_lss rfl rfl) rfl ?_
  refine WL.nil ?_
  show W _ _ _ _ _ _
  obtain ⟨⟨⟩, hj2, h⟩ := bs h
  refine W.cutCode (fun fq wq => fq 0 = v_x ∧ St w wq []) ?_ ?_
  · refine W.cond (decide (((x).length : Int) < (1 : Int))) rfl (fun hc3 => ?_) (fun hc3 => ?_)
    · replace hj2 := ip hj2 hc3
      refine W.region ?_
      exact (none_some hj2).elim
    · replace hj2 := inegb hj2 hc3
      refine W.skip ?_
      exact ⟨rfl, hS0⟩
  · intro f4 wd5 hq6
    obtain ⟨hf7, hS8⟩ := hq6
    show W _ _ _ _ _ _
    refine W.seq ?_
    refine W.region ?_
    refine WL.val v_x _ (op_move hf7) rfl ?_
    obtain ⟨x9, hx12, h⟩ := bs h
    obtain ⟨ha10, hb11, hx12⟩ := idx_some hx12
    refine WL.val (Value.pointer (some (elA v_x ((0 : Int)).toNat))) _ (op_idx sl_25 (Ty.lift _ hS8.ext r_x) rfl rfl ha10 hb11) rfl ?_
    obtain ⟨u13, hc14, hr15⟩ := repSl.el r_x hx12
    obtain ⟨rfl, hr15⟩ := hr15
    refine WL.val (Value.int .i64 x9) _ (op_load one_2 rfl (Ext.cell hS8.ext hc14)) rfl ?_
    refine WL.val (Value.int .i64 x9) _ (op_assign rfl) rfl ?_
    refine WL.nil ?_
    show W _ _ _ _ _ _
    refine W.seq ?_
    refine W.seq ?_
    refine W.region ?_
    refine WL.val (Value.int .i64 (1 : Int)) _ (op_assign rfl) rfl ?_
    refine WL.nil ?_
    show W _ _ _ _ _ _
    obtain ⟨res16, hres17, h⟩ := bs h
    refine W.blockLoop (fun fq wq => ∃ s, res16 = Res.fin s ∧ fq 3 = Value.int .i64 s ∧ InR .i64 s ∧ St w wq []) ?_ ?_
    · refine W.forN (fun k s fq wq => fq 0 = v_x ∧ fq 3 = Value.int .i64 s ∧ InR .i64 s ∧ fq 4 = Value.int .i64 ((1 : Int) + (k : Int)) ∧ InR .i64 ((1 : Int) + (k : Int)) ∧ St w wq []) hres17 ⟨hf7, rfl, hr15, rfl, (inR_i64.2 (show (-9223372036854775808 : Int) ≤ 1 ∧ (1 : Int) ≤ 9223372036854775807 from by decide)), hS8⟩ ?_ ?_
      · intro k18 x19 ct20 f21 wd22 hk23 hb24 hI25 hbrk26 hret27
        replace hI25 : f21 0 = v_x ∧ f21 3 = Value.int .i64 x19 ∧ InR .i64 x19 ∧ f21 4 = Value.int .i64 ((1 : Int) + (k18 : Int)) ∧ InR .i64 ((1 : Int) + (k18 : Int)) ∧ St w wd22 [] := hI25
        replace hb24 : p_slices_Min_Lint64_int64_L1 x k18 x19 = some ct20 := hb24
        unfold p_slices_Min_Lint64_int64_L1 at hb24
        obtain ⟨hf28, hf29, hr30, hf31, hr32, hS33⟩ := hI25
        refine W.seq ?_
        refine W.seq ?_
        refine W.region ?_
        refine WL.val (Value.int .i64 ((1 : Int) + (k18 : Int))) _ (op_move hf31) rfl ?_
        refine WL.val v_x _ (op_move hf28) rfl ?_
        have hr34 := inR_len (Ty.lift _ hS33.ext r_x)
        refine WL.val (Value.int .i64 ((x).length : Int)) _ (op_lenL sl_25 (Ty.lift _ hS33.ext r_x) rfl) rfl ?_
        refine WL.val (Value.bool (decide (((1 : Int) + (k18 : Int)) < ((x).length : Int)))) _ (op_lss rfl rfl) rfl ?_
        have hl35 : ((1 : Int) + (k18 : Int)) < ((x).length : Int) := by omega
        refine WL.nil ?_
        show W _ _ _ _ _ _
        refine W.condT (decide (((1 : Int) + (k18 : Int)) < ((x).length : Int))) rfl (decide_eq_true hl35) ?_
        refine W.skip ?_
        show W _ _ _ _ _ _
        refine W.seq ?_
        refine W.block ?_
        refine W.region ?_
        refine WL.val (Value.int .i64 x19) _ (op_move hf29) rfl ?_
        refine WL.val v_x _ (op_move hf28) rfl ?_
        refine WL.val (Value.int .i64 ((1 : Int) + (k18 : Int))) _ (op_move hf31) rfl ?_
        obtain ⟨x37, hx40, hb24⟩ := bs hb24
        obtain ⟨ha38, hb39, hx40⟩ := idx_some hx40
        refine WL.val (Value.pointer (some (elA v_x (((1 : Int) + (k18 : Int))).toNat))) _ (op_idx sl_25 (Ty.lift _ hS33.ext r_x) rfl rfl ha38 hb39) rfl ?_
        obtain ⟨u41, hc42, hr43⟩ := repSl.el r_x hx40
        obtain ⟨rfl, hr43⟩ := hr43
        refine WL.val (Value.int .i64 x37) _ (op_load one_2 rfl (Ext.cell hS33.ext hc42)) rfl ?_
        refine WL.val (Value.int .i64 (if x37 < x19 then x37 else x19)) _ (op_min2 rfl rfl) rfl ?_
        refine WL.val (Value.int .i64 (if x37 < x19 then x37 else x19)) _ (op_assign rfl) rfl ?_
        refine WL.nil ?_
        show W _ _ _ _ _ _
        refine W.region ?_
        refine WL.val (Value.int .i64 ((1 : Int) + (k18 : Int))) _ (op_move hf31) rfl ?_
        refine WL.val (Value.int .i64 (w64 (((1 : Int) + (k18 : Int)) + (1 : Int)))) _ (op_add rfl rfl) rfl ?_
        refine WL.val (Value.int .i64 (w64 (((1 : Int) + (k18 : Int)) + (1 : Int)))) _ (op_assign rfl) rfl ?_
        refine WL.nil ?_
        obtain rfl := Option.some.inj hb24
        show ∃ s, _ = Ctl.next s ∧ _
        exact ⟨_, rfl, hf28, rfl, (inR_ite hr43 hr30), (ctrS_next hl35 hr34 (inR_i64.2 (show (-9223372036854775808 : Int) ≤ 1 ∧ (1 : Int) ≤ 9223372036854775807 from by decide))), (ctrS_rng hl35 hr34 (inR_i64.2 (show (-9223372036854775808 : Int) ≤ 1 ∧ (1 : Int) ≤ 9223372036854775807 from by decide))), hS33⟩
      · intro x50 f45 wd46 hs47 hI48
        replace hI48 : f45 0 = v_x ∧ f45 3 = Value.int .i64 x50 ∧ InR .i64 x50 ∧ f45 4 = Value.int .i64 ((1 : Int) + (((((x).length : Int) - (1 : Int)).toNat : Nat) : Int)) ∧ InR .i64 ((1 : Int) + (((((x).length : Int) - (1 : Int)).toNat : Nat) : Int)) ∧ St w wd46 [] := hI48
        obtain ⟨hf51, hf52, hr53, hf54, hr55, hS56⟩ := hI48
        refine W.seq ?_
        refine W.seq ?_
        refine W.region ?_
        refine WL.val (Value.int .i64 ((1 : Int) + (((((x).length : Int) - (1 : Int)).toNat : Nat) : Int))) _ (op_move hf54) rfl ?_
        refine WL.val v_x _ (op_move hf51) rfl ?_
        have hr57 := inR_len (Ty.lift _ hS56.ext r_x)
        refine WL.val (Value.int .i64 ((x).length : Int)) _ (op_lenL sl_25 (Ty.lift _ hS56.ext r_x) rfl) rfl ?_
        refine WL.val (Value.bool (decide (((1 : Int) + (((((x).length : Int) - (1 : Int)).toNat : Nat) : Int)) < ((x).length : Int)))) _ (op_lss rfl rfl) rfl ?_
        have hl58 : ¬ ((1 : Int) + (((((x).length : Int) - (1 : Int)).toNat : Nat) : Int)) < ((x).length : Int) := by omega
        refine WL.nil ?_
        show W _ _ _ _ _ _
        refine W.condF (decide (((1 : Int) + (((((x).length : Int) - (1 : Int)).toNat : Nat) : Int)) < ((x).length : Int))) rfl (decide_eq_false hl58) ?_
        refine W.exit ?_
        show _ = _ ∧ _
        exact ⟨rfl, _, hs47, hf52, hr53, hS56⟩
    · rintro f59 wd60 ⟨x63, rfl, hq61⟩
      replace h := onRes_fin h
      replace hq61 : f59 3 = Value.int .i64 x63 ∧ InR .i64 x63 ∧ St w wd60 [] := hq61
      obtain ⟨hf64, hr65, hS66⟩ := hq61
      show W _ _ _ _ _ _
      refine W.seq ?_
      refine W.region ?_
      refine WL.val (Value.int .i64 x63) _ (op_move hf64) rfl ?_
      refine WL.val (Value.int .i64 x63) _ (op_assign rfl) rfl ?_
      refine WL.nil ?_
      show W _ _ _ _ _ _
      refine W.ret ?_
      obtain rfl := Option.some.inj h
      show FinP _ _ _ _ _ _ _
      exact FinP.ret _ (res1 rfl rfl) ⟨rfl, hr65, hS66.ext⟩

theorem c_impl_Ring_isDimension {w : World} {r_Table : (List (List (List Int)))} {v_r_Table : Value} {d : (List Int)} {v_d : Value} (r_r_Table : (Ty.sl (Ty.sl (Ty.sl (Ty.i .i64)))).rep w v_r_Table r_Table) (r_d : (Ty.sl (Ty.i .i64)).rep w v_d d) {res : Bool} (h : p_impl_Ring_isDimension r_Table d  = some res) :
    Ret Try.prog 43 #[(Value.agg #[v_r_Table]), v_d] w (fun v w' => v = Value.bool res ∧ Ext w w') := by
  unfold p_impl_Ring_isDimension at h
  have hS0 : St w w [] := St.start w
  refine Ret.start (fn := Try.f43) Try.func43 rfl 59 rfl rfl ?_
  refine W.seq ?_
  refine W.region ?_
  refine WL.box hS0 rfl (cs := [v_r_Table]) rfl rfl ?_
  intro b1 wd2 hS3 he4 hx5
  replace hS3 : St w wd2 [bx b1 [v_r_Table]] := hS3
  have hx6 := St.boxAt hS3 0 rfl
  have hE7 : Ext w wd2 := hS3.ext
  have hS8 : St wd2 wd2 [] := St.start wd2
  refine WL.val (Value.bool false) _ (op_assign rfl) rfl ?_
  refine WL.nil ?_
  show W _ _ _ _ _ _
  refine W.seq ?_
  refine W.seq ?_
  refine W.region ?_
  refine WL.val (Value.pointer (some ⟨b1, 0, none⟩)) _ (op_fieldAddr fd_29_0 rfl) rfl ?_
  refine WL.val v_r_Table _ (op_load one_22 rfl (BoxAt.cell (BoxAt.lift hS8.ext hx6) rfl)) rfl ?_
  have hr9 := inR_len (Ty.lift _ (Ext.trans hE7 hS8.ext) r_r_Table)
  refine WL.val (Value.int .i64 ((r_Table).length : Int)) _ (op_lenL sl_22 (Ty.lift _ (Ext.trans hE7 hS8.ext) r_r_Table) rfl) rfl ?_
  refine WL.val (Value.int .i64 (0 : Int)) _ (op_move rfl) rfl ?_
  refine WL.nil ?_
  show W _ _ _ _ _ _
  obtain ⟨res10, hres11, h⟩ := bs h
  refine W.blockLoop (fun fq wq => ∃ s, res10 = Res.fin s ∧ fq 1 = v_d ∧ St wd2 wq []) ?_ ?_
  · refine W.forN (fun k s fq wq => fq 1 = v_d ∧ fq 13 = v_r_Table ∧ fq 14 = (Value.int .i64 ((r_Table).length : Int)) ∧ fq 15 = Value.int .i64 (k : Int) ∧ InR .i64 (k : Int) ∧ St wd2 wq []) hres11 ⟨rfl, rfl, rfl, rfl, (inR_i64.2 (show (-9223372036854775808 : Int) ≤ 0 ∧ (0 : Int) ≤ 9223372036854775807 from by decide)), hS8⟩ ?_ ?_
    · intro k12 s292 ct13 f14 wd15 hk16 hb17 hI18 hbrk19 hret20
      obtain ⟨⟩ := s292
      replace hI18 : f14 1 = v_d ∧ f14 13 = v_r_Table ∧ f14 14 = (Value.int .i64 ((r_Table).length : Int)) ∧ f14 15 = Value.int .i64 (k12 : Int) ∧ InR .i64 (k12 : Int) ∧ St wd2 wd15 [] := hI18
      replace hb17 : p_impl_Ring_isDimension_L1 r_Table d k12  = some ct13 := hb17
      unfold p_impl_Ring_isDimension_L1 at hb17
      obtain ⟨hf21, hf22, hf23, hf24, hr25, hS26⟩ := hI18
      refine W.seq ?_
      refine W.region ?_
      refine WL.val (Value.bool (decide ((k12 : Int) < ((r_Table).length : Int)))) _ (op_lss hf24 hf23) rfl ?_
      have hl27 : (k12 : Int) < ((r_Table).length : Int) := by omega
      refine WL.nil ?_
      show W _ _ _ _ _ _
      refine W.seq ?_
      refine W.condT (decide ((k12 : Int) < ((r_Table).length : Int))) rfl (decide_eq_true hl27) ?_
      refine W.skip ?_
      show W _ _ _ _ _ _
      refine W.seq ?_
      refine W.block ?_
      refine W.seq ?_
      refine W.region ?_
      refine WL.val (Value.int .i64 (k12 : Int)) _ (op_move hf24) rfl ?_
      obtain ⟨x29, hx32, hb17⟩ := bs hb17
      obtain ⟨ha30, hb31, hx32⟩ := idx_some hx32
      refine WL.val (Value.pointer (some (elA v_r_Table ((k12 : Int)).toNat))) _ (op_idx sl_22 (Ty.lift _ (Ext.trans hE7 hS26.ext) r_r_Table) hf22 hf24 ha30 hb31) rfl ?_
      obtain ⟨u33, hc34, hr35⟩ := repSl.el r_r_Table hx32
      refine WL.val u33 _ (op_load one_61 rfl (Ext.cell (Ext.trans hE7 hS26.ext) hc34)) rfl ?_
      refine WL.val (Value.int .i64 (k12 : Int)) _ (op_assign rfl) rfl ?_
      refine WL.val u33 _ (op_assign rfl) rfl ?_
      refine WL.nil ?_
      show W _ _ _ _ _ _
      refine W.seq ?_
      refine W.region ?_
      refine WL.val u33 _ (op_move rfl) rfl ?_
      have hr36 := inR_len (Ty.lift _ (Ext.trans hE7 hS26.ext) hr35)
      refine WL.val (Value.int .i64 ((x29).length : Int)) _ (op_lenL sl_61 (Ty.lift _ (Ext.trans hE7 hS26.ext) hr35) rfl) rfl ?_
      refine WL.val (Value.int .i64 (0 : Int)) _ (op_move rfl) rfl ?_
      refine WL.nil ?_
      show W _ _ _ _ _ _
      obtain ⟨res37, hres38, hb17⟩ := bs hb17
      refine W.blockLoop (fun fq wq => ∃ s, res37 = Res.fin s ∧ fq 1 = v_d ∧ fq 13 = v_r_Table ∧ fq 14 = (Value.int .i64 ((r_Table).length : Int)) ∧ fq 15 = (Value.int .i64 (k12 : Int)) ∧ St wd2 wq []) ?_ ?_
      · refine W.forN (fun k s fq wq => fq 1 = v_d ∧ fq 5 = (Value.int .i64 (k12 : Int)) ∧ fq 13 = v_r_Table ∧ fq 14 = (Value.int .i64 ((r_Table).length : Int)) ∧ fq 15 = (Value.int .i64 (k12 : Int)) ∧ fq 20 = u33 ∧ fq 21 = (Value.int .i64 ((x29).length : Int)) ∧ fq 22 = Value.int .i64 (k : Int) ∧ InR .i64 (k : Int) ∧ St wd2 wq []) hres38 ⟨hf21, rfl, hf22, hf23, hf24, rfl, rfl, rfl, (inR_i64.2 (show (-9223372036854775808 : Int) ≤ 0 ∧ (0 : Int) ≤ 9223372036854775807 from by decide)), hS26⟩ ?_ ?_
        · intro k39 s265 ct40 f41 wd42 hk43 hb44 hI45 hbrk46 hret47
          obtain ⟨⟩ := s265
          replace hI45 : f41 1 = v_d ∧ f41 5 = (Value.int .i64 (k12 : Int)) ∧ f41 13 = v_r_Table ∧ f41 14 = (Value.int .i64 ((r_Table).length : Int)) ∧ f41 15 = (Value.int .i64 (k12 : Int)) ∧ f41 20 = u33 ∧ f41 21 = (Value.int .i64 ((x29).length : Int)) ∧ f41 22 = Value.int .i64 (k39 : Int) ∧ InR .i64 (k39 : Int) ∧ St wd2 wd42 [] := hI45
          replace hb44 : p_impl_Ring_isDimension_L2 x29 d k12 k39  = some ct40 := hb44
          unfold p_impl_Ring_isDimension_L2 at hb44
          obtain ⟨hf48, hf49, hf50, hf51, hf52, hf53, hf54, hf55, hr56, hS57⟩ := hI45
          refine W.seq ?_
          refine W.region ?_
          refine WL.val (Value.bool (decide ((k39 : Int) < ((x29).length : Int)))) _ (op_lss hf55 hf54) rfl ?_
          have hl58 : (k39 : Int) < ((x29).length : Int) := by omega
          refine WL.nil ?_
          show W _ _ _ _ _ _
          refine W.seq ?_
          refine W.condT (decide ((k39 : Int) < ((x29).length : Int))) rfl (decide_eq_true hl58) ?_
          refine W.skip ?_
          show W _ _ _ _ _ _
          refine W.seq ?_
          refine W.block ?_
          refine W.seq ?_
          refine W.region ?_
          refine WL.val (Value.int .i64 (k39 : Int)) _ (op_move hf55) rfl ?_
          obtain ⟨x60, hx63, hb44⟩ := bs hb44
          obtain ⟨ha61, hb62, hx63⟩ := idx_some hx63
          refine WL.val (Value.pointer (some (elA u33 ((k39 : Int)).toNat))) _ (op_idx sl_61 (Ty.lift _ (Ext.trans hE7 hS57.ext) hr35) hf53 hf55 ha61 hb62) rfl ?_
          obtain ⟨u64, hc65, hr66⟩ := repSl.el hr35 hx63
          refine WL.val u64 _ (op_load one_25 rfl (Ext.cell (Ext.trans hE7 hS57.ext) hc65)) rfl ?_
          refine WL.val (Value.int .i64 (k39 : Int)) _ (op_assign rfl) rfl ?_
          refine WL.val u64 _ (op_assign rfl) rfl ?_
          refine WL.nil ?_
          show W _ _ _ _ _ _
          refine W.seq ?_
          refine W.region ?_
          refine WL.val (Value.int .i64 (0 : Int)) _ (op_assign rfl) rfl ?_
          refine WL.nil ?_
          show W _ _ _ _ _ _
          refine W.seq ?_
          refine W.seq ?_
          refine W.region ?_
          refine WL.val u64 _ (op_move rfl) rfl ?_
          have hr67 := inR_len (Ty.lift _ (Ext.trans hE7 hS57.ext) hr66)
          refine WL.val (Value.int .i64 ((x60).length : Int)) _ (op_lenL sl_25 (Ty.lift _ (Ext.trans hE7 hS57.ext) hr66) rfl) rfl ?_
          refine WL.val (Value.int .i64 (0 : Int)) _ (op_move rfl) rfl ?_
          refine WL.nil ?_
          show W _ _ _ _ _ _
          obtain ⟨res68, hres69, hb44⟩ := bs hb44
          refine W.blockLoop (fun fq wq => ∃ s, res68 = Res.fin s ∧ fq 1 = v_d ∧ fq 5 = (Value.int .i64 (k12 : Int)) ∧ fq 7 = (Value.int .i64 (k39 : Int)) ∧ fq 9 = Value.int .i64 s ∧ InR .i64 s ∧ fq 13 = v_r_Table ∧ fq 14 = (Value.int .i64 ((r_Table).length : Int)) ∧ fq 15 = (Value.int .i64 (k12 : Int)) ∧ fq 20 = u33 ∧ fq 21 = (Value.int .i64 ((x29).length : Int)) ∧ fq 22 = (Value.int .i64 (k39 : Int)) ∧ St wd2 wq []) ?_ ?_
          · refine W.forN (fun k s fq wq => fq 1 = v_d ∧ fq 5 = (Value.int .i64 (k12 : Int)) ∧ fq 7 = (Value.int .i64 (k39 : Int)) ∧ fq 9 = Value.int .i64 s ∧ InR .i64 s ∧ fq 13 = v_r_Table ∧ fq 14 = (Value.int .i64 ((r_Table).length : Int)) ∧ fq 15 = (Value.int .i64 (k12 : Int)) ∧ fq 20 = u33 ∧ fq 21 = (Value.int .i64 ((x29).length : Int)) ∧ fq 22 = (Value.int .i64 (k39 : Int)) ∧ fq 27 = u64 ∧ fq 28 = (Value.int .i64 ((x60).length : Int)) ∧ fq 29 = Value.int .i64 (k : Int) ∧ InR .i64 (k : Int) ∧ St wd2 wq []) hres69 ⟨hf48, hf49, rfl, rfl, (inR_i64.2 (show (-9223372036854775808 : Int) ≤ 0 ∧ (0 : Int) ≤ 9223372036854775807 from by decide)), hf50, hf51, hf52, hf53, hf54, hf55, rfl, rfl, rfl, (inR_i64.2 (show (-9223372036854775808 : Int) ≤ 0 ∧ (0 : Int) ≤ 9223372036854775807 from by decide)), hS57⟩ ?_ ?_
            · intro k70 x71 ct72 f73 wd74 hk75 hb76 hI77 hbrk78 hret79
              replace hI77 : f73 1 = v_d ∧ f73 5 = (Value.int .i64 (k12 : Int)) ∧ f73 7 = (Value.int .i64 (k39 : Int)) ∧ f73 9 = Value.int .i64 x71 ∧ InR .i64 x71 ∧ f73 13 = v_r_Table ∧ f73 14 = (Value.int .i64 ((r_Table).length : Int)) ∧ f73 15 = (Value.int .i64 (k12 : Int)) ∧ f73 20 = u33 ∧ f73 21 = (Value.int .i64 ((x29).length : Int)) ∧ f73 22 = (Value.int .i64 (k39 : Int)) ∧ f73 27 = u64 ∧ f73 28 = (Value.int .i64 ((x60).length : Int)) ∧ f73 29 = Value.int .i64 (k70 : Int) ∧ InR .i64 (k70 : Int) ∧ St wd2 wd74 [] := hI77
              replace hb76 : p_impl_Ring_isDimension_L3 x60 d k70 x71 = some ct72 := hb76
              unfold p_impl_Ring_isDimension_L3 at hb76
              obtain ⟨hf80, hf81, hf82, hf83, hr84, hf85, hf86, hf87, hf88, hf89, hf90, hf91, hf92, hf93, hr94, hS95⟩ := hI77
              refine W.seq ?_
              refine W.region ?_
              refine WL.val (Value.bool (decide ((k70 : Int) < ((x60).length : Int)))) _ (op_lss hf93 hf92) rfl ?_
              have hl96 : (k70 : Int) < ((x60).length : Int) := by omega
              refine WL.nil ?_
              show W _ _ _ _ _ _
              refine W.seq ?_
              refine W.condT (decide ((k70 : Int) < ((x60).length : Int))) rfl (decide_eq_true hl96) ?_
              refine W.skip ?_
              show W _ _ _ _ _ _
              refine W.seq ?_
              refine W.block ?_
              refine W.seq ?_
              refine W.region ?_
              refine WL.val (Value.int .i64 (k70 : Int)) _ (op_move hf93) rfl ?_
              obtain ⟨x98, hx101, hb76⟩ := bs hb76
              obtain ⟨ha99, hb100, hx101⟩ := idx_some hx101
              refine WL.val (Value.pointer (some (elA u64 ((k70 : Int)).toNat))) _ (op_idx sl_25 (Ty.lift _ (Ext.trans hE7 hS95.ext) hr66) hf91 hf93 ha99 hb100) rfl ?_
              obtain ⟨u102, hc103, hr104⟩ := repSl.el hr66 hx101
              obtain ⟨rfl, hr104⟩ := hr104
              refine WL.val (Value.int .i64 x98) _ (op_load one_2 rfl (Ext.cell (Ext.trans hE7 hS95.ext) hc103)) rfl ?_
              refine WL.val (Value.int .i64 (k70 : Int)) _ (op_assign rfl) rfl ?_
              refine WL.val (Value.int .i64 x98) _ (op_assign rfl) rfl ?_
              refine WL.nil ?_
              show W _ _ _ _ _ _
              refine W.region ?_
              refine WL.val (Value.int .i64 x71) _ (op_move hf83) rfl ?_
              refine WL.val (Value.int .i64 x98) _ (op_move rfl) rfl ?_
              refine WL.val v_d _ (op_move hf80) rfl ?_
              refine WL.val (Value.int .i64 (k70 : Int)) _ (op_move rfl) rfl ?_
              obtain ⟨x105, hx108, hb76⟩ := bs hb76
              obtain ⟨ha106, hb107, hx108⟩ := idx_some hx108
              refine WL.val (Value.pointer (some (elA v_d ((k70 : Int)).toNat))) _ (op_idx sl_25 (Ty.lift _ (Ext.trans hE7 hS95.ext) r_d) rfl rfl ha106 hb107) rfl ?_
              obtain ⟨u109, hc110, hr111⟩ := repSl.el r_d hx108
              obtain ⟨rfl, hr111⟩ := hr111
              refine WL.val (Value.int .i64 x105) _ (op_load one_2 rfl (Ext.cell (Ext.trans hE7 hS95.ext) hc110)) rfl ?_
              refine WL.val (Value.int .i64 (w64 (x98 * x105))) _ (op_mul rfl rfl) rfl ?_
              refine WL.val (Value.int .i64 (w64 (x71 + (w64 (x98 * x105))))) _ (op_add rfl rfl) rfl ?_
              refine WL.val (Value.int .i64 (w64 (x71 + (w64 (x98 * x105))))) _ (op_assign rfl) rfl ?_
              refine WL.nil ?_
              show W _ _ _ _ _ _
              refine W.region ?_
              refine WL.val (Value.int .i64 (w64 ((k70 : Int) + (1 : Int)))) _ (op_add hf93 rfl) rfl ?_
              refine WL.val (Value.int .i64 (w64 ((k70 : Int) + (1 : Int)))) _ (op_move rfl) rfl ?_
              refine WL.nil ?_
              obtain rfl := Option.some.inj hb76
              show ∃ s, _ = Ctl.next s ∧ _
              exact ⟨_, rfl, hf80, hf81, hf82, rfl, (inR_wrap _ _), hf85, hf86, hf87, hf88, hf89, hf90, hf91, hf92, (ctr_next hl96 hr67), (ctr_rng hl96 hr67), hS95⟩
            · intro x118 f113 wd114 hs115 hI116
              replace hI116 : f113 1 = v_d ∧ f113 5 = (Value.int .i64 (k12 : Int)) ∧ f113 7 = (Value.int .i64 (k39 : Int)) ∧ f113 9 = Value.int .i64 x118 ∧ InR .i64 x118 ∧ f113 13 = v_r_Table ∧ f113 14 = (Value.int .i64 ((r_Table).length : Int)) ∧ f113 15 = (Value.int .i64 (k12 : Int)) ∧ f113 20 = u33 ∧ f113 21 = (Value.int .i64 ((x29).length : Int)) ∧ f113 22 = (Value.int .i64 (k39 : Int)) ∧ f113 27 = u64 ∧ f113 28 = (Value.int .i64 ((x60).length : Int)) ∧ f113 29 = Value.int .i64 (((x60).length : Nat) : Int) ∧ InR .i64 (((x60).length : Nat) : Int) ∧ St wd2 wd114 [] := hI116
              obtain ⟨hf119, hf120, hf121, hf122, hr123, hf124, hf125, hf126, hf127, hf128, hf129, hf130, hf131, hf132, hr133, hS134⟩ := hI116
              refine W.seq ?_
              refine W.region ?_
              refine WL.val (Value.bool (decide ((((x60).length : Nat) : Int) < ((x60).length : Int)))) _ (op_lss hf132 hf131) rfl ?_
              have hl135 : ¬ (((x60).length : Nat) : Int) < ((x60).length : Int) := by omega
              refine WL.nil ?_
              show W _ _ _ _ _ _
              refine W.seq ?_
              refine W.condF (decide ((((x60).length : Nat) : Int) < ((x60).length : Int))) rfl (decide_eq_false hl135) ?_
              refine W.exit ?_
              show _ = _ ∧ _
              exact ⟨rfl, _, hs115, hf119, hf120, hf121, hf122, hr123, hf124, hf125, hf126, hf127, hf128, hf129, hS134⟩
          · rintro f136 wd137 ⟨x140, rfl, hq138⟩
            replace hb44 := onRes_fin hb44
            replace hq138 : f136 1 = v_d ∧ f136 5 = (Value.int .i64 (k12 : Int)) ∧ f136 7 = (Value.int .i64 (k39 : Int)) ∧ f136 9 = Value.int .i64 x140 ∧ InR .i64 x140 ∧ f136 13 = v_r_Table ∧ f136 14 = (Value.int .i64 ((r_Table).length : Int)) ∧ f136 15 = (Value.int .i64 (k12 : Int)) ∧ f136 20 = u33 ∧ f136 21 = (Value.int .i64 ((x29).length : Int)) ∧ f136 22 = (Value.int .i64 (k39 : Int)) ∧ St wd2 wd137 [] := hq138
            obtain ⟨hf141, hf142, hf143, hf144, hr145, hf146, hf147, hf148, hf149, hf150, hf151, hS152⟩ := hq138
            show W _ _ _ _ _ _
            refine W.seq ?_
            obtain ⟨x183, hx186, hb44⟩ := bs hb44
            obtain ⟨ha184, hb185, hx186⟩ := idx_some hx186
            obtain ⟨u194, hc195, hr196⟩ := repSl.el r_d hx186
            obtain ⟨rfl, hr196⟩ := hr196
            obtain ⟨x220, hx223, hb44⟩ := bs hb44
            obtain ⟨ha221, hb222, hx223⟩ := idx_some hx223
            obtain ⟨u231, hc232, hr233⟩ := repSl.el r_d hx223
            obtain ⟨rfl, hr233⟩ := hr233
            refine W.draw mixo 10 [fun v _ => v = (Value.int .i64 x140) ∧ InR .i64 x140, fun v _ => v = v_d, fun v _ => v = (Value.int .i64 (k12 : Int)) ∧ InR .i64 (k12 : Int), fun v _ => v = (Value.pointer (some (elA v_d ((k12 : Int)).toNat))), fun v _ => v = (Value.int .i64 x183) ∧ InR .i64 x183, fun v _ => v = v_d, fun v _ => v = (Value.int .i64 (k39 : Int)) ∧ InR .i64 (k39 : Int), fun v _ => v = (Value.pointer (some (elA v_d ((k39 : Int)).toNat))), fun v _ => v = (Value.int .i64 x220) ∧ InR .i64 x220, fun v _ => v = (Value.int .i64 (w64 (x183 * x220))) ∧ InR .i64 (w64 (x183 * x220))] (by kernel_rfl) (by kernel_rfl) (stabL ⟨(fun _ _ _ _ h => h), (fun _ _ _ _ h => h), (fun _ _ _ _ h => h), (fun _ _ _ _ h => h), (fun _ _ _ _ h => h), (fun _ _ _ _ h => h), (fun _ _ _ _ h => h), (fun _ _ _ _ h => h), (fun _ _ _ _ h => h), (fun _ _ _ _ h => h), trivial⟩) ⟨?_, ?_, ?_, ?_, ?_, ?_, ?_, ?_, ?_, ?_, trivial⟩ ?_
            · intro f153 wd154 he155 hout156 hphi157
              have hS158 : St wd2 wd154 [] := St.extend hS152 he155
              have e159 : f153 9 = (Value.int .i64 x140) := (hout156 9 rfl).trans hf144
              exact OpY.val (Value.int .i64 x140) wd154 rfl (op_move e159) (Ext.refl _) ⟨rfl, hr145⟩
            · intro f160 wd161 he162 hout163 hphi164
              have hS165 : St wd2 wd161 [] := St.extend hS152 he162
              have e166 : f160 1 = v_d := (hout163 1 rfl).trans hf141
              exact OpY.val v_d wd161 rfl (op_move e166) (Ext.refl _) rfl
            · intro f167 wd168 he169 hout170 hphi171
              have hS172 : St wd2 wd168 [] := St.extend hS152 he169
              have e173 : f167 5 = (Value.int .i64 (k12 : Int)) := (hout170 5 rfl).trans hf142
              exact OpY.val (Value.int .i64 (k12 : Int)) wd168 rfl (op_move e173) (Ext.refl _) ⟨rfl, hr25⟩
            · intro f174 wd175 he176 hout177 hphi178
              have hS179 : St wd2 wd175 [] := St.extend hS152 he176
              have e180 : f174 44 = v_d := hphi178 1 44 _ rfl rfl rfl
              obtain ⟨e181, hr182⟩ : f174 45 = (Value.int .i64 (k12 : Int)) ∧ InR .i64 (k12 : Int) := hphi178 2 45 _ rfl rfl rfl
              exact OpY.val (Value.pointer (some (elA v_d ((k12 : Int)).toNat))) wd175 rfl (op_idx sl_25 (Ty.lift _ (Ext.trans hE7 hS179.ext) r_d) e180 e181 ha184 hb185) (Ext.refl _) rfl
            · intro f187 wd188 he189 hout190 hphi191
              have hS192 : St wd2 wd188 [] := St.extend hS152 he189
              have e193 : f187 46 = (Value.pointer (some (elA v_d ((k12 : Int)).toNat))) := hphi191 3 46 _ rfl rfl rfl
              exact OpY.val (Value.int .i64 x183) wd188 rfl (op_load one_2 e193 (Ext.cell (Ext.trans hE7 hS192.ext) hc195)) (Ext.refl _) ⟨rfl, hr196⟩
            · intro f197 wd198 he199 hout200 hphi201
              have hS202 : St wd2 wd198 [] := St.extend hS152 he199
              have e203 : f197 1 = v_d := (hout200 1 rfl).trans hf141
              exact OpY.val v_d wd198 rfl (op_move e203) (Ext.refl _) rfl
            · intro f204 wd205 he206 hout207 hphi208
              have hS209 : St wd2 wd205 [] := St.extend hS152 he206
              have e210 : f204 7 = (Value.int .i64 (k39 : Int)) := (hout207 7 rfl).trans hf143
              exact OpY.val (Value.int .i64 (k39 : Int)) wd205 rfl (op_move e210) (Ext.refl _) ⟨rfl, hr56⟩
            · intro f211 wd212 he213 hout214 hphi215
              have hS216 : St wd2 wd212 [] := St.extend hS152 he213
              have e217 : f211 48 = v_d := hphi215 5 48 _ rfl rfl rfl
              obtain ⟨e218, hr219⟩ : f211 49 = (Value.int .i64 (k39 : Int)) ∧ InR .i64 (k39 : Int) := hphi215 6 49 _ rfl rfl rfl
              exact OpY.val (Value.pointer (some (elA v_d ((k39 : Int)).toNat))) wd212 rfl (op_idx sl_25 (Ty.lift _ (Ext.trans hE7 hS216.ext) r_d) e217 e218 ha221 hb222) (Ext.refl _) rfl
            · intro f224 wd225 he226 hout227 hphi228
              have hS229 : St wd2 wd225 [] := St.extend hS152 he226
              have e230 : f224 50 = (Value.pointer (some (elA v_d ((k39 : Int)).toNat))) := hphi228 7 50 _ rfl rfl rfl
              exact OpY.val (Value.int .i64 x220) wd225 rfl (op_load one_2 e230 (Ext.cell (Ext.trans hE7 hS229.ext) hc232)) (Ext.refl _) ⟨rfl, hr233⟩
            · intro f234 wd235 he236 hout237 hphi238
              have hS239 : St wd2 wd235 [] := St.extend hS152 he236
              obtain ⟨e240, hr241⟩ : f234 47 = (Value.int .i64 x183) ∧ InR .i64 x183 := hphi238 4 47 _ rfl rfl rfl
              obtain ⟨e242, hr243⟩ : f234 51 = (Value.int .i64 x220) ∧ InR .i64 x220 := hphi238 8 51 _ rfl rfl rfl
              exact OpY.val (Value.int .i64 (w64 (x183 * x220))) wd235 rfl (op_mul e240 e242) (Ext.refl _) ⟨rfl, (inR_wrap _ _)⟩
            · intro f244 wd245 he246 hout247 hphi248
              show WL _ _ _ _ _ _ _
              have hS249 : St wd2 wd245 [] := St.extend hS152 he246
              obtain ⟨e250, hr251⟩ : f244 43 = (Value.int .i64 x140) ∧ InR .i64 x140 := hphi248 0 43 _ (by decide) rfl rfl
              obtain ⟨e252, hr253⟩ : f244 52 = (Value.int .i64 (w64 (x183 * x220))) ∧ InR .i64 (w64 (x183 * x220)) := hphi248 9 52 _ (by decide) rfl rfl
              have e254 : f244 1 = v_d := (hout247 1 rfl).trans hf141
              have e255 : f244 5 = (Value.int .i64 (k12 : Int)) := (hout247 5 rfl).trans hf142
              have e256 : f244 13 = v_r_Table := (hout247 13 rfl).trans hf146
              have e257 : f244 14 = (Value.int .i64 ((r_Table).length : Int)) := (hout247 14 rfl).trans hf147
              have e258 : f244 15 = (Value.int .i64 (k12 : Int)) := (hout247 15 rfl).trans hf148
              have e259 : f244 20 = u33 := (hout247 20 rfl).trans hf149
              have e260 : f244 21 = (Value.int .i64 ((x29).length : Int)) := (hout247 21 rfl).trans hf150
              have e261 : f244 22 = (Value.int .i64 (k39 : Int)) := (hout247 22 rfl).trans hf151
              refine WL.val (Value.bool (x140 != (w64 (x183 * x220)))) _ (op_neq e250 e252) rfl ?_
              refine WL.nil ?_
              show W _ _ _ _ _ _
              refine W.cond (x140 != (w64 (x183 * x220))) rfl (fun hc262 => ?_) (fun hc262 => ?_)
              · replace hb44 := ip hb44 hc262
                refine W.seq ?_
                refine W.region ?_
                refine WL.val (Value.bool false) _ (op_assign rfl) rfl ?_
                refine WL.nil ?_
                show W _ _ _ _ _ _
                refine W.ret ?_
                obtain rfl := Option.some.inj hb44
                obtain rfl := hret47 _ rfl
                replace hb17 := onRes_ret hb17
                obtain rfl := Option.some.inj hb17
                obtain rfl := hret20 _ rfl
                replace h := onRes_ret h
                obtain rfl := Option.some.inj h
                show FinP _ _ _ _ _ _ _
                exact FinP.ret _ (res1 rfl rfl) ⟨rfl, (Ext.trans hE7 hS249.ext)⟩
              · replace hb44 := inegb hb44 hc262
                refine W.skip ?_
                show W _ _ _ _ _ _
                refine W.region ?_
                refine WL.val (Value.int .i64 (w64 ((k39 : Int) + (1 : Int)))) _ (op_add e261 rfl) rfl ?_
                refine WL.val (Value.int .i64 (w64 ((k39 : Int) + (1 : Int)))) _ (op_move rfl) rfl ?_
                refine WL.nil ?_
                obtain rfl := Option.some.inj hb44
                show ∃ s, _ = Ctl.next s ∧ _
                exact ⟨_, rfl, e254, e255, e256, e257, e258, e259, e260, (ctr_next hl58 hr36), (ctr_rng hl58 hr36), hS249⟩
        · intro s270 f266 wd267 hs268 hI269
          obtain ⟨⟩ := s270
          replace hI269 : f266 1 = v_d ∧ f266 5 = (Value.int .i64 (k12 : Int)) ∧ f266 13 = v_r_Table ∧ f266 14 = (Value.int .i64 ((r_Table).length : Int)) ∧ f266 15 = (Value.int .i64 (k12 : Int)) ∧ f266 20 = u33 ∧ f266 21 = (Value.int .i64 ((x29).length : Int)) ∧ f266 22 = Value.int .i64 (((x29).length : Nat) : Int) ∧ InR .i64 (((x29).length : Nat) : Int) ∧ St wd2 wd267 [] := hI269
          obtain ⟨hf271, hf272, hf273, hf274, hf275, hf276, hf277, hf278, hr279, hS280⟩ := hI269
          refine W.seq ?_
          refine W.region ?_
          refine WL.val (Value.bool (decide ((((x29).length : Nat) : Int) < ((x29).length : Int)))) _ (op_lss hf278 hf277) rfl ?_
          have hl281 : ¬ (((x29).length : Nat) : Int) < ((x29).length : Int) := by omega
          refine WL.nil ?_
          show W _ _ _ _ _ _
          refine W.seq ?_
          refine W.condF (decide ((((x29).length : Nat) : Int) < ((x29).length : Int))) rfl (decide_eq_false hl281) ?_
          refine W.exit ?_
          show _ = _ ∧ _
          exact ⟨rfl, _, hs268, hf271, hf273, hf274, hf275, hS280⟩
      · rintro f282 wd283 ⟨s285, rfl, hq284⟩
        replace hb17 := onRes_fin hb17
        obtain ⟨⟩ := s285
        replace hq284 : f282 1 = v_d ∧ f282 13 = v_r_Table ∧ f282 14 = (Value.int .i64 ((r_Table).length : Int)) ∧ f282 15 = (Value.int .i64 (k12 : Int)) ∧ St wd2 wd283 [] := hq284
        obtain ⟨hf286, hf287, hf288, hf289, hS290⟩ := hq284
        show W _ _ _ _ _ _
        refine W.region ?_
        refine WL.val (Value.int .i64 (w64 ((k12 : Int) + (1 : Int)))) _ (op_add hf289 rfl) rfl ?_
        refine WL.val (Value.int .i64 (w64 ((k12 : Int) + (1 : Int)))) _ (op_move rfl) rfl ?_
        refine WL.nil ?_
        obtain rfl := Option.some.inj hb17
        show ∃ s, _ = Ctl.next s ∧ _
        exact ⟨_, rfl, hf286, hf287, hf288, (ctr_next hl27 hr9), (ctr_rng hl27 hr9), hS290⟩
    · intro s297 f293 wd294 hs295 hI296
      obtain ⟨⟩ := s297
      replace hI296 : f293 1 = v_d ∧ f293 13 = v_r_Table ∧ f293 14 = (Value.int .i64 ((r_Table).length : Int)) ∧ f293 15 = Value.int .i64 (((r_Table).length : Nat) : Int) ∧ InR .i64 (((r_Table).length : Nat) : Int) ∧ St wd2 wd294 [] := hI296
      obtain ⟨hf298, hf299, hf300, hf301, hr302, hS303⟩ := hI296
      refine W.seq ?_
      refine W.region ?_
      refine WL.val (Value.bool (decide ((((r_Table).length : Nat) : Int) < ((r_Table).length : Int)))) _ (op_lss hf301 hf300) rfl ?_
      have hl304 : ¬ (((r_Table).length : Nat) : Int) < ((r_Table).length : Int) := by omega
      refine WL.nil ?_
      show W _ _ _ _ _ _
      refine W.seq ?_
      refine W.condF (decide ((((r_Table).length : Nat) : Int) < ((r_Table).length : Int))) rfl (decide_eq_false hl304) ?_
      refine W.exit ?_
      show _ = _ ∧ _
      exact ⟨rfl, _, hs295, hf298, hS303⟩
  · rintro f305 wd306 ⟨s308, rfl, hq307⟩
    replace h := onRes_fin h
    obtain ⟨⟩ := s308
    replace hq307 : f305 1 = v_d ∧ St wd2 wd306 [] := hq307
    obtain ⟨hf309, hS310⟩ := hq307
    show W _ _ _ _ _ _
    refine W.seq ?_
    refine W.region ?_
    refine WL.val v_d _ (op_move hf309) rfl ?_
    obtain ⟨x311, hx312, h⟩ := bs h
    refine WL.call _ (op_call fn_69 (args1 rfl)) (c_slices_Min_Lint64_int64 (Ty.lift _ (Ext.trans hE7 hS310.ext) r_d) hx312) rfl ?_
    rintro _ wd314 ⟨rfl, hr313, he315⟩
    have hS317 := St.extend hS310 he315
    replace hS317 : St wd2 wd314 [] := hS317
    refine WL.val (Value.bool (decide (x311 > (0 : Int)))) _ (op_gtr rfl rfl) rfl ?_
    refine WL.val (Value.bool (decide (x311 > (0 : Int)))) _ (op_assign rfl) rfl ?_
    refine WL.nil ?_
    show W _ _ _ _ _ _
    refine W.ret ?_
    obtain rfl := Option.some.inj h
    show FinP _ _ _ _ _ _ _
    exact FinP.ret _ (res1 rfl rfl) ⟨rfl, (Ext.trans hE7 hS317.ext)⟩

theorem c_impl_IsDimension {w : World} {r_Table : (List (List (List Int)))} {v_r_Table : Value} {d : (List Int)} {v_d : Value} (r_r_Table : (Ty.sl (Ty.sl (Ty.sl (Ty.i .i64)))).rep w v_r_Table r_Table) (r_d : (Ty.sl (Ty.i .i64)).rep w v_d d) {res : Bool × Int} (h : p_impl_IsDimension r_Table d  = some res) :
    Ret Try.prog 15 #[(Value.agg #[v_r_Table]), v_d] w (fun v w' => v = (Value.tuple #[Value.bool res.1, Value.int .i64 res.2]) ∧ InR .i64 res.2 ∧ Ext w w') := by
  unfold p_impl_IsDimension at h
  have hS0 : St w w [] := St.start w
  refine Ret.start (fn := Try.f15) Try.func15 rfl 16 rfl rfl ?_
  refine W.seq ?_
  refine W.region ?_
  refine WL.box hS0 rfl (cs := [v_r_Table]) rfl rfl ?_
  intro b1 wd2 hS3 he4 hx5
  replace hS3 : St w wd2 [bx b1 [v_r_Table]] := hS3
  have hx6 := St.boxAt hS3 0 rfl
  have hE7 : Ext w wd2 := hS3.ext
  have hS8 : St wd2 wd2 [] := St.start wd2
  refine WL.val (Value.bool false) _ (op_assign rfl) rfl ?_
  refine WL.val (Value.int .i64 (0 : Int)) _ (op_assign rfl) rfl ?_
  refine WL.nil ?_
  show W _ _ _ _ _ _
  refine W.seq ?_
  refine W.seq ?_
  refine W.region ?_
  refine WL.val (Value.agg #[v_r_Table]) _ (op_loadBox st_29 rfl (BoxAt.lift hS8.ext hx6) rfl rfl) rfl ?_
  obtain ⟨x9, hx10, h⟩ := bs h
  refine WL.call _ (op_call fn_41 (args1 rfl)) (c_impl_IsRing (Ty.lift _ (Ext.trans hE7 hS8.ext) r_r_Table) hx10) rfl ?_
  rintro _ wd11 ⟨rfl, he12⟩
  have hS14 := St.extend hS8 he12
  replace hS14 : St wd2 wd11 [] := hS14
  refine WL.val (Value.bool (!x9)) _ (op_not rfl) rfl ?_
  refine WL.nil ?_
  show W _ _ _ _ _ _
  refine W.cond (!x9) rfl (fun hc15 => ?_) (fun hc15 => ?_)
  · replace h := ip h hc15
    refine W.seq ?_
    refine W.region ?_
    refine WL.val (Value.bool false) _ (op_assign rfl) rfl ?_
    refine WL.val (Value.int .i64 (1 : Int)) _ (op_assign rfl) rfl ?_
    refine WL.nil ?_
    show W _ _ _ _ _ _
    refine W.ret ?_
    obtain rfl := Option.some.inj h
    show FinP _ _ _ _ _ _ _
    exact FinP.ret _ (res2 rfl rfl rfl) ⟨rfl, (inR_i64.2 (show (-9223372036854775808 : Int) ≤ 1 ∧ (1 : Int) ≤ 9223372036854775807 from by decide)), (Ext.trans hE7 hS14.ext)⟩
  · replace h := inegb h hc15
    refine W.skip ?_
    show W _ _ _ _ _ _
    refine W.seq ?_
    refine W.seq ?_
    refine W.region ?_
    refine WL.val (Value.agg #[v_r_Table]) _ (op_loadBox st_29 rfl (BoxAt.lift hS14.ext hx6) rfl rfl) rfl ?_
    refine WL.val v_d _ (op_move rfl) rfl ?_
    obtain ⟨x17, hx18, h⟩ := bs h
    refine WL.call _ (op_call fn_42 (args2 rfl rfl)) (c_impl_Ring_isVector (Ty.lift _ (Ext.trans hE7 hS14.ext) r_r_Table) (Ty.lift _ (Ext.trans hE7 hS14.ext) r_d) hx18) rfl ?_
    rintro _ wd19 ⟨rfl, he20⟩
    have hS22 := St.extend hS14 he20
    replace hS22 : St wd2 wd19 [] := hS22
    refine WL.val (Value.bool (!x17)) _ (op_not rfl) rfl ?_
    refine WL.nil ?_
    show W _ _ _ _ _ _
    refine W.cond (!x17) rfl (fun hc23 => ?_) (fun hc23 => ?_)
    · replace h := ip h hc23
      refine W.seq ?_
      refine W.region ?_
      refine WL.val (Value.bool false) _ (op_assign rfl) rfl ?_
      refine WL.val (Value.int .i64 (2 : Int)) _ (op_assign rfl) rfl ?_
      refine WL.nil ?_
      show W _ _ _ _ _ _
      refine W.ret ?_
      obtain rfl := Option.some.inj h
      show FinP _ _ _ _ _ _ _
      exact FinP.ret _ (res2 rfl rfl rfl) ⟨rfl, (inR_i64.2 (show (-9223372036854775808 : Int) ≤ 2 ∧ (2 : Int) ≤ 9223372036854775807 from by decide)), (Ext.trans hE7 hS22.ext)⟩
    · replace h := inegb h hc23
      refine W.skip ?_
      show W _ _ _ _ _ _
      refine W.seq ?_
      refine W.region ?_
      refine WL.val (Value.agg #[v_r_Table]) _ (op_loadBox st_29 rfl (BoxAt.lift hS22.ext hx6) rfl rfl) rfl ?_
      refine WL.val v_d _ (op_move rfl) rfl ?_
      obtain ⟨x25, hx26, h⟩ := bs h
      refine WL.call _ (op_call fn_43 (args2 rfl rfl)) (c_impl_Ring_isDimension (Ty.lift _ (Ext.trans hE7 hS22.ext) r_r_Table) (Ty.lift _ (Ext.trans hE7 hS22.ext) r_d) hx26) rfl ?_
      rintro _ wd27 ⟨rfl, he28⟩
      have hS30 := St.extend hS22 he28
      replace hS30 : St wd2 wd27 [] := hS30
      refine WL.val (Value.bool x25) _ (op_assign rfl) rfl ?_
      refine WL.val (Value.int .i64 (0 : Int)) _ (op_assign rfl) rfl ?_
      refine WL.nil ?_
      show W _ _ _ _ _ _
      refine W.ret ?_
      obtain rfl := Option.some.inj h
      show FinP _ _ _ _ _ _ _
      exact FinP.ret _ (res2 rfl rfl rfl) ⟨rfl, (inR_i64.2 (show (-9223372036854775808 : Int) ≤ 0 ∧ (0 : Int) ≤ 9223372036854775807 from by decide)), (Ext.trans hE7 hS30.ext)⟩

theorem c_laws_eqInt64S {w : World} {a : (List Int)} {v_a : Value} {b : (List Int)} {v_b : Value} (r_a : (Ty.sl (Ty.i .i64)).rep w v_a a) (r_b : (Ty.sl (Ty.i .i64)).rep w v_b b) {res : Bool} (h : p_laws_eqInt64S a b  = some res) :
    Ret Try.prog 17 #[v_a, v_b] w (fun v w' => v = Value.bool res ∧ Ext w w') := by
  unfold p_laws_eqInt64S at h
  have hS0 : St w w [] := St.start w
  refine Ret.start (fn := Try.f17) Try.func17 rfl 26 rfl rfl ?_
  refine W.seq ?_
  refine W.region ?_
  refine WL.val (Value.bool false) _ (op_assign rfl) rfl ?_
  refine WL.nil ?_
  show W _ _ _ _ _ _
  refine W.seq ?_
  refine W.seq ?_
  refine W.region ?_
  refine WL.val v_a _ (op_move rfl) rfl ?_
  have hr1 := inR_len (Ty.lift _ hS0.ext r_a)
  refine WL.val (Value.int .i64 ((a).length : Int)) _ (op_lenL sl_25 (Ty.lift _ hS0.ext r_a) rfl) rfl ?_
  refine WL.val v_b _ (op_move rfl) rfl ?_
  have hr2 := inR_len (Ty.lift _ hS0.ext r_b)
  refine WL.val (Value.int .i64 ((b).length : Int)) _ (op_lenL sl_25 (Ty.lift _ hS0.ext r_b) rfl) rfl ?_
  refine WL.val (Value.bool (((a).length : Int) != ((b).length : Int))) _ (op_neq rfl rfl) rfl ?_
  refine WL.nil ?_
  show W _ _ _ _ _ _
  refine W.cond (((a).length : Int) != ((b).length : Int)) rfl (fun hc3 => ?_) (fun hc3 => ?_)
  · replace h := ip h hc3
    refine W.seq ?_
    refine W.region ?_
    refine WL.val (Value.bool false) _ (op_assign rfl) rfl ?_
    refine WL.nil ?_
    show W _ _ _ _ _ _
    refine W.ret ?_
    obtain rfl := Option.some.inj h
    show FinP _ _ _ _ _ _ _
    exact FinP.ret _ (res1 rfl rfl) ⟨rfl, hS0.ext⟩
  · replace h := inegb h hc3
    refine W.skip ?_
    show W _ _ _ _ _ _
    refine W.seq ?_
    refine W.seq ?_
    refine W.region ?_
    refine WL.val (Value.int .i64 (0 : Int)) _ (op_assign rfl) rfl ?_
    refine WL.nil ?_
    show W _ _ _ _ _ _
    obtain ⟨res5, hres6, h⟩ := bs h
    refine W.blockLoop (fun fq wq => ∃ s, res5 = Res.fin s ∧ St w wq []) ?_ ?_
    · refine W.forN (fun k s fq wq => fq 0 = v_a ∧ fq 1 = v_b ∧ fq 5 = Value.int .i64 (k : Int) ∧ InR .i64 (k : Int) ∧ St w wq []) hres6 ⟨rfl, rfl, rfl, (inR_i64.2 (show (-9223372036854775808 : Int) ≤ 0 ∧ (0 : Int) ≤ 9223372036854775807 from by decide)), hS0⟩ ?_ ?_
      · intro k7 s113 ct8 f9 wd10 hk11 hb12 hI13 hbrk14 hret15
        obtain ⟨⟩ := s113
        replace hI13 : f9 0 = v_a ∧ f9 1 = v_b ∧ f9 5 = Value.int .i64 (k7 : Int) ∧ InR .i64 (k7 : Int) ∧ St w wd10 [] := hI13
        replace hb12 : p_laws_eqInt64S_L1 a b k7  = some ct8 := hb12
        unfold p_laws_eqInt64S_L1 at hb12
        obtain ⟨hf16, hf17, hf18, hr19, hS20⟩ := hI13
        refine W.seq ?_
        refine W.seq ?_
        refine W.region ?_
        refine WL.val (Value.int .i64 (k7 : Int)) _ (op_move hf18) rfl ?_
        refine WL.val v_a _ (op_move hf16) rfl ?_
        have hr21 := inR_len (Ty.lift _ hS20.ext r_a)
        refine WL.val (Value.int .i64 ((a).length : Int)) _ (op_lenL sl_25 (Ty.lift _ hS20.ext r_a) rfl) rfl ?_
        refine WL.val (Value.bool (decide ((k7 : Int) < ((a).length : Int)))) _ (op_lss rfl rfl) rfl ?_
        have hl22 : (k7 : Int) < ((a).length : Int) := by omega
        refine WL.nil ?_
        show W _ _ _ _ _ _
        refine W.condT (decide ((k7 : Int) < ((a).length : Int))) rfl (decide_eq_true hl22) ?_
        refine W.skip ?_
        show W _ _ _ _ _ _
        refine W.seq ?_
        refine W.block ?_
        refine W.seq ?_
        obtain ⟨x47, hx50, hb12⟩ := bs hb12
        obtain ⟨ha48, hb49, hx50⟩ := idx_some hx50
        obtain ⟨u58, hc59, hr60⟩ := repSl.el r_a hx50
        obtain ⟨rfl, hr60⟩ := hr60
        obtain ⟨x84, hx87, hb12⟩ := bs hb12
        obtain ⟨ha85, hb86, hx87⟩ := idx_some hx87
        obtain ⟨u95, hc96, hr97⟩ := repSl.el r_b hx87
        obtain ⟨rfl, hr97⟩ := hr97
        refine W.draw mixo 8 [fun v _ => v = v_a, fun v _ => v = (Value.int .i64 (k7 : Int)) ∧ InR .i64 (k7 : Int), fun v _ => v = (Value.pointer (some (elA v_a ((k7 : Int)).toNat))), fun v _ => v = (Value.int .i64 x47) ∧ InR .i64 x47, fun v _ => v = v_b, fun v _ => v = (Value.int .i64 (k7 : Int)) ∧ InR .i64 (k7 : Int), fun v _ => v = (Value.pointer (some (elA v_b ((k7 : Int)).toNat))), fun v _ => v = (Value.int .i64 x84) ∧ InR .i64 x84] (by kernel_rfl) (by kernel_rfl) (stabL ⟨(fun _ _ _ _ h => h), (fun _ _ _ _ h => h), (fun _ _ _ _ h => h), (fun _ _ _ _ h => h), (fun _ _ _ _ h => h), (fun _ _ _ _ h => h), (fun _ _ _ _ h => h), (fun _ _ _ _ h => h), trivial⟩) ⟨?_, ?_, ?_, ?_, ?_, ?_, ?_, ?_, trivial⟩ ?_
        · intro f24 wd25 he26 hout27 hphi28
          have hS29 : St w wd25 [] := St.extend hS20 he26
          have e30 : f24 0 = v_a := (hout27 0 rfl).trans hf16
          exact OpY.val v_a wd25 rfl (op_move e30) (Ext.refl _) rfl
        · intro f31 wd32 he33 hout34 hphi35
          have hS36 : St w wd32 [] := St.extend hS20 he33
          have e37 : f31 5 = (Value.int .i64 (k7 : Int)) := (hout34 5 rfl).trans hf18
          exact OpY.val (Value.int .i64 (k7 : Int)) wd32 rfl (op_move e37) (Ext.refl _) ⟨rfl, hr19⟩
        · intro f38 wd39 he40 hout41 hphi42
          have hS43 : St w wd39 [] := St.extend hS20 he40
          have e44 : f38 17 = v_a := hphi42 0 17 _ rfl rfl rfl
          obtain ⟨e45, hr46⟩ : f38 18 = (Value.int .i64 (k7 : Int)) ∧ InR .i64 (k7 : Int) := hphi42 1 18 _ rfl rfl rfl
          exact OpY.val (Value.pointer (some (elA v_a ((k7 : Int)).toNat))) wd39 rfl (op_idx sl_25 (Ty.lift _ hS43.ext r_a) e44 e45 ha48 hb49) (Ext.refl _) rfl
        · intro f51 wd52 he53 hout54 hphi55
          have hS56 : St w wd52 [] := St.extend hS20 he53
          have e57 : f51 19 = (Value.pointer (some (elA v_a ((k7 : Int)).toNat))) := hphi55 2 19 _ rfl rfl rfl
          exact OpY.val (Value.int .i64 x47) wd52 rfl (op_load one_2 e57 (Ext.cell hS56.ext hc59)) (Ext.refl _) ⟨rfl, hr60⟩
        · intro f61 wd62 he63 hout64 hphi65
          have hS66 : St w wd62 [] := St.extend hS20 he63
          have e67 : f61 1 = v_b := (hout64 1 rfl).trans hf17
          exact OpY.val v_b wd62 rfl (op_move e67) (Ext.refl _) rfl
        · intro f68 wd69 he70 hout71 hphi72
          have hS73 : St w wd69 [] := St.extend hS20 he70
          have e74 : f68 5 = (Value.int .i64 (k7 : Int)) := (hout71 5 rfl).trans hf18
          exact OpY.val (Value.int .i64 (k7 : Int)) wd69 rfl (op_move e74) (Ext.refl _) ⟨rfl, hr19⟩
        · intro f75 wd76 he77 hout78 hphi79
          have hS80 : St w wd76 [] := St.extend hS20 he77
          have e81 : f75 21 = v_b := hphi79 4 21 _ rfl rfl rfl
          obtain ⟨e82, hr83⟩ : f75 22 = (Value.int .i64 (k7 : Int)) ∧ InR .i64 (k7 : Int) := hphi79 5 22 _ rfl rfl rfl
          exact OpY.val (Value.pointer (some (elA v_b ((k7 : Int)).toNat))) wd76 rfl (op_idx sl_25 (Ty.lift _ hS80.ext r_b) e81 e82 ha85 hb86) (Ext.refl _) rfl
        · intro f88 wd89 he90 hout91 hphi92
          have hS93 : St w wd89 [] := St.extend hS20 he90
          have e94 : f88 23 = (Value.pointer (some (elA v_b ((k7 : Int)).toNat))) := hphi92 6 23 _ rfl rfl rfl
          exact OpY.val (Value.int .i64 x84) wd89 rfl (op_load one_2 e94 (Ext.cell hS93.ext hc96)) (Ext.refl _) ⟨rfl, hr97⟩
        · intro f98 wd99 he100 hout101 hphi102
          show WL _ _ _ _ _ _ _
          have hS103 : St w wd99 [] := St.extend hS20 he100
          obtain ⟨e104, hr105⟩ : f98 20 = (Value.int .i64 x47) ∧ InR .i64 x47 := hphi102 3 20 _ (by decide) rfl rfl
          obtain ⟨e106, hr107⟩ : f98 24 = (Value.int .i64 x84) ∧ InR .i64 x84 := hphi102 7 24 _ (by decide) rfl rfl
          have e108 : f98 0 = v_a := (hout101 0 rfl).trans hf16
          have e109 : f98 1 = v_b := (hout101 1 rfl).trans hf17
          have e110 : f98 5 = (Value.int .i64 (k7 : Int)) := (hout101 5 rfl).trans hf18
          refine WL.val (Value.bool (x47 != x84)) _ (op_neq e104 e106) rfl ?_
          refine WL.nil ?_
          show W _ _ _ _ _ _
          refine W.cond (x47 != x84) rfl (fun hc111 => ?_) (fun hc111 => ?_)
          · replace hb12 := ip hb12 hc111
            refine W.seq ?_
            refine W.region ?_
            refine WL.val (Value.bool false) _ (op_assign rfl) rfl ?_
            refine WL.nil ?_
            show W _ _ _ _ _ _
            refine W.ret ?_
            obtain rfl := Option.some.inj hb12
            obtain rfl := hret15 _ rfl
            replace h := onRes_ret h
            obtain rfl := Option.some.inj h
            show FinP _ _ _ _ _ _ _
            exact FinP.ret _ (res1 rfl rfl) ⟨rfl, hS103.ext⟩
          · replace hb12 := inegb hb12 hc111
            refine W.skip ?_
            show W _ _ _ _ _ _
            refine W.region ?_
            refine WL.val (Value.int .i64 (k7 : Int)) _ (op_move e110) rfl ?_
            refine WL.val (Value.int .i64 (w64 ((k7 : Int) + (1 : Int)))) _ (op_add rfl rfl) rfl ?_
            refine WL.val (Value.int .i64 (w64 ((k7 : Int) + (1 : Int)))) _ (op_assign rfl) rfl ?_
            refine WL.nil ?_
            obtain rfl := Option.some.inj hb12
            show ∃ s, _ = Ctl.next s ∧ _
            exact ⟨_, rfl, e108, e109, (ctr_next hl22 hr21), (ctr_rng hl22 hr21), hS103⟩
      · intro s118 f114 wd115 hs116 hI117
        obtain ⟨⟩ := s118
        replace hI117 : f114 0 = v_a ∧ f114 1 = v_b ∧ f114 5 = Value.int .i64 (((a).length : Nat) : Int) ∧ InR .i64 (((a).length : Nat) : Int) ∧ St w wd115 [] := hI117
        obtain ⟨hf119, hf120, hf121, hr122, hS123⟩ := hI117
        refine W.seq ?_
        refine W.seq ?_
        refine W.region ?_
        refine WL.val (Value.int .i64 (((a).length : Nat) : Int)) _ (op_move hf121) rfl ?_
        refine WL.val v_a _ (op_move hf119) rfl ?_
        have hr124 := inR_len (Ty.lift _ hS123.ext r_a)
        refine WL.val (Value.int .i64 ((a).length : Int)) _ (op_lenL sl_25 (Ty.lift _ hS123.ext r_a) rfl) rfl ?_
        refine WL.val (Value.bool (decide ((((a).length : Nat) : Int) < ((a).length : Int)))) _ (op_lss rfl rfl) rfl ?_
        have hl125 : ¬ (((a).length : Nat) : Int) < ((a).length : Int) := by omega
        refine WL.nil ?_
        show W _ _ _ _ _ _
        refine W.condF (decide ((((a).length : Nat) : Int) < ((a).length : Int))) rfl (decide_eq_false hl125) ?_
        refine W.exit ?_
        show _ = _ ∧ _
        exact ⟨rfl, _, hs116, hS123⟩
    · rintro f126 wd127 ⟨s129, rfl, hq128⟩
      replace h := onRes_fin h
      obtain ⟨⟩ := s129
      replace hq128 : St w wd127 [] := hq128
      have hS130 := hq128
      show W _ _ _ _ _ _
      refine W.seq ?_
      refine W.region ?_
      refine WL.val (Value.bool true) _ (op_assign rfl) rfl ?_
      refine WL.nil ?_
      show W _ _ _ _ _ _
      refine W.ret ?_
      obtain rfl := Option.some.inj h
      show FinP _ _ _ _ _ _ _
      exact FinP.ret _ (res1 rfl rfl) ⟨rfl, hS130.ext⟩

theorem c_laws_eqInt64SS {w : World} {a : (List (List Int))} {v_a : Value} {b : (List (List Int))} {v_b : Value} (r_a : (Ty.sl (Ty.sl (Ty.i .i64))).rep w v_a a) (r_b : (Ty.sl (Ty.sl (Ty.i .i64))).rep w v_b b) {res : Bool} (h : p_laws_eqInt64SS a b  = some res) :
    Ret Try.prog 70 #[v_a, v_b] w (fun v w' => v = Value.bool res ∧ Ext w w') := by
  unfold p_laws_eqInt64SS at h
  have hS0 : St w w [] := St.start w
  refine Ret.start (fn := Try.f70) Try.func70 rfl 27 rfl rfl ?_
  refine W.seq ?_
  refine W.region ?_
  refine WL.val (Value.bool false) _ (op_assign rfl) rfl ?_
  refine WL.nil ?_
  show W _ _ _ _ _ _
  refine W.seq ?_
  refine W.seq ?_
  refine W.region ?_
  refine WL.val v_a _ (op_move rfl) rfl ?_
  have hr1 := inR_len (Ty.lift _ hS0.ext r_a)
  refine WL.val (Value.int .i64 ((a).length : Int)) _ (op_lenL sl_61 (Ty.lift _ hS0.ext r_a) rfl) rfl ?_
  refine WL.val v_b _ (op_move rfl) rfl ?_
  have hr2 := inR_len (Ty.lift _ hS0.ext r_b)
  refine WL.val (Value.int .i64 ((b).length : Int)) _ (op_lenL sl_61 (Ty.lift _ hS0.ext r_b) rfl) rfl ?_
  refine WL.val (Value.bool (((a).length : Int) != ((b).length : Int))) _ (op_neq rfl rfl) rfl ?_
  refine WL.nil ?_
  show W _ _ _ _ _ _
  refine W.cond (((a).length : Int) != ((b).length : Int)) rfl (fun hc3 => ?_) (fun hc3 => ?_)
  · replace h := ip h hc3
    refine W.seq ?_
    refine W.region ?_
    refine WL.val (Value.bool false) _ (op_assign rfl) rfl ?_
    refine WL.nil ?_
    show W _ _ _ _ _ _
    refine W.ret ?_
    obtain rfl := Option.some.inj h
    show FinP _ _ _ _ _ _ _
    exact FinP.ret _ (res1 rfl rfl) ⟨rfl, hS0.ext⟩
  · replace h := inegb h hc3
    refine W.skip ?_
    show W _ _ _ _ _ _
    refine W.seq ?_
    refine W.seq ?_
    refine W.region ?_
    refine WL.val (Value.int .i64 (0 : Int)) _ (op_assign rfl) rfl ?_
    refine WL.nil ?_
    show W _ _ _ _ _ _
    obtain ⟨res5, hres6, h⟩ := bs h
    refine W.blockLoop (fun fq wq => ∃ s, res5 = Res.fin s ∧ St w wq []) ?_ ?_
    · refine W.forN (fun k s fq wq => fq 0 = v_a ∧ fq 1 = v_b ∧ fq 5 = Value.int .i64 (k : Int) ∧ InR .i64 (k : Int) ∧ St w wq []) hres6 ⟨rfl, rfl, rfl, (inR_i64.2 (show (-9223372036854775808 : Int) ≤ 0 ∧ (0 : Int) ≤ 9223372036854775807 from by decide)), hS0⟩ ?_ ?_
      · intro k7 s117 ct8 f9 wd10 hk11 hb12 hI13 hbrk14 hret15
        obtain ⟨⟩ := s117
        replace hI13 : f9 0 = v_a ∧ f9 1 = v_b ∧ f9 5 = Value.int .i64 (k7 : Int) ∧ InR .i64 (k7 : Int) ∧ St w wd10 [] := hI13
        replace hb12 : p_laws_eqInt64SS_L1 a b k7  = some ct8 := hb12
        unfold p_laws_eqInt64SS_L1 at hb12
        obtain ⟨hf16, hf17, hf18, hr19, hS20⟩ := hI13
        refine W.seq ?_
        refine W.seq ?_
        refine W.region ?_
        refine WL.val (Value.int .i64 (k7 : Int)) _ (op_move hf18) rfl ?_
        refine WL.val v_a _ (op_move hf16) rfl ?_
        have hr21 := inR_len (Ty.lift _ hS20.ext r_a)
        refine WL.val (Value.int .i64 ((a).length : Int)) _ (op_lenL sl_61 (Ty.lift _ hS20.ext r_a) rfl) rfl ?_
        refine WL.val (Value.bool (decide ((k7 : Int) < ((a).length : Int)))) _ (op_lss rfl rfl) rfl ?_
        have hl22 : (k7 : Int) < ((a).length : Int) := by omega
        refine WL.nil ?_
        show W _ _ _ _ _ _
        refine W.condT (decide ((k7 : Int) < ((a).length : Int))) rfl (decide_eq_true hl22) ?_
        refine W.skip ?_
        show W _ _ _ _ _ _
        refine W.seq ?_
        refine W.block ?_
        refine W.seq ?_
        obtain ⟨x47, hx50, hb12⟩ := bs hb12
        obtain ⟨ha48, hb49, hx50⟩ := idx_some hx50
        obtain ⟨u58, hc59, hr60⟩ := repSl.el r_a hx50
        obtain ⟨x84, hx87, hb12⟩ := bs hb12
        obtain ⟨ha85, hb86, hx87⟩ := idx_some hx87
        obtain ⟨u95, hc96, hr97⟩ := repSl.el r_b hx87
        refine W.draw mixo 8 [fun v _ => v = v_a, fun v _ => v = (Value.int .i64 (k7 : Int)) ∧ InR .i64 (k7 : Int), fun v _ => v = (Value.pointer (some (elA v_a ((k7 : Int)).toNat))), fun v _ => v = u58, fun v _ => v = v_b, fun v _ => v = (Value.int .i64 (k7 : Int)) ∧ InR .i64 (k7 : Int), fun v _ => v = (Value.pointer (some (elA v_b ((k7 : Int)).toNat))), fun v _ => v = u95] (by kernel_rfl) (by kernel_rfl) (stabL ⟨(fun _ _ _ _ h => h), (fun _ _ _ _ h => h), (fun _ _ _ _ h => h), (fun _ _ _ _ h => h), (fun _ _ _ _ h => h), (fun _ _ _ _ h => h), (fun _ _ _ _ h => h), (fun _ _ _ _ h => h), trivial⟩) ⟨?_, ?_, ?_, ?_, ?_, ?_, ?_, ?_, trivial⟩ ?_
        · intro f24 wd25 he26 hout27 hphi28
          have hS29 : St w wd25 [] := St.extend hS20 he26
          have e30 : f24 0 = v_a := (hout27 0 rfl).trans hf16
          exact OpY.val v_a wd25 rfl (op_move e30) (Ext.refl _) rfl
        · intro f31 wd32 he33 hout34 hphi35
          have hS36 : St w wd32 [] := St.extend hS20 he33
          have e37 : f31 5 = (Value.int .i64 (k7 : Int)) := (hout34 5 rfl).trans hf18
          exact OpY.val (Value.int .i64 (k7 : Int)) wd32 rfl (op_move e37) (Ext.refl _) ⟨rfl, hr19⟩
        · intro f38 wd39 he40 hout41 hphi42
          have hS43 : St w wd39 [] := St.extend hS20 he40
          have e44 : f38 17 = v_a := hphi42 0 17 _ rfl rfl rfl
          obtain ⟨e45, hr46⟩ : f38 18 = (Value.int .i64 (k7 : Int)) ∧ InR .i64 (k7 : Int) := hphi42 1 18 _ rfl rfl rfl
          exact OpY.val (Value.pointer (some (elA v_a ((k7 : Int)).toNat))) wd39 rfl (op_idx sl_61 (Ty.lift _ hS43.ext r_a) e44 e45 ha48 hb49) (Ext.refl _) rfl
        · intro f51 wd52 he53 hout54 hphi55
          have hS56 : St w wd52 [] := St.extend hS20 he53
          have e57 : f51 19 = (Value.pointer (some (elA v_a ((k7 : Int)).toNat))) := hphi55 2 19 _ rfl rfl rfl
          exact OpY.val u58 wd52 rfl (op_load one_25 e57 (Ext.cell hS56.ext hc59)) (Ext.refl _) rfl
        · intro f61 wd62 he63 hout64 hphi65
          have hS66 : St w wd62 [] := St.extend hS20 he63
          have e67 : f61 1 = v_b := (hout64 1 rfl).trans hf17
          exact OpY.val v_b wd62 rfl (op_move e67) (Ext.refl _) rfl
        · intro f68 wd69 he70 hout71 hphi72
          have hS73 : St w wd69 [] := St.extend hS20 he70
          have e74 : f68 5 = (Value.int .i64 (k7 : Int)) := (hout71 5 rfl).trans hf18
          exact OpY.val (Value.int .i64 (k7 : Int)) wd69 rfl (op_move e74) (Ext.refl _) ⟨rfl, hr19⟩
        · intro f75 wd76 he77 hout78 hphi79
          have hS80 : St w wd76 [] := St.extend hS20 he77
          have e81 : f75 21 = v_b := hphi79 4 21 _ rfl rfl rfl
          obtain ⟨e82, hr83⟩ : f75 22 = (Value.int .i64 (k7 : Int)) ∧ InR .i64 (k7 : Int) := hphi79 5 22 _ rfl rfl rfl
          exact OpY.val (Value.pointer (some (elA v_b ((k7 : Int)).toNat))) wd76 rfl (op_idx sl_61 (Ty.lift _ hS80.ext r_b) e81 e82 ha85 hb86) (Ext.refl _) rfl
        · intro f88 wd89 he90 hout91 hphi92
          have hS93 : St w wd89 [] := St.extend hS20 he90
          have e94 : f88 23 = (Value.pointer (some (elA v_b ((k7 : Int)).toNat))) := hphi92 6 23 _ rfl rfl rfl
          exact OpY.val u95 wd89 rfl (op_load one_25 e94 (Ext.cell hS93.ext hc96)) (Ext.refl _) rfl
        · intro f98 wd99 he100 hout101 hphi102
          show WL _ _ _ _ _ _ _
          have hS103 : St w wd99 [] := St.extend hS20 he100
          have e104 : f98 20 = u58 := hphi102 3 20 _ (by decide) rfl rfl
          have e105 : f98 24 = u95 := hphi102 7 24 _ (by decide) rfl rfl
          have e106 : f98 0 = v_a := (hout101 0 rfl).trans hf16
          have e107 : f98 1 = v_b := (hout101 1 rfl).trans hf17
          have e108 : f98 5 = (Value.int .i64 (k7 : Int)) := (hout101 5 rfl).trans hf18
          obtain ⟨x109, hx110, hb12⟩ := bs hb12
          refine WL.call _ (op_call fn_17 (args2 e104 e105)) (c_laws_eqInt64S (Ty.lift _ hS103.ext hr60) (Ty.lift _ hS103.ext hr97) hx110) rfl ?_
          rintro _ wd111 ⟨rfl, he112⟩
          have hS114 := St.extend hS103 he112
          replace hS114 : St w wd111 [] := hS114
          refine WL.val (Value.bool (!x109)) _ (op_not rfl) rfl ?_
          refine WL.nil ?_
          show W _ _ _ _ _ _
          refine W.cond (!x109) rfl (fun hc115 => ?_) (fun hc115 => ?_)
          · replace hb12 := ip hb12 hc115
            refine W.seq ?_
            refine W.region ?_
            refine WL.val (Value.bool false) _ (op_assign rfl) rfl ?_
            refine WL.nil ?_
            show W _ _ _ _ _ _
            refine W.ret ?_
            obtain rfl := Option.some.inj hb12
            obtain rfl := hret15 _ rfl
            replace h := onRes_ret h
            obtain rfl := Option.some.inj h
            show FinP _ _ _ _ _ _ _
            exact FinP.ret _ (res1 rfl rfl) ⟨rfl, hS114.ext⟩
          · replace hb12 := inegb hb12 hc115
            refine W.skip ?_
            show W _ _ _ _ _ _
            refine W.region ?_
            refine WL.val (Value.int .i64 (k7 : Int)) _ (op_move e108) rfl ?_
            refine WL.val (Value.int .i64 (w64 ((k7 : Int) + (1 : Int)))) _ (op_add rfl rfl) rfl ?_
            refine WL.val (Value.int .i64 (w64 ((k7 : Int) + (1 : Int)))) _ (op_assign rfl) rfl ?_
            refine WL.nil ?_
            obtain rfl := Option.some.inj hb12
            show ∃ s, _ = Ctl.next s ∧ _
            exact ⟨_, rfl, e106, e107, (ctr_next hl22 hr21), (ctr_rng hl22 hr21), hS114⟩
      · intro s122 f118 wd119 hs120 hI121
        obtain ⟨⟩ := s122
        replace hI121 : f118 0 = v_a ∧ f118 1 = v_b ∧ f118 5 = Value.int .i64 (((a).length : Nat) : Int) ∧ InR .i64 (((a).length : Nat) : Int) ∧ St w wd119 [] := hI121
        obtain ⟨hf123, hf124, hf125, hr126, hS127⟩ := hI121
        refine W.seq ?_
        refine W.seq ?_
        refine W.region ?_
        refine WL.val (Value.int .i64 (((a).length : Nat) : Int)) _ (op_move hf125) rfl ?_
        refine WL.val v_a _ (op_move hf123) rfl ?_
        have hr128 := inR_len (Ty.lift _ hS127.ext r_a)
        refine WL.val (Value.int .i64 ((a).length : Int)) _ (op_lenL sl_61 (Ty.lift _ hS127.ext r_a) rfl) rfl ?_
        refine WL.val (Value.bool (decide ((((a).length : Nat) : Int) < ((a).length : Int)))) _ (op_lss rfl rfl) rfl ?_
        have hl129 : ¬ (((a).length : Nat) : Int) < ((a).length : Int) := by omega
        refine WL.nil ?_
        show W _ _ _ _ _ _
        refine W.condF (decide ((((a).length : Nat) : Int) < ((a).length : Int))) rfl (decide_eq_false hl129) ?_
        refine W.exit ?_
        show _ = _ ∧ _
        exact ⟨rfl, _, hs120, hS127⟩
    · rintro f130 wd131 ⟨s133, rfl, hq132⟩
      replace h := onRes_fin h
      obtain ⟨⟩ := s133
      replace hq132 : St w wd131 [] := hq132
      have hS134 := hq132
      show W _ _ _ _ _ _
      refine W.seq ?_
      refine W.region ?_
      refine WL.val (Value.bool true) _ (op_assign rfl) rfl ?_
      refine WL.nil ?_
      show W _ _ _ _ _ _
      refine W.ret ?_
      obtain rfl := Option.some.inj h
      show FinP _ _ _ _ _ _ _
      exact FinP.ret _ (res1 rfl rfl) ⟨rfl, hS134.ext⟩

theorem c_laws_eqInt64SSS {w : World} {a : (List (List (List Int)))} {v_a : Value} {b : (List (List (List Int)))} {v_b : Value} (r_a : (Ty.sl (Ty.sl (Ty.sl (Ty.i .i64)))).rep w v_a a) (r_b : (Ty.sl (Ty.sl (Ty.sl (Ty.i .i64)))).rep w v_b b) {res : Bool} (h : p_laws_eqInt64SSS a b  = some res) :
    Ret Try.prog 44 #[v_a, v_b] w (fun v w' => v = Value.bool res ∧ Ext w w') := by
  unfold p_laws_eqInt64SSS at h
  have hS0 : St w w [] := St.start w
  refine Ret.start (fn := Try.f44) Try.func44 rfl 27 rfl rfl ?_
  refine W.seq ?_
  refine W.region ?_
  refine WL.val (Value.bool false) _ (op_assign rfl) rfl ?_
  refine WL.nil ?_
  show W _ _ _ _ _ _
  refine W.seq ?_
  refine W.seq ?_
  refine W.region ?_
  refine WL.val v_a _ (op_move rfl) rfl ?_
  have hr1 := inR_len (Ty.lift _ hS0.ext r_a)
  refine WL.val (Value.int .i64 ((a).length : Int)) _ (op_lenL sl_22 (Ty.lift _ hS0.ext r_a) rfl) rfl ?_
  refine WL.val v_b _ (op_move rfl) rfl ?_
  have hr2 := inR_len (Ty.lift _ hS0.ext r_b)
  refine WL.val (Value.int .i64 ((b).length : Int)) _ (op_lenL sl_22 (Ty.lift _ hS0.ext r_b) rfl) rfl ?_
  refine WL.val (Value.bool (((a).length : Int) != ((b).length : Int))) _ (op_neq rfl rfl) rfl ?_
  refine WL.nil ?_
  show W _ _ _ _ _ _
  refine W.cond (((a).length : Int) != ((b).length : Int)) rfl (fun hc3 => ?_) (fun hc3 => ?_)
  · replace h := ip h hc3
    refine W.seq ?_
    refine W.region ?_
    refine WL.val (Value.bool false) _ (op_assign rfl) rfl ?_
    refine WL.nil ?_
    show W _ _ _ _ _ _
    refine W.ret ?_
    obtain rfl := Option.some.inj h
    show FinP _ _ _ _ _ _ _
    exact FinP.ret _ (res1 rfl rfl) ⟨rfl, hS0.ext⟩
  · replace h := inegb h hc3
    refine W.skip ?_
    show W _ _ _ _ _ _
    refine W.seq ?_
    refine W.seq ?_
    refine W.region ?_
    refine WL.val (Value.int .i64 (0 : Int)) _ (op_assign rfl) rfl ?_
    refine WL.nil ?_
    show W _ _ _ _ _ _
    obtain ⟨res5, hres6, h⟩ := bs h
    refine W.blockLoop (fun fq wq => ∃ s, res5 = Res.fin s ∧ St w wq []) ?_ ?_
    · refine W.forN (fun k s fq wq => fq 0 = v_a ∧ fq 1 = v_b ∧ fq 5 = Value.int .i64 (k : Int) ∧ InR .i64 (k : Int) ∧ St w wq []) hres6 ⟨rfl, rfl, rfl, (inR_i64.2 (show (-9223372036854775808 : Int) ≤ 0 ∧ (0 : Int) ≤ 9223372036854775807 from by decide)), hS0⟩ ?_ ?_
      · intro k7 s117 ct8 f9 wd10 hk11 hb12 hI13 hbrk14 hret15
        obtain ⟨⟩ := s117
        replace hI13 : f9 0 = v_a ∧ f9 1 = v_b ∧ f9 5 = Value.int .i64 (k7 : Int) ∧ InR .i64 (k7 : Int) ∧ St w wd10 [] := hI13
        replace hb12 : p_laws_eqInt64SSS_L1 a b k7  = some ct8 := hb12
        unfold p_laws_eqInt64SSS_L1 at hb12
        obtain ⟨hf16, hf17, hf18, hr19, hS20⟩ := hI13
        refine W.seq ?_
        refine W.seq ?_
        refine W.region ?_
        refine WL.val (Value.int .i64 (k7 : Int)) _ (op_move hf18) rfl ?_
        refine WL.val v_a _ (op_move hf16) rfl ?_
        have hr21 := inR_len (Ty.lift _ hS20.ext r_a)
        refine WL.val (Value.int .i64 ((a).length : Int)) _ (op_lenL sl_22 (Ty.lift _ hS20.ext r_a) rfl) rfl ?_
        refine WL.val (Value.bool (decide ((k7 : Int) < ((a).length : Int)))) _ (op_lss rfl rfl) rfl ?_
        have hl22 : (k7 : Int) < ((a).length : Int) := by omega
        refine WL.nil ?_
        show W _ _ _ _ _ _
        refine W.condT (decide ((k7 : Int) < ((a).length : Int))) rfl (decide_eq_true hl22) ?_
        refine W.skip ?_
        show W _ _ _ _ _ _
        refine W.seq ?_
        refine W.block ?_
        refine W.seq ?_
        obtain ⟨x47, hx50, hb12⟩ := bs hb12
        obtain ⟨ha48, hb49, hx50⟩ := idx_some hx50
        obtain ⟨u58, hc59, hr60⟩ := repSl.el r_a hx50
        obtain ⟨x84, hx87, hb12⟩ := bs hb12
        obtain ⟨ha85, hb86, hx87⟩ := idx_some hx87
        obtain ⟨u95, hc96, hr97⟩ := repSl.el r_b hx87
        refine W.draw mixo 8 [fun v _ => v = v_a, fun v _ => v = (Value.int .i64 (k7 : Int)) ∧ InR .i64 (k7 : Int), fun v _ => v = (Value.pointer (some (elA v_a ((k7 : Int)).toNat))), fun v _ => v = u58, fun v _ => v = v_b, fun v _ => v = (Value.int .i64 (k7 : Int)) ∧ InR .i64 (k7 : Int), fun v _ => v = (Value.pointer (some (elA v_b ((k7 : Int)).toNat))), fun v _ => v = u95] (by kernel_rfl) (by kernel_rfl) (stabL ⟨(fun _ _ _ _ h => h), (fun _ _ _ _ h => h), (fun _ _ _ _ h => h), (fun _ _ _ _ h => h), (fun _ _ _ _ h => h), (fun _ _ _ _ h => h), (fun _ _ _ _ h => h), (fun _ _ _ _ h => h), trivial⟩) ⟨?_, ?_, ?_, ?_, ?_, ?_, ?_, ?_, trivial⟩ ?_
        · intro f24 wd25 he26 hout27 hphi28
          have hS29 : St w wd25 [] := St.extend hS20 he26
          have e30 : f24 0 = v_a := (hout27 0 rfl).trans hf16
          exact OpY.val v_a wd25 rfl (op_move e30) (Ext.refl _) rfl
        · intro f31 wd32 he33 hout34 hphi35
          have hS36 : St w wd32 [] := St.extend hS20 he33
          have e37 : f31 5 = (Value.int .i64 (k7 : Int)) := (hout34 5 rfl).trans hf18
          exact OpY.val (Value.int .i64 (k7 : Int)) wd32 rfl (op_move e37) (Ext.refl _) ⟨rfl, hr19⟩
        · intro f38 wd39 he40 hout41 hphi42
          have hS43 : St w wd39 [] := St.extend hS20 he40
          have e44 : f38 17 = v_a := hphi42 0 17 _ rfl rfl rfl
          obtain ⟨e45, hr46⟩ : f38 18 = (Value.int .i64 (k7 : Int)) ∧ InR .i64 (k7 : Int) := hphi42 1 18 _ rfl rfl rfl
          exact OpY.val (Value.pointer (some (elA v_a ((k7 : Int)).toNat))) wd39 rfl (op_idx sl_22 (Ty.lift _ hS43.ext r_a) e44 e45 ha48 hb49) (Ext.refl _) rfl
        · intro f51 wd52 he53 hout54 hphi55
          have hS56 : St w wd52 [] := St.extend hS20 he53
          have e57 : f51 19 = (Value.pointer (some (elA v_a ((k7 : Int)).toNat))) := hphi55 2 19 _ rfl rfl rfl
          exact OpY.val u58 wd52 rfl (op_load one_61 e57 (Ext.cell hS56.ext hc59)) (Ext.refl _) rfl
        · intro f61 wd62 he63 hout64 hphi65
          have hS66 : St w wd62 [] := St.extend hS20 he63
          have e67 : f61 1 = v_b := (hout64 1 rfl).trans hf17
          exact OpY.val v_b wd62 rfl (op_move e67) (Ext.refl _) rfl
        · intro f68 wd69 he70 hout71 hphi72
          have hS73 : St w wd69 [] := St.extend hS20 he70
          have e74 : f68 5 = (Value.int .i64 (k7 : Int)) := (hout71 5 rfl).trans hf18
          exact OpY.val (Value.int .i64 (k7 : Int)) wd69 rfl (op_move e74) (Ext.refl _) ⟨rfl, hr19⟩
        · intro f75 wd76 he77 hout78 hphi79
          have hS80 : St w wd76 [] := St.extend hS20 he77
          have e81 : f75 21 = v_b := hphi79 4 21 _ rfl rfl rfl
          obtain ⟨e82, hr83⟩ : f75 22 = (Value.int .i64 (k7 : Int)) ∧ InR .i64 (k7 : Int) := hphi79 5 22 _ rfl rfl rfl
          exact OpY.val (Value.pointer (some (elA v_b ((k7 : Int)).toNat))) wd76 rfl (op_idx sl_22 (Ty.lift _ hS80.ext r_b) e81 e82 ha85 hb86) (Ext.refl _) rfl
        · intro f88 wd89 he90 hout91 hphi92
          have hS93 : St w wd89 [] := St.extend hS20 he90
          have e94 : f88 23 = (Value.pointer (some (elA v_b ((k7 : Int)).toNat))) := hphi92 6 23 _ rfl rfl rfl
          exact OpY.val u95 wd89 rfl (op_load one_61 e94 (Ext.cell hS93.ext hc96)) (Ext.refl _) rfl
        · intro f98 wd99 he100 hout101 hphi102
          show WL _ _ _ _ _ _ _
          have hS103 : St w wd99 [] := St.extend hS20 he100
          have e104 : f98 20 = u58 := hphi102 3 20 _ (by decide) rfl rfl
          have e105 : f98 24 = u95 := hphi102 7 24 _ (by decide) rfl rfl
          have e106 : f98 0 = v_a := (hout101 0 rfl).trans hf16
          have e107 : f98 1 = v_b := (hout101 1 rfl).trans hf17
          have e108 : f98 5 = (Value.int .i64 (k7 : Int)) := (hout101 5 rfl).trans hf18
          obtain ⟨x109, hx110, hb12⟩ := bs hb12
          refine WL.call _ (op_call fn_70 (args2 e104 e105)) (c_laws_eqInt64SS (Ty.lift _ hS103.ext hr60) (Ty.lift _ hS103.ext hr97) hx110) rfl ?_
          rintro _ wd111 ⟨rfl, he112⟩
          have hS114 := St.extend hS103 he112
          replace hS114 : St w wd111 [] := hS114
          refine WL.val (Value.bool (!x109)) _ (op_not rfl) rfl ?_
          refine WL.nil ?_
          show W _ _ _ _ _ _
          refine W.cond (!x109) rfl (fun hc115 => ?_) (fun hc115 => ?_)
          · replace hb12 := ip hb12 hc115
            refine W.seq ?_
            refine W.region ?_
            refine WL.val (Value.bool false) _ (op_assign rfl) rfl ?_
            refine WL.nil ?_
            show W _ _ _ _ _ _
            refine W.ret ?_
            obtain rfl := Option.some.inj hb12
            obtain rfl := hret15 _ rfl
            replace h := onRes_ret h
            obtain rfl := Option.some.inj h
            show FinP _ _ _ _ _ _ _
            exact FinP.ret _ (res1 rfl rfl) ⟨rfl, hS114.ext⟩
          · replace hb12 := inegb hb12 hc115
            refine W.skip ?_
            show W _ _ _ _ _ _
            refine W.region ?_
            refine WL.val (Value.int .i64 (k7 : Int)) _ (op_move e108) rfl ?_
            refine WL.val (Value.int .i64 (w64 ((k7 : Int) + (1 : Int)))) _ (op_add rfl rfl) rfl ?_
            refine WL.val (Value.int .i64 (w64 ((k7 : Int) + (1 : Int)))) _ (op_assign rfl) rfl ?_
            refine WL.nil ?_
            obtain rfl := Option.some.inj hb12
            show ∃ s, _ = Ctl.next s ∧ _
            exact ⟨_, rfl, e106, e107, (ctr_next hl22 hr21), (ctr_rng hl22 hr21), hS114⟩
      · intro s122 f118 wd119 hs120 hI121
        obtain ⟨⟩ := s122
        replace hI121 : f118 0 = v_a ∧ f118 1 = v_b ∧ f118 5 = Value.int .i64 (((a).length : Nat) : Int) ∧ InR .i64 (((a).length : Nat) : Int) ∧ St w wd119 [] := hI121
        obtain ⟨hf123, hf124, hf125, hr126, hS127⟩ := hI121
        refine W.seq ?_
        refine W.seq ?_
        refine W.region ?_
        refine WL.val (Value.int .i64 (((a).length : Nat) : Int)) _ (op_move hf125) rfl ?_
        refine WL.val v_a _ (op_move hf123) rfl ?_
        have hr128 := inR_len (Ty.lift _ hS127.ext r_a)
        refine WL.val (Value.int .i64 ((a).length : Int)) _ (op_lenL sl_22 (Ty.lift _ hS127.ext r_a) rfl) rfl ?_
        refine WL.val (Value.bool (decide ((((a).length : Nat) : Int) < ((a).length : Int)))) _ (op_lss rfl rfl) rfl ?_
        have hl129 : ¬ (((a).length : Nat) : Int) < ((a).length : Int) := by omega
        refine WL.nil ?_
        show W _ _ _ _ _ _
        refine W.condF (decide ((((a).length : Nat) : Int) < ((a).length : Int))) rfl (decide_eq_false hl129) ?_
        refine W.exit ?_
        show _ = _ ∧ _
        exact ⟨rfl, _, hs120, hS127⟩
    · rintro f130 wd131 ⟨s133, rfl, hq132⟩
      replace h := onRes_fin h
      obtain ⟨⟩ := s133
      replace hq132 : St w wd131 [] := hq132
      have hS134 := hq132
      show W _ _ _ _ _ _
      refine W.seq ?_
      refine W.region ?_
      refine WL.val (Value.bool true) _ (op_assign rfl) rfl ?_
      refine WL.nil ?_
      show W _ _ _ _ _ _
      refine W.ret ?_
      obtain rfl := Option.some.inj h
      show FinP _ _ _ _ _ _ _
      exact FinP.ret _ (res1 rfl rfl) ⟨rfl, hS134.ext⟩

theorem c_laws_eqRing {w : World} {a_Table : (List (List (List Int)))} {v_a_Table : Value} {b_Table : (List (List (List Int)))} {v_b_Table : Value} (r_a_Table : (Ty.sl (Ty.sl (Ty.sl (Ty.i .i64)))).rep w v_a_Table a_Table) (r_b_Table : (Ty.sl (Ty.sl (Ty.sl (Ty.i .i64)))).rep w v_b_Table b_Table) {res : Bool} (h : p_laws_eqRing a_Table b_Table  = some res) :
    Ret Try.prog 16 #[(Value.agg #[v_a_Table]), (Value.agg #[v_b_Table])] w (fun v w' => v = Value.bool res ∧ Ext w w') := by
  unfold p_laws_eqRing at h
  have hS0 : St w w [] := St.start w
  refine Ret.start (fn := Try.f16) Try.func16 rfl 11 rfl rfl ?_
  refine W.seq ?_
  refine W.region ?_
  refine WL.box hS0 rfl (cs := [v_a_Table]) rfl rfl ?_
  intro b1 wd2 hS3 he4 hx5
  replace hS3 : St w wd2 [bx b1 [v_a_Table]] := hS3
  have hx6 := St.boxAt hS3 0 rfl
  have hE7 : Ext w wd2 := hS3.ext
  have hS8 : St wd2 wd2 [] := St.start wd2
  refine WL.box hS8 rfl (cs := [v_b_Table]) rfl rfl ?_
  intro b9 wd10 hS11 he12 hx13
  replace hS11 : St wd2 wd10 [bx b9 [v_b_Table]] := hS11
  have hx14 := St.boxAt hS11 0 rfl
  have hE15 : Ext w wd10 := (Ext.trans hE7 hS11.ext)
  have hE16 : Ext wd2 wd10 := hS11.ext
  have hS17 : St wd10 wd10 [] := St.start wd10
  refine WL.val (Value.bool false) _ (op_assign rfl) rfl ?_
  refine WL.nil ?_
  show W _ _ _ _ _ _
  refine W.seq ?_
  refine W.seq ?_
  refine W.region ?_
  refine WL.val (Value.pointer (some ⟨b1, 0, none⟩)) _ (op_fieldAddr fd_29_0 rfl) rfl ?_
  refine WL.val v_a_Table _ (op_load one_22 rfl (BoxAt.cell (BoxAt.lift (Ext.trans hE16 hS17.ext) hx6) rfl)) rfl ?_
  refine WL.val (Value.pointer (some ⟨b9, 0, none⟩)) _ (op_fieldAddr fd_29_0 rfl) rfl ?_
  refine WL.val v_b_Table _ (op_load one_22 rfl (BoxAt.cell (BoxAt.lift hS17.ext hx14) rfl)) rfl ?_
  obtain ⟨x18, hx19, h⟩ := bs h
  refine WL.call _ (op_call fn_44 (args2 rfl rfl)) (c_laws_eqInt64SSS (Ty.lift _ (Ext.trans hE15 hS17.ext) r_a_Table) (Ty.lift _ (Ext.trans hE15 hS17.ext) r_b_Table) hx19) rfl ?_
  rintro _ wd20 ⟨rfl, he21⟩
  have hS23 := St.extend hS17 he21
  replace hS23 : St wd10 wd20 [] := hS23
  refine WL.val (Value.bool (!x18)) _ (op_not rfl) rfl ?_
  refine WL.nil ?_
  show W _ _ _ _ _ _
  refine W.cond (!x18) rfl (fun hc24 => ?_) (fun hc24 => ?_)
  · replace h := ip h hc24
    refine W.seq ?_
    refine W.region ?_
    refine WL.val (Value.bool false) _ (op_assign rfl) rfl ?_
    refine WL.nil ?_
    show W _ _ _ _ _ _
    refine W.ret ?_
    obtain rfl := Option.some.inj h
    show FinP _ _ _ _ _ _ _
    exact FinP.ret _ (res1 rfl rfl) ⟨rfl, (Ext.trans hE15 hS23.ext)⟩
  · replace h := inegb h hc24
    refine W.skip ?_
    show W _ _ _ _ _ _
    refine W.seq ?_
    refine W.region ?_
    refine WL.val (Value.bool true) _ (op_assign rfl) rfl ?_
    refine WL.nil ?_
    show W _ _ _ _ _ _
    refine W.ret ?_
    obtain rfl := Option.some.inj h
    show FinP _ _ _ _ _ _ _
    exact FinP.ret _ (res1 rfl rfl) ⟨rfl, (Ext.trans hE15 hS23.ext)⟩

theorem c_laws_FnExactIsDimension {w : World} {aR_Table : (List (List (List Int)))} {v_aR_Table : Value} {aD : (List Int)} {v_aD : Value} (r_aR_Table : (Ty.sl (Ty.sl (Ty.sl (Ty.i .i64)))).rep w v_aR_Table aR_Table) (r_aD : (Ty.sl (Ty.i .i64)).rep w v_aD aD) {res : Bool} (h : p_laws_FnExactIsDimension aR_Table aD  = some res) :
    Ret Try.prog 3 #[(Value.agg #[v_aR_Table]), v_aD] w (fun v w' => v = Value.bool res ∧ Ext w w') := by
  unfold p_laws_FnExactIsDimension at h
  have hS0 : St w w [] := St.start w
  refine Ret.start (fn := Try.f3) Try.func3 rfl 56 rfl rfl ?_
  refine W.seq ?_
  refine W.region ?_
  refine WL.box hS0 rfl (cs := [v_aR_Table]) rfl rfl ?_
  intro b1 wd2 hS3 he4 hx5
  replace hS3 : St w wd2 [bx b1 [v_aR_Table]] := hS3
  have hx6 := St.boxAt hS3 0 rfl
  have hE7 : Ext w wd2 := hS3.ext
  have hS8 : St wd2 wd2 [] := St.start wd2
  refine WL.val (Value.bool false) _ (op_assign rfl) rfl ?_
  refine WL.nil ?_
  show W _ _ _ _ _ _
  refine W.seq ?_
  refine W.seq ?_
  refine W.region ?_
  refine WL.val v_aD _ (op_move rfl) rfl ?_
  have hr9 := inR_len (Ty.lift _ (Ext.trans hE7 hS8.ext) r_aD)
  refine WL.val (Value.int .i64 ((aD).length : Int)) _ (op_lenL sl_25 (Ty.lift _ (Ext.trans hE7 hS8.ext) r_aD) rfl) rfl ?_
  refine WL.val (Value.bool (decide (((aD).length : Int) > (1048576 : Int)))) _ (op_gtr rfl rfl) rfl ?_
  refine WL.nil ?_
  show W _ _ _ _ _ _
  refine W.cond (decide (((aD).length : Int) > (1048576 : Int))) rfl (fun hc10 => ?_) (fun hc10 => ?_)
  · replace h := ip h hc10
    refine W.seq ?_
    refine W.region ?_
    refine WL.val (Value.bool true) _ (op_assign rfl) rfl ?_
    refine WL.nil ?_
    show W _ _ _ _ _ _
    refine W.ret ?_
    obtain rfl := Option.some.inj h
    show FinP _ _ _ _ _ _ _
    exact FinP.ret _ (res1 rfl rfl) ⟨rfl, (Ext.trans hE7 hS8.ext)⟩
  · replace h := inegb h hc10
    refine W.skip ?_
    show W _ _ _ _ _ _
    refine W.seq ?_
    refine W.region ?_
    refine WL.val (Value.int .i64 (1048576 : Int)) _ (op_assign rfl) rfl ?_
    refine WL.nil ?_
    show W _ _ _ _ _ _
    refine W.seq ?_
    refine W.region ?_
    refine WL.val (Value.agg #[v_aR_Table]) _ (op_loadBox st_24 rfl (BoxAt.lift hS8.ext hx6) rfl rfl) rfl ?_
    refine WL.val (Value.int .i64 (1048576 : Int)) _ (op_move rfl) rfl ?_
    obtain ⟨x12, hx13, h⟩ := bs h
    refine WL.call _ (op_call fn_11 (args2 rfl rfl)) (c_laws_szRing (Ty.lift _ (Ext.trans hE7 hS8.ext) r_aR_Table) (inR_i64.2 (show (-9223372036854775808 : Int) ≤ 1048576 ∧ (1048576 : Int) ≤ 9223372036854775807 from by decide)) hx13) rfl ?_
    rintro _ wd15 ⟨rfl, hr14, he16⟩
    have hS18 := St.extend hS8 he16
    replace hS18 : St wd2 wd15 [] := hS18
    refine WL.val (Value.int .i64 x12) _ (op_assign rfl) rfl ?_
    refine WL.nil ?_
    show W _ _ _ _ _ _
    refine W.seq ?_
    refine W.seq ?_
    refine W.region ?_
    refine WL.val (Value.int .i64 x12) _ (op_move rfl) rfl ?_
    refine WL.val (Value.bool (decide (x12 < (0 : Int)))) _ (op_lss rfl rfl) rfl ?_
    refine WL.nil ?_
    show W _ _ _ _ _ _
    refine W.cond (decide (x12 < (0 : Int))) rfl (fun hc19 => ?_) (fun hc19 => ?_)
    · replace h := ip h hc19
      refine W.seq ?_
      refine W.region ?_
      refine WL.val (Value.bool true) _ (op_assign rfl) rfl ?_
      refine WL.nil ?_
      show W _ _ _ _ _ _
      refine W.ret ?_
      obtain rfl := Option.some.inj h
      show FinP _ _ _ _ _ _ _
      exact FinP.ret _ (res1 rfl rfl) ⟨rfl, (Ext.trans hE7 hS18.ext)⟩
    · replace h := inegb h hc19
      refine W.skip ?_
      show W _ _ _ _ _ _
      refine W.seq ?_
      refine W.region ?_
      refine WL.val (Value.agg #[v_aR_Table]) _ (op_loadBox st_24 rfl (BoxAt.lift hS18.ext hx6) rfl rfl) rfl ?_
      obtain ⟨x21, hx22, h⟩ := bs h
      refine WL.call _ (op_call fn_13 (args1 rfl)) (c_laws_toRing (Ty.lift _ (Ext.trans hE7 hS18.ext) r_aR_Table) hx22) rfl ?_
      rintro _ wd24 ⟨u23, rfl, he25, hs26⟩
      have hS27 := St.join hS18 he25 hs26
      replace hS27 : St wd2 wd24 [(Ty.sl (Ty.sl (Ty.sl (Ty.i .i64)))).at u23 x21] := hS27
      have hb28 := St.rep (t := (Ty.sl (Ty.sl (Ty.sl (Ty.i .i64))))) hS27 0 rfl
      have hE29 : Ext w wd24 := (Ext.trans hE7 hS27.ext)
      have hE30 : Ext wd2 wd24 := hS27.ext
      have hS31 : St wd24 wd24 [] := St.start wd24
      refine WL.val v_aD _ (op_move rfl) rfl ?_
      obtain ⟨x32, hx33, h⟩ := bs h
      refine WL.call _ (op_call fn_14 (args1 rfl)) (c_laws_toInt64S (Ty.lift _ (Ext.trans hE29 hS31.ext) r_aD) hx33) rfl ?_
      rintro u34 wd35 ⟨_, rfl, he36, hs37⟩
      have hS38 := St.join hS31 he36 hs37
      replace hS38 : St wd24 wd35 [(Ty.sl (Ty.i .i64)).at u34 x32] := hS38
      have hb39 := St.rep (t := (Ty.sl (Ty.i .i64))) hS38 0 rfl
      have hE40 : Ext w wd35 := (Ext.trans hE29 hS38.ext)
      have hE41 : Ext wd2 wd35 := (Ext.trans hE30 hS38.ext)
      have hE42 : Ext wd24 wd35 := hS38.ext
      have hS43 : St wd35 wd35 [] := St.start wd35
      obtain ⟨x44, hx45, h⟩ := bs h
      refine WL.call _ (op_call fn_12 (args2 rfl rfl)) (c_spec_IsDimension (Ty.lift _ (Ext.trans hE42 hS43.ext) hb28) (Ty.lift _ hS43.ext hb39) hx45) rfl ?_
      rintro _ wd47 ⟨rfl, hr46, he48⟩
      have hS50 := St.extend hS43 he48
      replace hS50 : St wd35 wd47 [] := hS50
      refine WL.val (Value.tuple #[(Value.bool x44.1), (Value.int .i64 x44.2)]) _ (op_move rfl) rfl ?_
      refine WL.val (Value.bool x44.1) _ (op_extract rfl rfl) rfl ?_
      refine WL.val (Value.int .i64 x44.2) _ (op_extract rfl rfl) rfl ?_
      refine WL.val (Value.bool x44.1) _ (op_assign rfl) rfl ?_
      refine WL.val (Value.int .i64 x44.2) _ (op_assign rfl) rfl ?_
      refine WL.nil ?_
      show W _ _ _ _ _ _
      refine W.seq ?_
      refine W.region ?_
      refine WL.val (Value.agg #[v_aR_Table]) _ (op_loadBox st_24 rfl (BoxAt.lift (Ext.trans hE41 hS50.ext) hx6) rfl rfl) rfl ?_
      obtain ⟨x51, hx52, h⟩ := bs h
      refine WL.call _ (op_call fn_13 (args1 rfl)) (c_laws_toRing (Ty.lift _ (Ext.trans hE40 hS50.ext) r_aR_Table) hx52) rfl ?_
      rintro _ wd54 ⟨u53, rfl, he55, hs56⟩
      have hS57 := St.join hS50 he55 hs56
      replace hS57 : St wd35 wd54 [(Ty.sl (Ty.sl (Ty.sl (Ty.i .i64)))).at u53 x51] := hS57
      refine WL.alloc hS57 ze_29 (cs := [(Value.slice none 0 0)]) rfl rfl ?_
      intro b58 wd59 hS60 he61
      replace hS60 : St wd35 wd59 [(Ty.sl (Ty.sl (Ty.sl (Ty.i .i64)))).at u53 x51, bx b58 [(Value.slice none 0 0)]] := hS60
      refine WL.storeBox [u53] hS60 (k := 1) rfl rfl rfl (us := [u53]) rfl sz_29 rfl rfl (all_rep (St.rep (t := (Ty.sl (Ty.sl (Ty.sl (Ty.i .i64))))) hS60 0 rfl) all_nil) rfl ?_
      intro wd62 hS63
      replace hS63 : St wd35 wd62 [(Ty.sl (Ty.sl (Ty.sl (Ty.i .i64)))).at u53 x51, bx b58 [u53]] := hS63
      refine WL.nil ?_
      show W _ _ _ _ _ _
      refine W.seq ?_
      refine W.region ?_
      refine WL.val v_aD _ (op_move rfl) rfl ?_
      obtain ⟨x64, hx65, h⟩ := bs h
      refine WL.call _ (op_call fn_14 (args1 rfl)) (c_laws_toInt64S (Ty.lift _ (Ext.trans hE40 hS63.ext) r_aD) hx65) rfl ?_
      rintro u66 wd67 ⟨_, rfl, he68, hs69⟩
      have hS70 := St.join hS63 he68 hs69
      replace hS70 : St wd35 wd67 [(Ty.sl (Ty.sl (Ty.sl (Ty.i .i64)))).at u53 x51, bx b58 [u53], (Ty.sl (Ty.i .i64)).at u66 x64] := hS70
      refine WL.val u66 _ (op_assign rfl) rfl ?_
      refine WL.nil ?_
      show W _ _ _ _ _ _
      refine W.seq ?_
      refine W.region ?_
      refine WL.val (Value.agg #[u53]) _ (op_loadBox st_29 rfl (St.boxAt hS70 1 rfl) rfl rfl) rfl ?_
      refine WL.val u66 _ (op_move rfl) rfl ?_
      obtain ⟨x71, hx72, h⟩ := bs h
      refine WL.call _ (op_call fn_15 (args2 rfl rfl)) (c_impl_IsDimension (St.rep (t := (Ty.sl (Ty.sl (Ty.sl (Ty.i .i64))))) hS70 0 rfl) (St.rep (t := (Ty.sl (Ty.i .i64))) hS70 2 rfl) hx72) rfl ?_
      rintro _ wd74 ⟨rfl, hr73, he75⟩
      have hS77 := St.extend hS70 he75
      replace hS77 : St wd35 wd74 [(Ty.sl (Ty.sl (Ty.sl (Ty.i .i64)))).at u53 x51, bx b58 [u53], (Ty.sl (Ty.i .i64)).at u66 x64] := hS77
      refine WL.val (Value.tuple #[(Value.bool x71.1), (Value.int .i64 x71.2)]) _ (op_move rfl) rfl ?_
      refine WL.val (Value.bool x71.1) _ (op_extract rfl rfl) rfl ?_
      refine WL.val (Value.int .i64 x71.2) _ (op_extract rfl rfl) rfl ?_
      refine WL.val (Value.bool x71.1) _ (op_assign rfl) rfl ?_
      refine WL.val (Value.int .i64 x71.2) _ (op_assign rfl) rfl ?_
      refine WL.nil ?_
      show W _ _ _ _ _ _
      refine W.seq ?_
      refine W.seq ?_
      refine W.region ?_
      refine WL.val (Value.bool x71.1) _ (op_move rfl) rfl ?_
      refine WL.val (Value.bool x44.1) _ (op_move rfl) rfl ?_
      refine WL.val (Value.bool (x71.1 != x44.1)) _ (op_bneq rfl rfl bt_4) rfl ?_
      refine WL.val (Value.bool (x71.1 != x44.1)) _ (op_move rfl) rfl ?_
      refine WL.cut 4 (fun fq wq => fq 1 = v_aD ∧ fq 2 = (Value.pointer (some ⟨b1, 0, none⟩)) ∧ fq 8 = (Value.pointer (some ⟨b58, 0, none⟩)) ∧ fq 9 = u66 ∧ fq 45 = (Value.bool ((x71.1 != x44.1) || (x71.2 != x44.2))) ∧ St wd35 wq [(Ty.sl (Ty.sl (Ty.sl (Ty.i .i64)))).at u53 x51, bx b58 [u53], (Ty.sl (Ty.i .i64)).at u66 x64]) ?_ ?_
      · rcases Bool.eq_false_or_eq_true (x71.1 != x44.1) with hc78 | hc78
        · refine WL.gskip rfl (bool_of rfl hc78) rfl ?_
          refine WL.gskip rfl (bool_of rfl hc78) rfl ?_
          refine WL.gskip rfl (bool_of rfl hc78) rfl ?_
          refine WL.val (Value.bool true) _ (op_pick_t (evb_of rfl hc78) rfl) rfl ?_
          refine WL.nil ?_
          exact ⟨rfl, rfl, rfl, rfl, rfl, (orT hc78), hS77⟩
        · refine WL.grun rfl (bool_of rfl hc78) ?_
          refine WL.val (Value.int .i64 x71.2) _ (op_move rfl) rfl ?_
          refine WL.grun rfl (bool_of rfl hc78) ?_
          refine WL.val (Value.int .i64 x44.2) _ (op_move rfl) rfl ?_
          refine WL.grun rfl (bool_of rfl hc78) ?_
          refine WL.val (Value.bool (x71.2 != x44.2)) _ (op_neq rfl rfl) rfl ?_
          refine WL.val (Value.bool (x71.2 != x44.2)) _ (op_pick_f (evb_of rfl hc78) rfl) rfl ?_
          refine WL.nil ?_
          exact ⟨rfl, rfl, rfl, rfl, rfl, (orF hc78), hS77⟩
      · intro f79 wd80 hq81
        obtain ⟨hf82, hf83, hf84, hf85, hf86, hS87⟩ := hq81
        refine WL.nil ?_
        show W _ _ _ _ _ _
        refine W.cond ((x71.1 != x44.1) || (x71.2 != x44.2)) hf86 (fun hc88 => ?_) (fun hc88 => ?_)
        · replace h := ip h hc88
          refine W.seq ?_
          refine W.region ?_
          refine WL.val (Value.bool false) _ (op_assign rfl) rfl ?_
          refine WL.nil ?_
          show W _ _ _ _ _ _
          refine W.ret ?_
          obtain rfl := Option.some.inj h
          show FinP _ _ _ _ _ _ _
          exact FinP.ret _ (res1 rfl rfl) ⟨rfl, (Ext.trans hE40 hS87.ext)⟩
        · replace h := inegb h hc88
          refine W.skip ?_
          show W _ _ _ _ _ _
          refine W.seq ?_
          refine W.seq ?_
          obtain ⟨x113, hx114, h⟩ := bs h
          refine W.draw mixo 3 [fun v w' => ∃ (uu0 : Value), v = (Value.agg #[uu0]) ∧ (Ty.sl (Ty.sl (Ty.sl (Ty.i .i64)))).rep w' uu0 x51, fun v w' => ∃ (uu0 : Value), v = (Value.agg #[uu0]) ∧ (Ty.sl (Ty.sl (Ty.sl (Ty.i .i64)))).rep w' uu0 aR_Table, fun v w' => ∃ (uu0 : Value), v = (Value.agg #[uu0]) ∧ (Ty.sl (Ty.sl (Ty.sl (Ty.i .i64)))).rep w' uu0 x113] (by kernel_rfl) (by kernel_rfl) (stabL ⟨(fun _ _ _ he ⟨uu0, h0, r0⟩ => ⟨uu0, h0, Ty.lift _ he r0⟩), (fun _ _ _ he ⟨uu0, h0, r0⟩ => ⟨uu0, h0, Ty.lift _ he r0⟩), (fun _ _ _ he ⟨uu0, h0, r0⟩ => ⟨uu0, h0, Ty.lift _ he r0⟩), trivial⟩) ⟨?_, ?_, ?_, trivial⟩ ?_
          · intro f90 wd91 he92 hout93 hphi94
            have hS95 : St wd35 wd91 [(Ty.sl (Ty.sl (Ty.sl (Ty.i .i64)))).at u53 x51, bx b58 [u53], (Ty.sl (Ty.i .i64)).at u66 x64] := St.extend hS87 he92
            have e96 : f90 8 = (Value.pointer (some ⟨b58, 0, none⟩)) := (hout93 8 rfl).trans hf84
            exact OpY.val (Value.agg #[u53]) wd91 rfl (op_loadBox st_29 e96 (St.boxAt hS95 1 rfl) rfl rfl) (Ext.refl _) ⟨u53, rfl, (St.rep (t := (Ty.sl (Ty.sl (Ty.sl (Ty.i .i64))))) hS95 0 rfl)⟩
          · intro f97 wd98 he99 hout100 hphi101
            have hS102 : St wd35 wd98 [(Ty.sl (Ty.sl (Ty.sl (Ty.i .i64)))).at u53 x51, bx b58 [u53], (Ty.sl (Ty.i .i64)).at u66 x64] := St.extend hS87 he99
            have e103 : f97 2 = (Value.pointer (some ⟨b1, 0, none⟩)) := (hout100 2 rfl).trans hf83
            exact OpY.val (Value.agg #[v_aR_Table]) wd98 rfl (op_loadBox st_24 e103 (BoxAt.lift (Ext.trans hE41 hS102.ext) hx6) rfl rfl) (Ext.refl _) ⟨v_aR_Table, rfl, (Ty.lift _ (Ext.trans hE40 hS102.ext) r_aR_Table)⟩
          · intro f104 wd105 he106 hout107 hphi108
            have hS109 : St wd35 wd105 [(Ty.sl (Ty.sl (Ty.sl (Ty.i .i64)))).at u53 x51, bx b58 [u53], (Ty.sl (Ty.i .i64)).at u66 x64] := St.extend hS87 he106
            obtain ⟨u111, e110, hr112⟩ := hphi108 1 47 _ rfl rfl rfl
            refine OpY.call rfl (op_call fn_13 (args1 e110)) (Ret.mono (c_laws_toRing hr112 hx114) ?_)
            rintro _ wd116 ⟨u115, rfl, he117, hs118⟩
            exact ⟨he117, ⟨u115, rfl, (Sep.rep (t := (Ty.sl (Ty.sl (Ty.sl (Ty.i .i64))))) hs118 0 rfl)⟩⟩
          · intro f119 wd120 he121 hout122 hphi123
            show WL _ _ _ _ _ _ _
            have hS124 : St wd35 wd120 [(Ty.sl (Ty.sl (Ty.sl (Ty.i .i64)))).at u53 x51, bx b58 [u53], (Ty.sl (Ty.i .i64)).at u66 x64] := St.extend hS87 he121
            obtain ⟨u126, e125, hr127⟩ := hphi123 0 46 _ (by decide) rfl rfl
            obtain ⟨u129, e128, hr130⟩ := hphi123 2 48 _ (by decide) rfl rfl
            have e131 : f119 1 = v_aD := (hout122 1 rfl).trans hf82
            have e132 : f119 9 = u66 := (hout122 9 rfl).trans hf85
            obtain ⟨x133, hx134, h⟩ := bs h
            refine WL.call _ (op_call fn_16 (args2 e125 e128)) (c_laws_eqRing hr127 hr130 hx134) rfl ?_
            rintro _ wd135 ⟨rfl, he136⟩
            have hS138 := St.extend hS124 he136
            replace hS138 : St wd35 wd135 [(Ty.sl (Ty.sl (Ty.sl (Ty.i .i64)))).at u53 x51, bx b58 [u53], (Ty.sl (Ty.i .i64)).at u66 x64] := hS138
            refine WL.val (Value.bool (!x133)) _ (op_not rfl) rfl ?_
            refine WL.nil ?_
            show W _ _ _ _ _ _
            refine W.cond (!x133) rfl (fun hc139 => ?_) (fun hc139 => ?_)
            · replace h := ip h hc139
              refine W.seq ?_
              refine W.region ?_
              refine WL.val (Value.bool false) _ (op_assign rfl) rfl ?_
              refine WL.nil ?_
              show W _ _ _ _ _ _
              refine W.ret ?_
              obtain rfl := Option.some.inj h
              show FinP _ _ _ _ _ _ _
              exact FinP.ret _ (res1 rfl rfl) ⟨rfl, (Ext.trans hE40 hS138.ext)⟩
            · replace h := inegb h hc139
              refine W.skip ?_
              show W _ _ _ _ _ _
              refine W.seq ?_
              refine W.seq ?_
              refine W.region ?_
              refine WL.val u66 _ (op_move e132) rfl ?_
              refine WL.val v_aD _ (op_move e131) rfl ?_
              obtain ⟨x141, hx142, h⟩ := bs h
              refine WL.call _ (op_call fn_14 (args1 rfl)) (c_laws_toInt64S (Ty.lift _ (Ext.trans hE40 hS138.ext) r_aD) hx142) rfl ?_
              rintro u143 wd144 ⟨_, rfl, he145, hs146⟩
              have hS147 := St.join hS138 he145 hs146
              replace hS147 : St wd35 wd144 [(Ty.sl (Ty.sl (Ty.sl (Ty.i .i64)))).at u53 x51, bx b58 [u53], (Ty.sl (Ty.i .i64)).at u66 x64, (Ty.sl (Ty.i .i64)).at u143 x141] := hS147
              obtain ⟨x148, hx149, h⟩ := bs h
              refine WL.call _ (op_call fn_17 (args2 rfl rfl)) (c_laws_eqInt64S (St.rep (t := (Ty.sl (Ty.i .i64))) hS147 2 rfl) (St.rep (t := (Ty.sl (Ty.i .i64))) hS147 3 rfl) hx149) rfl ?_
              rintro _ wd150 ⟨rfl, he151⟩
              have hS153 := St.extend hS147 he151
              replace hS153 : St wd35 wd150 [(Ty.sl (Ty.sl (Ty.sl (Ty.i .i64)))).at u53 x51, bx b58 [u53], (Ty.sl (Ty.i .i64)).at u66 x64, (Ty.sl (Ty.i .i64)).at u143 x141] := hS153
              refine WL.val (Value.bool (!x148)) _ (op_not rfl) rfl ?_
              refine WL.nil ?_
              show W _ _ _ _ _ _
              refine W.cond (!x148) rfl (fun hc154 => ?_) (fun hc154 => ?_)
              · replace h := ip h hc154
                refine W.seq ?_
                refine W.region ?_
                refine WL.val (Value.bool false) _ (op_assign rfl) rfl ?_
                refine WL.nil ?_
                show W _ _ _ _ _ _
                refine W.ret ?_
                obtain rfl := Option.some.inj h
                show FinP _ _ _ _ _ _ _
                exact FinP.ret _ (res1 rfl rfl) ⟨rfl, (Ext.trans hE40 hS153.ext)⟩
              · replace h := inegb h hc154
                refine W.skip ?_
                show W _ _ _ _ _ _
                refine W.seq ?_
                refine W.region ?_
                refine WL.val (Value.bool true) _ (op_assign rfl) rfl ?_
                refine WL.nil ?_
                show W _ _ _ _ _ _
                refine W.ret ?_
                obtain rfl := Option.some.inj h
                show FinP _ _ _ _ _ _ _
                exact FinP.ret _ (res1 rfl rfl) ⟨rfl, (Ext.trans hE40 hS153.ext)⟩

end Go.VG
