/- The walks, part 3: each Go function returns what its plain twin returns. No condition beyond what each names. -/
import Derived.Test.YtclffgakhkhglaaGWalk2
set_option linter.all false
namespace Go.VG
open Go.Proofs
attribute [local irreducible] W WL Sep FinP

theorem c_impl_Ring_bracketFault {w : World} {r_Table : (List (List (List Int)))} {v_r_Table : Value} (r_r_Table : (Ty.sl (Ty.sl (Ty.sl (Ty.i .i64)))).rep w v_r_Table r_Table) {res : (List Int)} (h : p_impl_Ring_bracketFault r_Table  = some res) :
    Ret Try.prog 107 #[(Value.agg #[v_r_Table])] w (fun v w' => ∃ (u0 : Value), v = u0 ∧ NilIff u0 res ∧ Ext w w' ∧ Sep w.heap.size w' [(Ty.sl (Ty.i .i64)).at u0 res]) := by
  unfold p_impl_Ring_bracketFault at h
  have hS0 : St w w [] := St.start w
  refine Ret.start (fn := Try.f107) Try.func107 rfl 97 rfl rfl ?_
  refine W.seq ?_
  refine W.region ?_
  refine WL.box hS0 rfl (cs := [v_r_Table]) rfl rfl ?_
  intro b1 wd2 hS3 he4 hx5
  replace hS3 : St w wd2 [bx b1 [v_r_Table]] := hS3
  have hx6 := St.boxAt hS3 0 rfl
  have hE7 : Ext w wd2 := hS3.ext
  have hS8 : St wd2 wd2 [] := St.start wd2
  refine WL.val (Value.slice none 0 0) _ (op_assign rfl) rfl ?_
  refine WL.nil ?_
  show W _ _ _ _ _ _
  refine W.seq ?_
  refine W.seq ?_
  refine W.region ?_
  refine WL.val (Value.pointer (some ⟨b1, 0, none⟩)) _ (op_fieldAddr fd_29_0 rfl) rfl ?_
  refine WL.val v_r_Table _ (op_load one_22 rfl (BoxAt.cell (BoxAt.lift hS8.ext hx6) rfl)) rfl ?_
  have hr9 := inR_len (Ty.lift _ (Ext.trans hE7 hS8.ext) r_r_Table)
  refine WL.val (Value.int .i64 ((r_Table).length : Int)) _ (op_lenL sl_22 (Ty.lift _ (Ext.trans hE7 hS8.ext) r_r_Table) rfl) rfl ?_
  refine WL.val (Value.int .i64 (0 : Int)) _ (op_move rfl) rfl ?_
  refine WL.nil ?_
  show W _ _ _ _ _ _
  obtain ⟨res10, hres11, h⟩ := bs h
  refine W.blockLoop (fun fq wq => ∃ s, res10 = Res.fin s ∧ St wd2 wq []) ?_ ?_
  · refine W.forN (fun k (s : Unit) fq wq => fq 1 = (Value.pointer (some ⟨b1, 0, none⟩)) ∧ fq 13 = v_r_Table ∧ fq 14 = (Value.int .i64 ((r_Table).length : Int)) ∧ fq 15 = Value.int .i64 (k : Int) ∧ InR .i64 (k : Int) ∧ St wd2 wq []) hres11 ⟨rfl, rfl, rfl, rfl, (inR_i64.2 (show (-9223372036854775808 : Int) ≤ 0 ∧ (0 : Int) ≤ 9223372036854775807 from by decide)), hS8⟩ ?_ ?_
    · intro k12 s850 ct13 f14 wd15 hk16 hb17 hI18 hbrk19 hret20
      obtain ⟨⟩ := s850
      replace hI18 : f14 1 = (Value.pointer (some ⟨b1, 0, none⟩)) ∧ f14 13 = v_r_Table ∧ f14 14 = (Value.int .i64 ((r_Table).length : Int)) ∧ f14 15 = Value.int .i64 (k12 : Int) ∧ InR .i64 (k12 : Int) ∧ St wd2 wd15 [] := hI18
      replace hb17 : p_impl_Ring_bracketFault_L1 r_Table k12  = some ct13 := hb17
      unfold p_impl_Ring_bracketFault_L1 at hb17
      obtain ⟨hf21, hf22, hf23, hf24, hr25, hS26⟩ := hI18
      refine W.seq ?_
      refine W.region ?_
      refine WL.val (Value.bool (decide ((k12 : Int) < ((r_Table).length : Int)))) _ (op_lss hf24 hf23) rfl ?_
      have hl27 : (k12 : Int) < ((r_Table).length : Int) := by omega
      refine WL.nil ?_
      show W _ _ _ _ _ _
      refine W.seq ?_
      refine W.condT (decide ((k12 : Int) < ((r_Table).length : Int))) rfl (decide_eq_true hl27) ?_
      refine W.skip ?_
      show W _ _ _ _ _ _
      refine W.seq ?_
      refine W.block ?_
      refine W.seq ?_
      refine W.region ?_
      refine WL.val (Value.int .i64 (k12 : Int)) _ (op_move hf24) rfl ?_
      obtain ⟨x29, hx32, hb17⟩ := bs hb17
      obtain ⟨ha30, hb31, hx32⟩ := idx_some hx32
      refine WL.val (Value.pointer (some (elA v_r_Table ((k12 : Int)).toNat))) _ (op_idx sl_22 (Ty.lift _ (Ext.trans hE7 hS26.ext) r_r_Table) hf22 hf24 ha30 hb31) rfl ?_
      obtain ⟨u33, hc34, hr35⟩ := repSl.el r_r_Table hx32
      refine WL.val u33 _ (op_load one_65 rfl (Ext.cell (Ext.trans hE7 hS26.ext) hc34)) rfl ?_
      refine WL.val (Value.int .i64 (k12 : Int)) _ (op_assign rfl) rfl ?_
      refine WL.val u33 _ (op_assign rfl) rfl ?_
      refine WL.nil ?_
      show W _ _ _ _ _ _
      refine W.seq ?_
      refine W.region ?_
      refine WL.val (Value.pointer (some ⟨b1, 0, none⟩)) _ (op_fieldAddr fd_29_0 hf21) rfl ?_
      refine WL.val v_r_Table _ (op_load one_22 rfl (BoxAt.cell (BoxAt.lift hS26.ext hx6) rfl)) rfl ?_
      have hr36 := inR_len (Ty.lift _ (Ext.trans hE7 hS26.ext) r_r_Table)
      refine WL.val (Value.int .i64 ((r_Table).length : Int)) _ (op_lenL sl_22 (Ty.lift _ (Ext.trans hE7 hS26.ext) r_r_Table) rfl) rfl ?_
      refine WL.val (Value.int .i64 (0 : Int)) _ (op_move rfl) rfl ?_
      refine WL.nil ?_
      show W _ _ _ _ _ _
      obtain ⟨res37, hres38, hb17⟩ := bs hb17
      refine W.blockLoop (fun fq wq => ∃ s, res37 = Res.fin s ∧ fq 1 = (Value.pointer (some ⟨b1, 0, none⟩)) ∧ fq 13 = v_r_Table ∧ fq 14 = (Value.int .i64 ((r_Table).length : Int)) ∧ fq 15 = (Value.int .i64 (k12 : Int)) ∧ St wd2 wq []) ?_ ?_
      · refine W.forN (fun k (s : Unit) fq wq => fq 1 = (Value.pointer (some ⟨b1, 0, none⟩)) ∧ fq 3 = (Value.int .i64 (k12 : Int)) ∧ fq 4 = u33 ∧ fq 13 = v_r_Table ∧ fq 14 = (Value.int .i64 ((r_Table).length : Int)) ∧ fq 15 = (Value.int .i64 (k12 : Int)) ∧ fq 21 = v_r_Table ∧ fq 22 = (Value.int .i64 ((r_Table).length : Int)) ∧ fq 23 = Value.int .i64 (k : Int) ∧ InR .i64 (k : Int) ∧ St wd2 wq []) hres38 ⟨hf21, rfl, rfl, hf22, hf23, hf24, rfl, rfl, rfl, (inR_i64.2 (show (-9223372036854775808 : Int) ≤ 0 ∧ (0 : Int) ≤ 9223372036854775807 from by decide)), hS26⟩ ?_ ?_
        · intro k39 s822 ct40 f41 wd42 hk43 hb44 hI45 hbrk46 hret47
          obtain ⟨⟩ := s822
          replace hI45 : f41 1 = (Value.pointer (some ⟨b1, 0, none⟩)) ∧ f41 3 = (Value.int .i64 (k12 : Int)) ∧ f41 4 = u33 ∧ f41 13 = v_r_Table ∧ f41 14 = (Value.int .i64 ((r_Table).length : Int)) ∧ f41 15 = (Value.int .i64 (k12 : Int)) ∧ f41 21 = v_r_Table ∧ f41 22 = (Value.int .i64 ((r_Table).length : Int)) ∧ f41 23 = Value.int .i64 (k39 : Int) ∧ InR .i64 (k39 : Int) ∧ St wd2 wd42 [] := hI45
          replace hb44 : p_impl_Ring_bracketFault_L2 r_Table x29 k12 k39  = some ct40 := hb44
          unfold p_impl_Ring_bracketFault_L2 at hb44
          obtain ⟨hf48, hf49, hf50, hf51, hf52, hf53, hf54, hf55, hf56, hr57, hS58⟩ := hI45
          refine W.seq ?_
          refine W.region ?_
          refine WL.val (Value.bool (decide ((k39 : Int) < ((r_Table).length : Int)))) _ (op_lss hf56 hf55) rfl ?_
          have hl59 : (k39 : Int) < ((r_Table).length : Int) := by omega
          refine WL.nil ?_
          show W _ _ _ _ _ _
          refine W.seq ?_
          refine W.condT (decide ((k39 : Int) < ((r_Table).length : Int))) rfl (decide_eq_true hl59) ?_
          refine W.skip ?_
          show W _ _ _ _ _ _
          refine W.seq ?_
          refine W.block ?_
          refine W.seq ?_
          refine W.region ?_
          refine WL.val (Value.int .i64 (k39 : Int)) _ (op_move hf56) rfl ?_
          obtain ⟨x61, hx64, hb44⟩ := bs hb44
          obtain ⟨ha62, hb63, hx64⟩ := idx_some hx64
          refine WL.val (Value.pointer (some (elA v_r_Table ((k39 : Int)).toNat))) _ (op_idx sl_22 (Ty.lift _ (Ext.trans hE7 hS58.ext) r_r_Table) hf54 hf56 ha62 hb63) rfl ?_
          obtain ⟨u65, hc66, hr67⟩ := repSl.el r_r_Table hx64
          refine WL.val u65 _ (op_load one_65 rfl (Ext.cell (Ext.trans hE7 hS58.ext) hc66)) rfl ?_
          refine WL.val (Value.int .i64 (k39 : Int)) _ (op_assign rfl) rfl ?_
          refine WL.val u65 _ (op_assign rfl) rfl ?_
          refine WL.nil ?_
          show W _ _ _ _ _ _
          refine W.seq ?_
          refine W.region ?_
          refine WL.val (Value.pointer (some ⟨b1, 0, none⟩)) _ (op_fieldAddr fd_29_0 hf48) rfl ?_
          refine WL.val v_r_Table _ (op_load one_22 rfl (BoxAt.cell (BoxAt.lift hS58.ext hx6) rfl)) rfl ?_
          have hr68 := inR_len (Ty.lift _ (Ext.trans hE7 hS58.ext) r_r_Table)
          refine WL.val (Value.int .i64 ((r_Table).length : Int)) _ (op_lenL sl_22 (Ty.lift _ (Ext.trans hE7 hS58.ext) r_r_Table) rfl) rfl ?_
          refine WL.val (Value.int .i64 (0 : Int)) _ (op_move rfl) rfl ?_
          refine WL.nil ?_
          show W _ _ _ _ _ _
          obtain ⟨res69, hres70, hb44⟩ := bs hb44
          refine W.blockLoop (fun fq wq => ∃ s, res69 = Res.fin s ∧ fq 1 = (Value.pointer (some ⟨b1, 0, none⟩)) ∧ fq 3 = (Value.int .i64 (k12 : Int)) ∧ fq 4 = u33 ∧ fq 13 = v_r_Table ∧ fq 14 = (Value.int .i64 ((r_Table).length : Int)) ∧ fq 15 = (Value.int .i64 (k12 : Int)) ∧ fq 21 = v_r_Table ∧ fq 22 = (Value.int .i64 ((r_Table).length : Int)) ∧ fq 23 = (Value.int .i64 (k39 : Int)) ∧ St wd2 wq []) ?_ ?_
          · refine W.forN (fun k (s : Unit) fq wq => fq 1 = (Value.pointer (some ⟨b1, 0, none⟩)) ∧ fq 3 = (Value.int .i64 (k12 : Int)) ∧ fq 4 = u33 ∧ fq 5 = (Value.int .i64 (k39 : Int)) ∧ fq 6 = u65 ∧ fq 13 = v_r_Table ∧ fq 14 = (Value.int .i64 ((r_Table).length : Int)) ∧ fq 15 = (Value.int .i64 (k12 : Int)) ∧ fq 21 = v_r_Table ∧ fq 22 = (Value.int .i64 ((r_Table).length : Int)) ∧ fq 23 = (Value.int .i64 (k39 : Int)) ∧ fq 30 = (Value.int .i64 ((r_Table).length : Int)) ∧ fq 31 = Value.int .i64 (k : Int) ∧ InR .i64 (k : Int) ∧ St wd2 wq []) hres70 ⟨hf48, hf49, hf50, rfl, rfl, hf51, hf52, hf53, hf54, hf55, hf56, rfl, rfl, (inR_i64.2 (show (-9223372036854775808 : Int) ≤ 0 ∧ (0 : Int) ≤ 9223372036854775807 from by decide)), hS58⟩ ?_ ?_
            · intro k71 s785 ct72 f73 wd74 hk75 hb76 hI77 hbrk78 hret79
              obtain ⟨⟩ := s785
              replace hI77 : f73 1 = (Value.pointer (some ⟨b1, 0, none⟩)) ∧ f73 3 = (Value.int .i64 (k12 : Int)) ∧ f73 4 = u33 ∧ f73 5 = (Value.int .i64 (k39 : Int)) ∧ f73 6 = u65 ∧ f73 13 = v_r_Table ∧ f73 14 = (Value.int .i64 ((r_Table).length : Int)) ∧ f73 15 = (Value.int .i64 (k12 : Int)) ∧ f73 21 = v_r_Table ∧ f73 22 = (Value.int .i64 ((r_Table).length : Int)) ∧ f73 23 = (Value.int .i64 (k39 : Int)) ∧ f73 30 = (Value.int .i64 ((r_Table).length : Int)) ∧ f73 31 = Value.int .i64 (k71 : Int) ∧ InR .i64 (k71 : Int) ∧ St wd2 wd74 [] := hI77
              replace hb76 : p_impl_Ring_bracketFault_L3 x29 k39 r_Table x61 k12 k71  = some ct72 := hb76
              unfold p_impl_Ring_bracketFault_L3 at hb76
              obtain ⟨hf80, hf81, hf82, hf83, hf84, hf85, hf86, hf87, hf88, hf89, hf90, hf91, hf92, hr93, hS94⟩ := hI77
              refine W.seq ?_
              refine W.region ?_
              refine WL.val (Value.bool (decide ((k71 : Int) < ((r_Table).length : Int)))) _ (op_lss hf92 hf91) rfl ?_
              have hl95 : (k71 : Int) < ((r_Table).length : Int) := by omega
              refine WL.nil ?_
              show W _ _ _ _ _ _
              refine W.seq ?_
              refine W.condT (decide ((k71 : Int) < ((r_Table).length : Int))) rfl (decide_eq_true hl95) ?_
              refine W.skip ?_
              show W _ _ _ _ _ _
              refine W.seq ?_
              refine W.block ?_
              refine W.seq ?_
              refine W.region ?_
              refine WL.val (Value.int .i64 (k71 : Int)) _ (op_move hf92) rfl ?_
              refine WL.val (Value.int .i64 (k71 : Int)) _ (op_assign rfl) rfl ?_
              refine WL.nil ?_
              show W _ _ _ _ _ _
              refine W.seq ?_
              refine W.region ?_
              refine WL.val (Value.pointer (some ⟨b1, 0, none⟩)) _ (op_fieldAddr fd_29_0 hf80) rfl ?_
              refine WL.val v_r_Table _ (op_load one_22 rfl (BoxAt.cell (BoxAt.lift hS94.ext hx6) rfl)) rfl ?_
              have hr97 := inR_len (Ty.lift _ (Ext.trans hE7 hS94.ext) r_r_Table)
              refine WL.val (Value.int .i64 ((r_Table).length : Int)) _ (op_lenL sl_22 (Ty.lift _ (Ext.trans hE7 hS94.ext) r_r_Table) rfl) rfl ?_
              refine WL.val (Value.int .i64 (0 : Int)) _ (op_move rfl) rfl ?_
              refine WL.nil ?_
              show W _ _ _ _ _ _
              obtain ⟨res98, hres99, hb76⟩ := bs hb76
              refine W.blockLoop (fun fq wq => ∃ s, res98 = Res.fin s ∧ fq 1 = (Value.pointer (some ⟨b1, 0, none⟩)) ∧ fq 3 = (Value.int .i64 (k12 : Int)) ∧ fq 4 = u33 ∧ fq 5 = (Value.int .i64 (k39 : Int)) ∧ fq 6 = u65 ∧ fq 13 = v_r_Table ∧ fq 14 = (Value.int .i64 ((r_Table).length : Int)) ∧ fq 15 = (Value.int .i64 (k12 : Int)) ∧ fq 21 = v_r_Table ∧ fq 22 = (Value.int .i64 ((r_Table).length : Int)) ∧ fq 23 = (Value.int .i64 (k39 : Int)) ∧ fq 30 = (Value.int .i64 ((r_Table).length : Int)) ∧ fq 31 = (Value.int .i64 (k71 : Int)) ∧ St wd2 wq []) ?_ ?_
              · refine W.forN (fun k (s : Unit) fq wq => fq 1 = (Value.pointer (some ⟨b1, 0, none⟩)) ∧ fq 3 = (Value.int .i64 (k12 : Int)) ∧ fq 4 = u33 ∧ fq 5 = (Value.int .i64 (k39 : Int)) ∧ fq 6 = u65 ∧ fq 7 = (Value.int .i64 (k71 : Int)) ∧ fq 13 = v_r_Table ∧ fq 14 = (Value.int .i64 ((r_Table).length : Int)) ∧ fq 15 = (Value.int .i64 (k12 : Int)) ∧ fq 21 = v_r_Table ∧ fq 22 = (Value.int .i64 ((r_Table).length : Int)) ∧ fq 23 = (Value.int .i64 (k39 : Int)) ∧ fq 30 = (Value.int .i64 ((r_Table).length : Int)) ∧ fq 31 = (Value.int .i64 (k71 : Int)) ∧ fq 36 = (Value.int .i64 ((r_Table).length : Int)) ∧ fq 37 = Value.int .i64 (k : Int) ∧ InR .i64 (k : Int) ∧ St wd2 wq []) hres99 ⟨hf80, hf81, hf82, hf83, hf84, rfl, hf85, hf86, hf87, hf88, hf89, hf90, hf91, hf92, rfl, rfl, (inR_i64.2 (show (-9223372036854775808 : Int) ≤ 0 ∧ (0 : Int) ≤ 9223372036854775807 from by decide)), hS94⟩ ?_ ?_
                · intro k100 s741 ct101 f102 wd103 hk104 hb105 hI106 hbrk107 hret108
                  obtain ⟨⟩ := s741
                  replace hI106 : f102 1 = (Value.pointer (some ⟨b1, 0, none⟩)) ∧ f102 3 = (Value.int .i64 (k12 : Int)) ∧ f102 4 = u33 ∧ f102 5 = (Value.int .i64 (k39 : Int)) ∧ f102 6 = u65 ∧ f102 7 = (Value.int .i64 (k71 : Int)) ∧ f102 13 = v_r_Table ∧ f102 14 = (Value.int .i64 ((r_Table).length : Int)) ∧ f102 15 = (Value.int .i64 (k12 : Int)) ∧ f102 21 = v_r_Table ∧ f102 22 = (Value.int .i64 ((r_Table).length : Int)) ∧ f102 23 = (Value.int .i64 (k39 : Int)) ∧ f102 30 = (Value.int .i64 ((r_Table).length : Int)) ∧ f102 31 = (Value.int .i64 (k71 : Int)) ∧ f102 36 = (Value.int .i64 ((r_Table).length : Int)) ∧ f102 37 = Value.int .i64 (k100 : Int) ∧ InR .i64 (k100 : Int) ∧ St wd2 wd103 [] := hI106
                  replace hb105 : p_impl_Ring_bracketFault_L4 x29 k39 r_Table k71 x61 k12 k100  = some ct101 := hb105
                  unfold p_impl_Ring_bracketFault_L4 at hb105
                  obtain ⟨hf109, hf110, hf111, hf112, hf113, hf114, hf115, hf116, hf117, hf118, hf119, hf120, hf121, hf122, hf123, hf124, hr125, hS126⟩ := hI106
                  refine W.seq ?_
                  refine W.region ?_
                  refine WL.val (Value.bool (decide ((k100 : Int) < ((r_Table).length : Int)))) _ (op_lss hf124 hf123) rfl ?_
                  have hl127 : (k100 : Int) < ((r_Table).length : Int) := by omega
                  refine WL.nil ?_
                  show W _ _ _ _ _ _
                  refine W.seq ?_
                  refine W.condT (decide ((k100 : Int) < ((r_Table).length : Int))) rfl (decide_eq_true hl127) ?_
                  refine W.skip ?_
                  show W _ _ _ _ _ _
                  refine W.seq ?_
                  refine W.block ?_
                  refine W.seq ?_
                  refine W.region ?_
                  refine WL.val (Value.int .i64 (k100 : Int)) _ (op_move hf124) rfl ?_
                  refine WL.val (Value.int .i64 (k100 : Int)) _ (op_assign rfl) rfl ?_
                  refine WL.nil ?_
                  show W _ _ _ _ _ _
                  refine W.seq ?_
                  refine W.region ?_
                  refine WL.val (Value.int .i64 (0 : Int)) _ (op_assign rfl) rfl ?_
                  refine WL.val (Value.int .i64 (0 : Int)) _ (op_assign rfl) rfl ?_
                  refine WL.nil ?_
                  show W _ _ _ _ _ _
                  refine W.seq ?_
                  refine W.seq ?_
                  refine W.region ?_
                  refine WL.val (Value.pointer (some ⟨b1, 0, none⟩)) _ (op_fieldAddr fd_29_0 hf109) rfl ?_
                  refine WL.val v_r_Table _ (op_load one_22 rfl (BoxAt.cell (BoxAt.lift hS126.ext hx6) rfl)) rfl ?_
                  have hr129 := inR_len (Ty.lift _ (Ext.trans hE7 hS126.ext) r_r_Table)
                  refine WL.val (Value.int .i64 ((r_Table).length : Int)) _ (op_lenL sl_22 (Ty.lift _ (Ext.trans hE7 hS126.ext) r_r_Table) rfl) rfl ?_
                  refine WL.val (Value.int .i64 (0 : Int)) _ (op_move rfl) rfl ?_
                  refine WL.nil ?_
                  show W _ _ _ _ _ _
                  obtain ⟨res130, hres131, hb105⟩ := bs hb105
                  refine W.blockLoop (fun fq wq => ∃ s, res130 = Res.fin s ∧ fq 1 = (Value.pointer (some ⟨b1, 0, none⟩)) ∧ fq 3 = (Value.int .i64 (k12 : Int)) ∧ fq 4 = u33 ∧ fq 5 = (Value.int .i64 (k39 : Int)) ∧ fq 6 = u65 ∧ fq 7 = (Value.int .i64 (k71 : Int)) ∧ fq 8 = (Value.int .i64 (k100 : Int)) ∧ fq 9 = Value.int .i64 s.1 ∧ InR .i64 s.1 ∧ fq 10 = Value.int .i64 s.2 ∧ InR .i64 s.2 ∧ fq 13 = v_r_Table ∧ fq 14 = (Value.int .i64 ((r_Table).length : Int)) ∧ fq 15 = (Value.int .i64 (k12 : Int)) ∧ fq 21 = v_r_Table ∧ fq 22 = (Value.int .i64 ((r_Table).length : Int)) ∧ fq 23 = (Value.int .i64 (k39 : Int)) ∧ fq 30 = (Value.int .i64 ((r_Table).length : Int)) ∧ fq 31 = (Value.int .i64 (k71 : Int)) ∧ fq 36 = (Value.int .i64 ((r_Table).length : Int)) ∧ fq 37 = (Value.int .i64 (k100 : Int)) ∧ St wd2 wq []) ?_ ?_
                  · refine W.forN (fun k (s : Int × Int) fq wq => fq 1 = (Value.pointer (some ⟨b1, 0, none⟩)) ∧ fq 3 = (Value.int .i64 (k12 : Int)) ∧ fq 4 = u33 ∧ fq 5 = (Value.int .i64 (k39 : Int)) ∧ fq 6 = u65 ∧ fq 7 = (Value.int .i64 (k71 : Int)) ∧ fq 8 = (Value.int .i64 (k100 : Int)) ∧ fq 9 = Value.int .i64 s.1 ∧ InR .i64 s.1 ∧ fq 10 = Value.int .i64 s.2 ∧ InR .i64 s.2 ∧ fq 13 = v_r_Table ∧ fq 14 = (Value.int .i64 ((r_Table).length : Int)) ∧ fq 15 = (Value.int .i64 (k12 : Int)) ∧ fq 21 = v_r_Table ∧ fq 22 = (Value.int .i64 ((r_Table).length : Int)) ∧ fq 23 = (Value.int .i64 (k39 : Int)) ∧ fq 30 = (Value.int .i64 ((r_Table).length : Int)) ∧ fq 31 = (Value.int .i64 (k71 : Int)) ∧ fq 36 = (Value.int .i64 ((r_Table).length : Int)) ∧ fq 37 = (Value.int .i64 (k100 : Int)) ∧ fq 42 = (Value.int .i64 ((r_Table).length : Int)) ∧ fq 43 = Value.int .i64 (k : Int) ∧ InR .i64 (k : Int) ∧ St wd2 wq []) hres131 ⟨hf109, hf110, hf111, hf112, hf113, hf114, rfl, rfl, (inR_i64.2 (show (-9223372036854775808 : Int) ≤ 0 ∧ (0 : Int) ≤ 9223372036854775807 from by decide)), rfl, (inR_i64.2 (show (-9223372036854775808 : Int) ≤ 0 ∧ (0 : Int) ≤ 9223372036854775807 from by decide)), hf115, hf116, hf117, hf118, hf119, hf120, hf121, hf122, hf123, hf124, rfl, rfl, (inR_i64.2 (show (-9223372036854775808 : Int) ≤ 0 ∧ (0 : Int) ≤ 9223372036854775807 from by decide)), hS126⟩ ?_ ?_
                    · intro k132 s672 ct135 f136 wd137 hk138 hb139 hI140 hbrk141 hret142
                      obtain ⟨x133, x134⟩ := s672
                      replace hI140 : f136 1 = (Value.pointer (some ⟨b1, 0, none⟩)) ∧ f136 3 = (Value.int .i64 (k12 : Int)) ∧ f136 4 = u33 ∧ f136 5 = (Value.int .i64 (k39 : Int)) ∧ f136 6 = u65 ∧ f136 7 = (Value.int .i64 (k71 : Int)) ∧ f136 8 = (Value.int .i64 (k100 : Int)) ∧ f136 9 = Value.int .i64 x133 ∧ InR .i64 x133 ∧ f136 10 = Value.int .i64 x134 ∧ InR .i64 x134 ∧ f136 13 = v_r_Table ∧ f136 14 = (Value.int .i64 ((r_Table).length : Int)) ∧ f136 15 = (Value.int .i64 (k12 : Int)) ∧ f136 21 = v_r_Table ∧ f136 22 = (Value.int .i64 ((r_Table).length : Int)) ∧ f136 23 = (Value.int .i64 (k39 : Int)) ∧ f136 30 = (Value.int .i64 ((r_Table).length : Int)) ∧ f136 31 = (Value.int .i64 (k71 : Int)) ∧ f136 36 = (Value.int .i64 ((r_Table).length : Int)) ∧ f136 37 = (Value.int .i64 (k100 : Int)) ∧ f136 42 = (Value.int .i64 ((r_Table).length : Int)) ∧ f136 43 = Value.int .i64 (k132 : Int) ∧ InR .i64 (k132 : Int) ∧ St wd2 wd137 [] := hI140
                      replace hb139 : p_impl_Ring_bracketFault_L5 x29 k39 r_Table k71 k100 x61 k132 x133 x134 = some ct135 := hb139
                      unfold p_impl_Ring_bracketFault_L5 at hb139
                      obtain ⟨hf143, hf144, hf145, hf146, hf147, hf148, hf149, hf150, hr151, hf152, hr153, hf154, hf155, hf156, hf157, hf158, hf159, hf160, hf161, hf162, hf163, hf164, hf165, hr166, hS167⟩ := hI140
                      refine W.seq ?_
                      refine W.region ?_
                      refine WL.val (Value.bool (decide ((k132 : Int) < ((r_Table).length : Int)))) _ (op_lss hf165 hf164) rfl ?_
                      have hl168 : (k132 : Int) < ((r_Table).length : Int) := by omega
                      refine WL.nil ?_
                      show W _ _ _ _ _ _
                      refine W.seq ?_
                      refine W.condT (decide ((k132 : Int) < ((r_Table).length : Int))) rfl (decide_eq_true hl168) ?_
                      refine W.skip ?_
                      show W _ _ _ _ _ _
                      refine W.seq ?_
                      refine W.block ?_
                      refine W.seq ?_
                      refine W.region ?_
                      refine WL.val (Value.int .i64 (k132 : Int)) _ (op_move hf165) rfl ?_
                      refine WL.val (Value.int .i64 (k132 : Int)) _ (op_assign rfl) rfl ?_
                      refine WL.nil ?_
                      show W _ _ _ _ _ _
                      refine W.seq ?_
                      obtain ⟨x206, hx209, hb139⟩ := bs hb139
                      obtain ⟨ha207, hb208, hx209⟩ := idx_some hx209
                      obtain ⟨u220, hc221, hr222⟩ := repSl.el hr35 hx209
                      obtain ⟨x245, hx248, hb139⟩ := bs hb139
                      obtain ⟨ha246, hb247, hx248⟩ := idx_some hx248
                      obtain ⟨u259, hc260, hr261⟩ := repSl.el hr222 hx248
                      obtain ⟨rfl, hr261⟩ := hr261
                      obtain ⟨x301, hx304, hb139⟩ := bs hb139
                      obtain ⟨ha302, hb303, hx304⟩ := idx_some hx304
                      obtain ⟨u315, hc316, hr317⟩ := repSl.el r_r_Table hx304
                      obtain ⟨x340, hx343, hb139⟩ := bs hb139
                      obtain ⟨ha341, hb342, hx343⟩ := idx_some hx343
                      obtain ⟨u354, hc355, hr356⟩ := repSl.el hr317 hx343
                      obtain ⟨x379, hx382, hb139⟩ := bs hb139
                      obtain ⟨ha380, hb381, hx382⟩ := idx_some hx382
                      obtain ⟨u393, hc394, hr395⟩ := repSl.el hr356 hx382
                      obtain ⟨rfl, hr395⟩ := hr395
                      refine W.drawR mixo 20 [] [fun _ v _ _ => v = (Value.int .i64 x133) ∧ InR .i64 x133, fun _ v _ _ => v = u33, fun _ v _ _ => v = (Value.int .i64 (k39 : Int)) ∧ InR .i64 (k39 : Int), fun _ v _ _ => v = (Value.pointer (some (elA u33 ((k39 : Int)).toNat))), fun _ v _ _ => v = u220, fun _ v _ _ => v = (Value.int .i64 (k132 : Int)) ∧ InR .i64 (k132 : Int), fun _ v _ _ => v = (Value.pointer (some (elA u220 ((k132 : Int)).toNat))), fun _ v _ _ => v = (Value.int .i64 x245) ∧ InR .i64 x245, fun _ v _ _ => v = (Value.pointer (some ⟨b1, 0, none⟩)), fun _ v _ _ => v = v_r_Table, fun _ v _ _ => v = (Value.int .i64 (k132 : Int)) ∧ InR .i64 (k132 : Int), fun _ v _ _ => v = (Value.pointer (some (elA v_r_Table ((k132 : Int)).toNat))), fun _ v _ _ => v = u315, fun _ v _ _ => v = (Value.int .i64 (k71 : Int)) ∧ InR .i64 (k71 : Int), fun _ v _ _ => v = (Value.pointer (some (elA u315 ((k71 : Int)).toNat))), fun _ v _ _ => v = u354, fun _ v _ _ => v = (Value.int .i64 (k100 : Int)) ∧ InR .i64 (k100 : Int), fun _ v _ _ => v = (Value.pointer (some (elA u354 ((k100 : Int)).toNat))), fun _ v _ _ => v = (Value.int .i64 x379) ∧ InR .i64 x379, fun _ v _ _ => v = (Value.int .i64 (w64 (x245 * x379))) ∧ InR .i64 (w64 (x245 * x379))] (by kernel_rfl) (by kernel_rfl) ⟨⟨fun _ _ _ _ _ _ h => h, fun _ _ _ _ _ _ h => h⟩, ⟨fun _ _ _ _ _ _ h => h, fun _ _ _ _ _ _ h => h⟩, ⟨fun _ _ _ _ _ _ h => h, fun _ _ _ _ _ _ h => h⟩, ⟨fun _ _ _ _ _ _ h => h, fun _ _ _ _ _ _ h => h⟩, ⟨fun _ _ _ _ _ _ h => h, fun _ _ _ _ _ _ h => h⟩, ⟨fun _ _ _ _ _ _ h => h, fun _ _ _ _ _ _ h => h⟩, ⟨fun _ _ _ _ _ _ h => h, fun _ _ _ _ _ _ h => h⟩, ⟨fun _ _ _ _ _ _ h => h, fun _ _ _ _ _ _ h => h⟩, ⟨fun _ _ _ _ _ _ h => h, fun _ _ _ _ _ _ h => h⟩, ⟨fun _ _ _ _ _ _ h => h, fun _ _ _ _ _ _ h => h⟩, ⟨fun _ _ _ _ _ _ h => h, fun _ _ _ _ _ _ h => h⟩, ⟨fun _ _ _ _ _ _ h => h, fun _ _ _ _ _ _ h => h⟩, ⟨fun _ _ _ _ _ _ h => h, fun _ _ _ _ _ _ h => h⟩, ⟨fun _ _ _ _ _ _ h => h, fun _ _ _ _ _ _ h => h⟩, ⟨fun _ _ _ _ _ _ h => h, fun _ _ _ _ _ _ h => h⟩, ⟨fun _ _ _ _ _ _ h => h, fun _ _ _ _ _ _ h => h⟩, ⟨fun _ _ _ _ _ _ h => h, fun _ _ _ _ _ _ h => h⟩, ⟨fun _ _ _ _ _ _ h => h, fun _ _ _ _ _ _ h => h⟩, ⟨fun _ _ _ _ _ _ h => h, fun _ _ _ _ _ _ h => h⟩, ⟨fun _ _ _ _ _ _ h => h, fun _ _ _ _ _ _ h => h⟩, trivial⟩ ⟨?_, ?_, ?_, ?_, ?_, ?_, ?_, ?_, ?_, ?_, ?_, ?_, ?_, ?_, ?_, ?_, ?_, ?_, ?_, ?_, trivial⟩ ?_
                      · refine ObX.op rfl ?_
                        intro f170 wd171 he172 hout173 hphi174
                        have hS175 : St wd2 wd171 [] := St.extend hS167 he172
                        have e176 : f170 9 = (Value.int .i64 x133) := (hout173 9 rfl).trans hf150
                        exact OpX.val (Value.int .i64 x133) wd171 rfl (op_move e176) (Ext.refl _) ⟨rfl, hr151⟩
                      · refine ObX.op rfl ?_
                        intro f177 wd178 he179 hout180 hphi181
                        have hS182 : St wd2 wd178 [] := St.extend hS167 he179
                        have e183 : f177 4 = u33 := (hout180 4 rfl).trans hf145
                        exact OpX.val u33 wd178 rfl (op_move e183) (Ext.refl _) rfl
                      · refine ObX.op rfl ?_
                        intro f184 wd185 he186 hout187 hphi188
                        have hS189 : St wd2 wd185 [] := St.extend hS167 he186
                        have e190 : f184 5 = (Value.int .i64 (k39 : Int)) := (hout187 5 rfl).trans hf146
                        exact OpX.val (Value.int .i64 (k39 : Int)) wd185 rfl (op_move e190) (Ext.refl _) ⟨rfl, hr57⟩
                      · refine ObX.op rfl ?_
                        intro f191 wd192 he193 hout194 hphi195
                        have hS196 : St wd2 wd192 [] := St.extend hS167 he193
                        obtain ⟨S197, hS198, hf199⟩ := hphi195 1 47 _ rfl rfl rfl
                        have e200 : f191 47 = u33 := hf199
                        obtain ⟨S201, hS202, hf203⟩ := hphi195 2 48 _ rfl rfl rfl
                        obtain ⟨e204, hr205⟩ : f191 48 = (Value.int .i64 (k39 : Int)) ∧ InR .i64 (k39 : Int) := hf203
                        exact OpX.val (Value.pointer (some (elA u33 ((k39 : Int)).toNat))) wd192 rfl (op_idx sl_65 (Ty.lift _ (Ext.trans hE7 hS196.ext) hr35) e200 e204 ha207 hb208) (Ext.refl _) rfl
                      · refine ObX.op rfl ?_
                        intro f210 wd211 he212 hout213 hphi214
                        have hS215 : St wd2 wd211 [] := St.extend hS167 he212
                        obtain ⟨S216, hS217, hf218⟩ := hphi214 3 49 _ rfl rfl rfl
                        have e219 : f210 49 = (Value.pointer (some (elA u33 ((k39 : Int)).toNat))) := hf218
                        exact OpX.val u220 wd211 rfl (op_load one_25 e219 (Ext.cell (Ext.trans hE7 hS215.ext) hc221)) (Ext.refl _) rfl
                      · refine ObX.op rfl ?_
                        intro f223 wd224 he225 hout226 hphi227
                        have hS228 : St wd2 wd224 [] := St.extend hS167 he225
                        have e229 : f223 11 = (Value.int .i64 (k132 : Int)) := (hout226 11 rfl).trans rfl
                        exact OpX.val (Value.int .i64 (k132 : Int)) wd224 rfl (op_move e229) (Ext.refl _) ⟨rfl, hr166⟩
                      · refine ObX.op rfl ?_
                        intro f230 wd231 he232 hout233 hphi234
                        have hS235 : St wd2 wd231 [] := St.extend hS167 he232
                        obtain ⟨S236, hS237, hf238⟩ := hphi234 4 50 _ rfl rfl rfl
                        have e239 : f230 50 = u220 := hf238
                        obtain ⟨S240, hS241, hf242⟩ := hphi234 5 51 _ rfl rfl rfl
                        obtain ⟨e243, hr244⟩ : f230 51 = (Value.int .i64 (k132 : Int)) ∧ InR .i64 (k132 : Int) := hf242
                        exact OpX.val (Value.pointer (some (elA u220 ((k132 : Int)).toNat))) wd231 rfl (op_idx sl_25 (Ty.lift _ (Ext.trans hE7 hS235.ext) hr222) e239 e243 ha246 hb247) (Ext.refl _) rfl
                      · refine ObX.op rfl ?_
                        intro f249 wd250 he251 hout252 hphi253
                        have hS254 : St wd2 wd250 [] := St.extend hS167 he251
                        obtain ⟨S255, hS256, hf257⟩ := hphi253 6 52 _ rfl rfl rfl
                        have e258 : f249 52 = (Value.pointer (some (elA u220 ((k132 : Int)).toNat))) := hf257
                        exact OpX.val (Value.int .i64 x245) wd250 rfl (op_load one_2 e258 (Ext.cell (Ext.trans hE7 hS254.ext) hc260)) (Ext.refl _) ⟨rfl, hr261⟩
                      · refine ObX.op rfl ?_
                        intro f262 wd263 he264 hout265 hphi266
                        have hS267 : St wd2 wd263 [] := St.extend hS167 he264
                        have e268 : f262 1 = (Value.pointer (some ⟨b1, 0, none⟩)) := (hout265 1 rfl).trans hf143
                        exact OpX.val (Value.pointer (some ⟨b1, 0, none⟩)) wd263 rfl (op_fieldAddr fd_29_0 e268) (Ext.refl _) rfl
                      · refine ObX.op rfl ?_
                        intro f269 wd270 he271 hout272 hphi273
                        have hS274 : St wd2 wd270 [] := St.extend hS167 he271
                        obtain ⟨S275, hS276, hf277⟩ := hphi273 8 54 _ rfl rfl rfl
                        have e278 : f269 54 = (Value.pointer (some ⟨b1, 0, none⟩)) := hf277
                        exact OpX.val v_r_Table wd270 rfl (op_load one_22 e278 (BoxAt.cell (BoxAt.lift hS274.ext hx6) rfl)) (Ext.refl _) rfl
                      · refine ObX.op rfl ?_
                        intro f279 wd280 he281 hout282 hphi283
                        have hS284 : St wd2 wd280 [] := St.extend hS167 he281
                        have e285 : f279 11 = (Value.int .i64 (k132 : Int)) := (hout282 11 rfl).trans rfl
                        exact OpX.val (Value.int .i64 (k132 : Int)) wd280 rfl (op_move e285) (Ext.refl _) ⟨rfl, hr166⟩
                      · refine ObX.op rfl ?_
                        intro f286 wd287 he288 hout289 hphi290
                        have hS291 : St wd2 wd287 [] := St.extend hS167 he288
                        obtain ⟨S292, hS293, hf294⟩ := hphi290 9 55 _ rfl rfl rfl
                        have e295 : f286 55 = v_r_Table := hf294
                        obtain ⟨S296, hS297, hf298⟩ := hphi290 10 56 _ rfl rfl rfl
                        obtain ⟨e299, hr300⟩ : f286 56 = (Value.int .i64 (k132 : Int)) ∧ InR .i64 (k132 : Int) := hf298
                        exact OpX.val (Value.pointer (some (elA v_r_Table ((k132 : Int)).toNat))) wd287 rfl (op_idx sl_22 (Ty.lift _ (Ext.trans hE7 hS291.ext) r_r_Table) e295 e299 ha302 hb303) (Ext.refl _) rfl
                      · refine ObX.op rfl ?_
                        intro f305 wd306 he307 hout308 hphi309
                        have hS310 : St wd2 wd306 [] := St.extend hS167 he307
                        obtain ⟨S311, hS312, hf313⟩ := hphi309 11 57 _ rfl rfl rfl
                        have e314 : f305 57 = (Value.pointer (some (elA v_r_Table ((k132 : Int)).toNat))) := hf313
                        exact OpX.val u315 wd306 rfl (op_load one_65 e314 (Ext.cell (Ext.trans hE7 hS310.ext) hc316)) (Ext.refl _) rfl
                      · refine ObX.op rfl ?_
                        intro f318 wd319 he320 hout321 hphi322
                        have hS323 : St wd2 wd319 [] := St.extend hS167 he320
                        have e324 : f318 7 = (Value.int .i64 (k71 : Int)) := (hout321 7 rfl).trans hf148
                        exact OpX.val (Value.int .i64 (k71 : Int)) wd319 rfl (op_move e324) (Ext.refl _) ⟨rfl, hr93⟩
                      · refine ObX.op rfl ?_
                        intro f325 wd326 he327 hout328 hphi329
                        have hS330 : St wd2 wd326 [] := St.extend hS167 he327
                        obtain ⟨S331, hS332, hf333⟩ := hphi329 12 58 _ rfl rfl rfl
                        have e334 : f325 58 = u315 := hf333
                        obtain ⟨S335, hS336, hf337⟩ := hphi329 13 59 _ rfl rfl rfl
                        obtain ⟨e338, hr339⟩ : f325 59 = (Value.int .i64 (k71 : Int)) ∧ InR .i64 (k71 : Int) := hf337
                        exact OpX.val (Value.pointer (some (elA u315 ((k71 : Int)).toNat))) wd326 rfl (op_idx sl_65 (Ty.lift _ (Ext.trans hE7 hS330.ext) hr317) e334 e338 ha341 hb342) (Ext.refl _) rfl
                      · refine ObX.op rfl ?_
                        intro f344 wd345 he346 hout347 hphi348
                        have hS349 : St wd2 wd345 [] := St.extend hS167 he346
                        obtain ⟨S350, hS351, hf352⟩ := hphi348 14 60 _ rfl rfl rfl
                        have e353 : f344 60 = (Value.pointer (some (elA u315 ((k71 : Int)).toNat))) := hf352
                        exact OpX.val u354 wd345 rfl (op_load one_25 e353 (Ext.cell (Ext.trans hE7 hS349.ext) hc355)) (Ext.refl _) rfl
                      · refine ObX.op rfl ?_
                        intro f357 wd358 he359 hout360 hphi361
                        have hS362 : St wd2 wd358 [] := St.extend hS167 he359
                        have e363 : f357 8 = (Value.int .i64 (k100 : Int)) := (hout360 8 rfl).trans hf149
                        exact OpX.val (Value.int .i64 (k100 : Int)) wd358 rfl (op_move e363) (Ext.refl _) ⟨rfl, hr125⟩
                      · refine ObX.op rfl ?_
                        intro f364 wd365 he366 hout367 hphi368
                        have hS369 : St wd2 wd365 [] := St.extend hS167 he366
                        obtain ⟨S370, hS371, hf372⟩ := hphi368 15 61 _ rfl rfl rfl
                        have e373 : f364 61 = u354 := hf372
                        obtain ⟨S374, hS375, hf376⟩ := hphi368 16 62 _ rfl rfl rfl
                        obtain ⟨e377, hr378⟩ : f364 62 = (Value.int .i64 (k100 : Int)) ∧ InR .i64 (k100 : Int) := hf376
                        exact OpX.val (Value.pointer (some (elA u354 ((k100 : Int)).toNat))) wd365 rfl (op_idx sl_25 (Ty.lift _ (Ext.trans hE7 hS369.ext) hr356) e373 e377 ha380 hb381) (Ext.refl _) rfl
                      · refine ObX.op rfl ?_
                        intro f383 wd384 he385 hout386 hphi387
                        have hS388 : St wd2 wd384 [] := St.extend hS167 he385
                        obtain ⟨S389, hS390, hf391⟩ := hphi387 17 63 _ rfl rfl rfl
                        have e392 : f383 63 = (Value.pointer (some (elA u354 ((k100 : Int)).toNat))) := hf391
                        exact OpX.val (Value.int .i64 x379) wd384 rfl (op_load one_2 e392 (Ext.cell (Ext.trans hE7 hS388.ext) hc394)) (Ext.refl _) ⟨rfl, hr395⟩
                      · refine ObX.op rfl ?_
                        intro f396 wd397 he398 hout399 hphi400
                        have hS401 : St wd2 wd397 [] := St.extend hS167 he398
                        obtain ⟨S402, hS403, hf404⟩ := hphi400 7 53 _ rfl rfl rfl
                        obtain ⟨e405, hr406⟩ : f396 53 = (Value.int .i64 x245) ∧ InR .i64 x245 := hf404
                        obtain ⟨S407, hS408, hf409⟩ := hphi400 18 64 _ rfl rfl rfl
                        obtain ⟨e410, hr411⟩ : f396 64 = (Value.int .i64 x379) ∧ InR .i64 x379 := hf409
                        exact OpX.val (Value.int .i64 (w64 (x245 * x379))) wd397 rfl (op_mul e405 e410) (Ext.refl _) ⟨rfl, (inR_wrap _ _)⟩
                      · intro f412 wd413 Ss414 he415 hout416 hSn417 hSd418 hphi419
                        show WL _ _ _ _ _ _ _
                        have hS420 : St wd2 wd413 [] := St.extend hS167 he415
                        obtain ⟨e421, hr422⟩ : f412 46 = (Value.int .i64 x133) ∧ InR .i64 x133 := hphi419 0 46 _ (by decide) rfl rfl
                        obtain ⟨e423, hr424⟩ : f412 65 = (Value.int .i64 (w64 (x245 * x379))) ∧ InR .i64 (w64 (x245 * x379)) := hphi419 19 65 _ (by decide) rfl rfl
                        have e425 : f412 1 = (Value.pointer (some ⟨b1, 0, none⟩)) := (hout416 1 rfl).trans hf143
                        have e426 : f412 3 = (Value.int .i64 (k12 : Int)) := (hout416 3 rfl).trans hf144
                        have e427 : f412 4 = u33 := (hout416 4 rfl).trans hf145
                        have e428 : f412 5 = (Value.int .i64 (k39 : Int)) := (hout416 5 rfl).trans hf146
                        have e429 : f412 6 = u65 := (hout416 6 rfl).trans hf147
                        have e430 : f412 7 = (Value.int .i64 (k71 : Int)) := (hout416 7 rfl).trans hf148
                        have e431 : f412 8 = (Value.int .i64 (k100 : Int)) := (hout416 8 rfl).trans hf149
                        have e432 : f412 10 = (Value.int .i64 x134) := (hout416 10 rfl).trans hf152
                        have e433 : f412 11 = (Value.int .i64 (k132 : Int)) := (hout416 11 rfl).trans rfl
                        have e434 : f412 13 = v_r_Table := (hout416 13 rfl).trans hf154
                        have e435 : f412 14 = (Value.int .i64 ((r_Table).length : Int)) := (hout416 14 rfl).trans hf155
                        have e436 : f412 15 = (Value.int .i64 (k12 : Int)) := (hout416 15 rfl).trans hf156
                        have e437 : f412 21 = v_r_Table := (hout416 21 rfl).trans hf157
                        have e438 : f412 22 = (Value.int .i64 ((r_Table).length : Int)) := (hout416 22 rfl).trans hf158
                        have e439 : f412 23 = (Value.int .i64 (k39 : Int)) := (hout416 23 rfl).trans hf159
                        have e440 : f412 30 = (Value.int .i64 ((r_Table).length : Int)) := (hout416 30 rfl).trans hf160
                        have e441 : f412 31 = (Value.int .i64 (k71 : Int)) := (hout416 31 rfl).trans hf161
                        have e442 : f412 36 = (Value.int .i64 ((r_Table).length : Int)) := (hout416 36 rfl).trans hf162
                        have e443 : f412 37 = (Value.int .i64 (k100 : Int)) := (hout416 37 rfl).trans hf163
                        have e444 : f412 42 = (Value.int .i64 ((r_Table).length : Int)) := (hout416 42 rfl).trans hf164
                        have e445 : f412 43 = (Value.int .i64 (k132 : Int)) := (hout416 43 rfl).trans hf165
                        refine WL.val (Value.int .i64 (w64 (x133 + (w64 (x245 * x379))))) _ (op_add e421 e423) rfl ?_
                        refine WL.val (Value.int .i64 (w64 (x133 + (w64 (x245 * x379))))) _ (op_assign rfl) rfl ?_
                        refine WL.nil ?_
                        show W _ _ _ _ _ _
                        obtain ⟨x482, hx485, hb139⟩ := bs hb139
                        obtain ⟨ha483, hb484, hx485⟩ := idx_some hx485
                        obtain ⟨u496, hc497, hr498⟩ := repSl.el hr67 hx485
                        obtain ⟨x521, hx524, hb139⟩ := bs hb139
                        obtain ⟨ha522, hb523, hx524⟩ := idx_some hx524
                        obtain ⟨u535, hc536, hr537⟩ := repSl.el hr498 hx524
                        obtain ⟨rfl, hr537⟩ := hr537
                        obtain ⟨x567, hx570, hb139⟩ := bs hb139
                        obtain ⟨ha568, hb569, hx570⟩ := idx_some hx570
                        obtain ⟨u581, hc582, hr583⟩ := repSl.el hr35 hx570
                        obtain ⟨x606, hx609, hb139⟩ := bs hb139
                        obtain ⟨ha607, hb608, hx609⟩ := idx_some hx609
                        obtain ⟨u620, hc621, hr622⟩ := repSl.el hr583 hx609
                        obtain ⟨rfl, hr622⟩ := hr622
                        refine W.drawR mixo 16 [] [fun _ v _ _ => v = (Value.int .i64 x134) ∧ InR .i64 x134, fun _ v _ _ => v = u65, fun _ v _ _ => v = (Value.int .i64 (k71 : Int)) ∧ InR .i64 (k71 : Int), fun _ v _ _ => v = (Value.pointer (some (elA u65 ((k71 : Int)).toNat))), fun _ v _ _ => v = u496, fun _ v _ _ => v = (Value.int .i64 (k132 : Int)) ∧ InR .i64 (k132 : Int), fun _ v _ _ => v = (Value.pointer (some (elA u496 ((k132 : Int)).toNat))), fun _ v _ _ => v = (Value.int .i64 x521) ∧ InR .i64 x521, fun _ v _ _ => v = u33, fun _ v _ _ => v = (Value.int .i64 (k132 : Int)) ∧ InR .i64 (k132 : Int), fun _ v _ _ => v = (Value.pointer (some (elA u33 ((k132 : Int)).toNat))), fun _ v _ _ => v = u581, fun _ v _ _ => v = (Value.int .i64 (k100 : Int)) ∧ InR .i64 (k100 : Int), fun _ v _ _ => v = (Value.pointer (some (elA u581 ((k100 : Int)).toNat))), fun _ v _ _ => v = (Value.int .i64 x606) ∧ InR .i64 x606, fun _ v _ _ => v = (Value.int .i64 (w64 (x521 * x606))) ∧ InR .i64 (w64 (x521 * x606))] (by kernel_rfl) (by kernel_rfl) ⟨⟨fun _ _ _ _ _ _ h => h, fun _ _ _ _ _ _ h => h⟩, ⟨fun _ _ _ _ _ _ h => h, fun _ _ _ _ _ _ h => h⟩, ⟨fun _ _ _ _ _ _ h => h, fun _ _ _ _ _ _ h => h⟩, ⟨fun _ _ _ _ _ _ h => h, fun _ _ _ _ _ _ h => h⟩, ⟨fun _ _ _ _ _ _ h => h, fun _ _ _ _ _ _ h => h⟩, ⟨fun _ _ _ _ _ _ h => h, fun _ _ _ _ _ _ h => h⟩, ⟨fun _ _ _ _ _ _ h => h, fun _ _ _ _ _ _ h => h⟩, ⟨fun _ _ _ _ _ _ h => h, fun _ _ _ _ _ _ h => h⟩, ⟨fun _ _ _ _ _ _ h => h, fun _ _ _ _ _ _ h => h⟩, ⟨fun _ _ _ _ _ _ h => h, fun _ _ _ _ _ _ h => h⟩, ⟨fun _ _ _ _ _ _ h => h, fun _ _ _ _ _ _ h => h⟩, ⟨fun _ _ _ _ _ _ h => h, fun _ _ _ _ _ _ h => h⟩, ⟨fun _ _ _ _ _ _ h => h, fun _ _ _ _ _ _ h => h⟩, ⟨fun _ _ _ _ _ _ h => h, fun _ _ _ _ _ _ h => h⟩, ⟨fun _ _ _ _ _ _ h => h, fun _ _ _ _ _ _ h => h⟩, ⟨fun _ _ _ _ _ _ h => h, fun _ _ _ _ _ _ h => h⟩, trivial⟩ ⟨?_, ?_, ?_, ?_, ?_, ?_, ?_, ?_, ?_, ?_, ?_, ?_, ?_, ?_, ?_, ?_, trivial⟩ ?_
                        · refine ObX.op rfl ?_
                          intro f446 wd447 he448 hout449 hphi450
                          have hS451 : St wd2 wd447 [] := St.extend hS420 he448
                          have e452 : f446 10 = (Value.int .i64 x134) := (hout449 10 rfl).trans e432
                          exact OpX.val (Value.int .i64 x134) wd447 rfl (op_move e452) (Ext.refl _) ⟨rfl, hr153⟩
                        · refine ObX.op rfl ?_
                          intro f453 wd454 he455 hout456 hphi457
                          have hS458 : St wd2 wd454 [] := St.extend hS420 he455
                          have e459 : f453 6 = u65 := (hout456 6 rfl).trans e429
                          exact OpX.val u65 wd454 rfl (op_move e459) (Ext.refl _) rfl
                        · refine ObX.op rfl ?_
                          intro f460 wd461 he462 hout463 hphi464
                          have hS465 : St wd2 wd461 [] := St.extend hS420 he462
                          have e466 : f460 7 = (Value.int .i64 (k71 : Int)) := (hout463 7 rfl).trans e430
                          exact OpX.val (Value.int .i64 (k71 : Int)) wd461 rfl (op_move e466) (Ext.refl _) ⟨rfl, hr93⟩
                        · refine ObX.op rfl ?_
                          intro f467 wd468 he469 hout470 hphi471
                          have hS472 : St wd2 wd468 [] := St.extend hS420 he469
                          obtain ⟨S473, hS474, hf475⟩ := hphi471 1 68 _ rfl rfl rfl
                          have e476 : f467 68 = u65 := hf475
                          obtain ⟨S477, hS478, hf479⟩ := hphi471 2 69 _ rfl rfl rfl
                          obtain ⟨e480, hr481⟩ : f467 69 = (Value.int .i64 (k71 : Int)) ∧ InR .i64 (k71 : Int) := hf479
                          exact OpX.val (Value.pointer (some (elA u65 ((k71 : Int)).toNat))) wd468 rfl (op_idx sl_65 (Ty.lift _ (Ext.trans hE7 hS472.ext) hr67) e476 e480 ha483 hb484) (Ext.refl _) rfl
                        · refine ObX.op rfl ?_
                          intro f486 wd487 he488 hout489 hphi490
                          have hS491 : St wd2 wd487 [] := St.extend hS420 he488
                          obtain ⟨S492, hS493, hf494⟩ := hphi490 3 70 _ rfl rfl rfl
                          have e495 : f486 70 = (Value.pointer (some (elA u65 ((k71 : Int)).toNat))) := hf494
                          exact OpX.val u496 wd487 rfl (op_load one_25 e495 (Ext.cell (Ext.trans hE7 hS491.ext) hc497)) (Ext.refl _) rfl
                        · refine ObX.op rfl ?_
                          intro f499 wd500 he501 hout502 hphi503
                          have hS504 : St wd2 wd500 [] := St.extend hS420 he501
                          have e505 : f499 11 = (Value.int .i64 (k132 : Int)) := (hout502 11 rfl).trans e433
                          exact OpX.val (Value.int .i64 (k132 : Int)) wd500 rfl (op_move e505) (Ext.refl _) ⟨rfl, hr166⟩
                        · refine ObX.op rfl ?_
                          intro f506 wd507 he508 hout509 hphi510
                          have hS511 : St wd2 wd507 [] := St.extend hS420 he508
                          obtain ⟨S512, hS513, hf514⟩ := hphi510 4 71 _ rfl rfl rfl
                          have e515 : f506 71 = u496 := hf514
                          obtain ⟨S516, hS517, hf518⟩ := hphi510 5 72 _ rfl rfl rfl
                          obtain ⟨e519, hr520⟩ : f506 72 = (Value.int .i64 (k132 : Int)) ∧ InR .i64 (k132 : Int) := hf518
                          exact OpX.val (Value.pointer (some (elA u496 ((k132 : Int)).toNat))) wd507 rfl (op_idx sl_25 (Ty.lift _ (Ext.trans hE7 hS511.ext) hr498) e515 e519 ha522 hb523) (Ext.refl _) rfl
                        · refine ObX.op rfl ?_
                          intro f525 wd526 he527 hout528 hphi529
                          have hS530 : St wd2 wd526 [] := St.extend hS420 he527
                          obtain ⟨S531, hS532, hf533⟩ := hphi529 6 73 _ rfl rfl rfl
                          have e534 : f525 73 = (Value.pointer (some (elA u496 ((k132 : Int)).toNat))) := hf533
                          exact OpX.val (Value.int .i64 x521) wd526 rfl (op_load one_2 e534 (Ext.cell (Ext.trans hE7 hS530.ext) hc536)) (Ext.refl _) ⟨rfl, hr537⟩
                        · refine ObX.op rfl ?_
                          intro f538 wd539 he540 hout541 hphi542
                          have hS543 : St wd2 wd539 [] := St.extend hS420 he540
                          have e544 : f538 4 = u33 := (hout541 4 rfl).trans e427
                          exact OpX.val u33 wd539 rfl (op_move e544) (Ext.refl _) rfl
                        · refine ObX.op rfl ?_
                          intro f545 wd546 he547 hout548 hphi549
                          have hS550 : St wd2 wd546 [] := St.extend hS420 he547
                          have e551 : f545 11 = (Value.int .i64 (k132 : Int)) := (hout548 11 rfl).trans e433
                          exact OpX.val (Value.int .i64 (k132 : Int)) wd546 rfl (op_move e551) (Ext.refl _) ⟨rfl, hr166⟩
                        · refine ObX.op rfl ?_
                          intro f552 wd553 he554 hout555 hphi556
                          have hS557 : St wd2 wd553 [] := St.extend hS420 he554
                          obtain ⟨S558, hS559, hf560⟩ := hphi556 8 75 _ rfl rfl rfl
                          have e561 : f552 75 = u33 := hf560
                          obtain ⟨S562, hS563, hf564⟩ := hphi556 9 76 _ rfl rfl rfl
                          obtain ⟨e565, hr566⟩ : f552 76 = (Value.int .i64 (k132 : Int)) ∧ InR .i64 (k132 : Int) := hf564
                          exact OpX.val (Value.pointer (some (elA u33 ((k132 : Int)).toNat))) wd553 rfl (op_idx sl_65 (Ty.lift _ (Ext.trans hE7 hS557.ext) hr35) e561 e565 ha568 hb569) (Ext.refl _) rfl
                        · refine ObX.op rfl ?_
                          intro f571 wd572 he573 hout574 hphi575
                          have hS576 : St wd2 wd572 [] := St.extend hS420 he573
                          obtain ⟨S577, hS578, hf579⟩ := hphi575 10 77 _ rfl rfl rfl
                          have e580 : f571 77 = (Value.pointer (some (elA u33 ((k132 : Int)).toNat))) := hf579
                          exact OpX.val u581 wd572 rfl (op_load one_25 e580 (Ext.cell (Ext.trans hE7 hS576.ext) hc582)) (Ext.refl _) rfl
                        · refine ObX.op rfl ?_
                          intro f584 wd585 he586 hout587 hphi588
                          have hS589 : St wd2 wd585 [] := St.extend hS420 he586
                          have e590 : f584 8 = (Value.int .i64 (k100 : Int)) := (hout587 8 rfl).trans e431
                          exact OpX.val (Value.int .i64 (k100 : Int)) wd585 rfl (op_move e590) (Ext.refl _) ⟨rfl, hr125⟩
                        · refine ObX.op rfl ?_
                          intro f591 wd592 he593 hout594 hphi595
                          have hS596 : St wd2 wd592 [] := St.extend hS420 he593
                          obtain ⟨S597, hS598, hf599⟩ := hphi595 11 78 _ rfl rfl rfl
                          have e600 : f591 78 = u581 := hf599
                          obtain ⟨S601, hS602, hf603⟩ := hphi595 12 79 _ rfl rfl rfl
                          obtain ⟨e604, hr605⟩ : f591 79 = (Value.int .i64 (k100 : Int)) ∧ InR .i64 (k100 : Int) := hf603
                          exact OpX.val (Value.pointer (some (elA u581 ((k100 : Int)).toNat))) wd592 rfl (op_idx sl_25 (Ty.lift _ (Ext.trans hE7 hS596.ext) hr583) e600 e604 ha607 hb608) (Ext.refl _) rfl
                        · refine ObX.op rfl ?_
                          intro f610 wd611 he612 hout613 hphi614
                          have hS615 : St wd2 wd611 [] := St.extend hS420 he612
                          obtain ⟨S616, hS617, hf618⟩ := hphi614 13 80 _ rfl rfl rfl
                          have e619 : f610 80 = (Value.pointer (some (elA u581 ((k100 : Int)).toNat))) := hf618
                          exact OpX.val (Value.int .i64 x606) wd611 rfl (op_load one_2 e619 (Ext.cell (Ext.trans hE7 hS615.ext) hc621)) (Ext.refl _) ⟨rfl, hr622⟩
                        · refine ObX.op rfl ?_
                          intro f623 wd624 he625 hout626 hphi627
                          have hS628 : St wd2 wd624 [] := St.extend hS420 he625
                          obtain ⟨S629, hS630, hf631⟩ := hphi627 7 74 _ rfl rfl rfl
                          obtain ⟨e632, hr633⟩ : f623 74 = (Value.int .i64 x521) ∧ InR .i64 x521 := hf631
                          obtain ⟨S634, hS635, hf636⟩ := hphi627 14 81 _ rfl rfl rfl
                          obtain ⟨e637, hr638⟩ : f623 81 = (Value.int .i64 x606) ∧ InR .i64 x606 := hf636
                          exact OpX.val (Value.int .i64 (w64 (x521 * x606))) wd624 rfl (op_mul e632 e637) (Ext.refl _) ⟨rfl, (inR_wrap _ _)⟩
                        · intro f639 wd640 Ss641 he642 hout643 hSn644 hSd645 hphi646
                          show WL _ _ _ _ _ _ _
                          have hS647 : St wd2 wd640 [] := St.extend hS420 he642
                          obtain ⟨e648, hr649⟩ : f639 67 = (Value.int .i64 x134) ∧ InR .i64 x134 := hphi646 0 67 _ (by decide) rfl rfl
                          obtain ⟨e650, hr651⟩ : f639 82 = (Value.int .i64 (w64 (x521 * x606))) ∧ InR .i64 (w64 (x521 * x606)) := hphi646 15 82 _ (by decide) rfl rfl
                          have e652 : f639 1 = (Value.pointer (some ⟨b1, 0, none⟩)) := (hout643 1 rfl).trans e425
                          have e653 : f639 3 = (Value.int .i64 (k12 : Int)) := (hout643 3 rfl).trans e426
                          have e654 : f639 4 = u33 := (hout643 4 rfl).trans e427
                          have e655 : f639 5 = (Value.int .i64 (k39 : Int)) := (hout643 5 rfl).trans e428
                          have e656 : f639 6 = u65 := (hout643 6 rfl).trans e429
                          have e657 : f639 7 = (Value.int .i64 (k71 : Int)) := (hout643 7 rfl).trans e430
                          have e658 : f639 8 = (Value.int .i64 (k100 : Int)) := (hout643 8 rfl).trans e431
                          have e659 : f639 9 = (Value.int .i64 (w64 (x133 + (w64 (x245 * x379))))) := (hout643 9 rfl).trans rfl
                          have e660 : f639 13 = v_r_Table := (hout643 13 rfl).trans e434
                          have e661 : f639 14 = (Value.int .i64 ((r_Table).length : Int)) := (hout643 14 rfl).trans e435
                          have e662 : f639 15 = (Value.int .i64 (k12 : Int)) := (hout643 15 rfl).trans e436
                          have e663 : f639 21 = v_r_Table := (hout643 21 rfl).trans e437
                          have e664 : f639 22 = (Value.int .i64 ((r_Table).length : Int)) := (hout643 22 rfl).trans e438
                          have e665 : f639 23 = (Value.int .i64 (k39 : Int)) := (hout643 23 rfl).trans e439
                          have e666 : f639 30 = (Value.int .i64 ((r_Table).length : Int)) := (hout643 30 rfl).trans e440
                          have e667 : f639 31 = (Value.int .i64 (k71 : Int)) := (hout643 31 rfl).trans e441
                          have e668 : f639 36 = (Value.int .i64 ((r_Table).length : Int)) := (hout643 36 rfl).trans e442
                          have e669 : f639 37 = (Value.int .i64 (k100 : Int)) := (hout643 37 rfl).trans e443
                          have e670 : f639 42 = (Value.int .i64 ((r_Table).length : Int)) := (hout643 42 rfl).trans e444
                          have e671 : f639 43 = (Value.int .i64 (k132 : Int)) := (hout643 43 rfl).trans e445
                          refine WL.val (Value.int .i64 (w64 (x134 + (w64 (x521 * x606))))) _ (op_add e648 e650) rfl ?_
                          refine WL.val (Value.int .i64 (w64 (x134 + (w64 (x521 * x606))))) _ (op_assign rfl) rfl ?_
                          refine WL.nil ?_
                          show W _ _ _ _ _ _
                          refine W.region ?_
                          refine WL.val (Value.int .i64 (w64 ((k132 : Int) + (1 : Int)))) _ (op_add e671 rfl) rfl ?_
                          refine WL.val (Value.int .i64 (w64 ((k132 : Int) + (1 : Int)))) _ (op_move rfl) rfl ?_
                          refine WL.nil ?_
                          obtain rfl := Option.some.inj hb139
                          show ∃ s, _ = Ctl.next s ∧ _
                          exact ⟨_, rfl, e652, e653, e654, e655, e656, e657, e658, e659, (inR_wrap _ _), rfl, (inR_wrap _ _), e660, e661, e662, e663, e664, e665, e666, e667, e668, e669, e670, (ctr_next hl168 hr129), (ctr_rng hl168 hr129), hS647⟩
                    · intro s677 f673 wd674 hs675 hI676
                      obtain ⟨x678, x679⟩ := s677
                      replace hI676 : f673 1 = (Value.pointer (some ⟨b1, 0, none⟩)) ∧ f673 3 = (Value.int .i64 (k12 : Int)) ∧ f673 4 = u33 ∧ f673 5 = (Value.int .i64 (k39 : Int)) ∧ f673 6 = u65 ∧ f673 7 = (Value.int .i64 (k71 : Int)) ∧ f673 8 = (Value.int .i64 (k100 : Int)) ∧ f673 9 = Value.int .i64 x678 ∧ InR .i64 x678 ∧ f673 10 = Value.int .i64 x679 ∧ InR .i64 x679 ∧ f673 13 = v_r_Table ∧ f673 14 = (Value.int .i64 ((r_Table).length : Int)) ∧ f673 15 = (Value.int .i64 (k12 : Int)) ∧ f673 21 = v_r_Table ∧ f673 22 = (Value.int .i64 ((r_Table).length : Int)) ∧ f673 23 = (Value.int .i64 (k39 : Int)) ∧ f673 30 = (Value.int .i64 ((r_Table).length : Int)) ∧ f673 31 = (Value.int .i64 (k71 : Int)) ∧ f673 36 = (Value.int .i64 ((r_Table).length : Int)) ∧ f673 37 = (Value.int .i64 (k100 : Int)) ∧ f673 42 = (Value.int .i64 ((r_Table).length : Int)) ∧ f673 43 = Value.int .i64 (((r_Table).length : Nat) : Int) ∧ InR .i64 (((r_Table).length : Nat) : Int) ∧ St wd2 wd674 [] := hI676
                      obtain ⟨hf680, hf681, hf682, hf683, hf684, hf685, hf686, hf687, hr688, hf689, hr690, hf691, hf692, hf693, hf694, hf695, hf696, hf697, hf698, hf699, hf700, hf701, hf702, hr703, hS704⟩ := hI676
                      refine W.seq ?_
                      refine W.region ?_
                      refine WL.val (Value.bool (decide ((((r_Table).length : Nat) : Int) < ((r_Table).length : Int)))) _ (op_lss hf702 hf701) rfl ?_
                      have hl705 : ¬ (((r_Table).length : Nat) : Int) < ((r_Table).length : Int) := by omega
                      refine WL.nil ?_
                      show W _ _ _ _ _ _
                      refine W.seq ?_
                      refine W.condF (decide ((((r_Table).length : Nat) : Int) < ((r_Table).length : Int))) rfl (decide_eq_false hl705) ?_
                      refine W.exit ?_
                      show _ = _ ∧ _
                      exact ⟨rfl, _, hs675, hf680, hf681, hf682, hf683, hf684, hf685, hf686, hf687, hr688, hf689, hr690, hf691, hf692, hf693, hf694, hf695, hf696, hf697, hf698, hf699, hf700, hS704⟩
                  · rintro f706 wd707 ⟨s709, rfl, hq708⟩
                    replace hb105 := onRes_fin hb105
                    obtain ⟨x710, x711⟩ := s709
                    replace hq708 : f706 1 = (Value.pointer (some ⟨b1, 0, none⟩)) ∧ f706 3 = (Value.int .i64 (k12 : Int)) ∧ f706 4 = u33 ∧ f706 5 = (Value.int .i64 (k39 : Int)) ∧ f706 6 = u65 ∧ f706 7 = (Value.int .i64 (k71 : Int)) ∧ f706 8 = (Value.int .i64 (k100 : Int)) ∧ f706 9 = Value.int .i64 x710 ∧ InR .i64 x710 ∧ f706 10 = Value.int .i64 x711 ∧ InR .i64 x711 ∧ f706 13 = v_r_Table ∧ f706 14 = (Value.int .i64 ((r_Table).length : Int)) ∧ f706 15 = (Value.int .i64 (k12 : Int)) ∧ f706 21 = v_r_Table ∧ f706 22 = (Value.int .i64 ((r_Table).length : Int)) ∧ f706 23 = (Value.int .i64 (k39 : Int)) ∧ f706 30 = (Value.int .i64 ((r_Table).length : Int)) ∧ f706 31 = (Value.int .i64 (k71 : Int)) ∧ f706 36 = (Value.int .i64 ((r_Table).length : Int)) ∧ f706 37 = (Value.int .i64 (k100 : Int)) ∧ St wd2 wd707 [] := hq708
                    replace hb105 : (_ : Option _) = _ := hb105
                    dsimp only at hb105
                    obtain ⟨hf712, hf713, hf714, hf715, hf716, hf717, hf718, hf719, hr720, hf721, hr722, hf723, hf724, hf725, hf726, hf727, hf728, hf729, hf730, hf731, hf732, hS733⟩ := hq708
                    show W _ _ _ _ _ _
                    refine W.seq ?_
                    refine W.region ?_
                    refine WL.val (Value.int .i64 x710) _ (op_move hf719) rfl ?_
                    refine WL.val (Value.int .i64 x711) _ (op_move hf721) rfl ?_
                    refine WL.val (Value.bool (x710 != x711)) _ (op_neq rfl rfl) rfl ?_
                    refine WL.nil ?_
                    show W _ _ _ _ _ _
                    refine W.cond (x710 != x711) rfl (fun hc734 => ?_) (fun hc734 => ?_)
                    · replace hb105 := ip hb105 hc734
                      refine W.seq ?_
                      refine W.region ?_
                      refine WL.val (Value.int .i64 (k12 : Int)) _ (op_move hf713) rfl ?_
                      refine WL.val (Value.int .i64 (k39 : Int)) _ (op_move hf715) rfl ?_
                      refine WL.val (Value.int .i64 (k71 : Int)) _ (op_move hf717) rfl ?_
                      refine WL.val (Value.int .i64 (k100 : Int)) _ (op_move hf718) rfl ?_
                      refine WL.litFlat (t := (Ty.i .i64)) (flat_i .i64) [(Value.int .i64 (3 : Int)), (Value.int .i64 (k12 : Int)), (Value.int .i64 (k39 : Int)), (Value.int .i64 (k71 : Int)), (Value.int .i64 (k100 : Int))] [(3 : Int), (k12 : Int), (k39 : Int), (k71 : Int), (k100 : Int)] hS733 sl_25 rfl rfl (fillL rfl ⟨rfl, rfl, rfl, rfl, rfl, rfl, rfl, rfl, rfl, rfl, rfl, rfl, rfl, rfl, rfl, trivial⟩) rfl rfl (litL ⟨⟨rfl, (inR_i64.2 (show (-9223372036854775808 : Int) ≤ 3 ∧ (3 : Int) ≤ 9223372036854775807 from by decide))⟩, ⟨rfl, hr25⟩, ⟨rfl, hr57⟩, ⟨rfl, hr93⟩, ⟨rfl, hr125⟩, trivial⟩) rfl ?_
                      intro u736 wd737 hS738 he739
                      replace hS738 : St wd2 wd737 [(Ty.sl (Ty.i .i64)).at u736 ([(3 : Int), (k12 : Int), (k39 : Int), (k71 : Int), (k100 : Int)] : (List Int))] := hS738
                      refine WL.val u736 _ (op_assign rfl) rfl ?_
                      refine WL.nil ?_
                      show W _ _ _ _ _ _
                      refine W.ret ?_
                      obtain rfl := Option.some.inj hb105
                      obtain rfl := hret108 _ rfl
                      replace hb76 := onRes_ret hb76
                      obtain rfl := Option.some.inj hb76
                      obtain rfl := hret79 _ rfl
                      replace hb44 := onRes_ret hb44
                      obtain rfl := Option.some.inj hb44
                      obtain rfl := hret47 _ rfl
                      replace hb17 := onRes_ret hb17
                      obtain rfl := Option.some.inj hb17
                      obtain rfl := hret20 _ rfl
                      replace h := onRes_ret h
                      obtain rfl := Option.some.inj h
                      show FinP _ _ _ _ _ _ _
                      exact FinP.ret _ (res1 rfl rfl) ⟨u736, rfl, (nil_cons), (Ext.trans hE7 hS738.ext), (St.out (St.pick hS738 [0] rfl) (hE7))⟩
                    · replace hb105 := inegb hb105 hc734
                      refine W.skip ?_
                      show W _ _ _ _ _ _
                      refine W.region ?_
                      refine WL.val (Value.int .i64 (w64 ((k100 : Int) + (1 : Int)))) _ (op_add hf732 rfl) rfl ?_
                      refine WL.val (Value.int .i64 (w64 ((k100 : Int) + (1 : Int)))) _ (op_move rfl) rfl ?_
                      refine WL.nil ?_
                      obtain rfl := Option.some.inj hb105
                      show ∃ s, _ = Ctl.next s ∧ _
                      exact ⟨_, rfl, hf712, hf713, hf714, hf715, hf716, hf717, hf723, hf724, hf725, hf726, hf727, hf728, hf729, hf730, hf731, (ctr_next hl127 hr97), (ctr_rng hl127 hr97), hS733⟩
                · intro s746 f742 wd743 hs744 hI745
                  obtain ⟨⟩ := s746
                  replace hI745 : f742 1 = (Value.pointer (some ⟨b1, 0, none⟩)) ∧ f742 3 = (Value.int .i64 (k12 : Int)) ∧ f742 4 = u33 ∧ f742 5 = (Value.int .i64 (k39 : Int)) ∧ f742 6 = u65 ∧ f742 7 = (Value.int .i64 (k71 : Int)) ∧ f742 13 = v_r_Table ∧ f742 14 = (Value.int .i64 ((r_Table).length : Int)) ∧ f742 15 = (Value.int .i64 (k12 : Int)) ∧ f742 21 = v_r_Table ∧ f742 22 = (Value.int .i64 ((r_Table).length : Int)) ∧ f742 23 = (Value.int .i64 (k39 : Int)) ∧ f742 30 = (Value.int .i64 ((r_Table).length : Int)) ∧ f742 31 = (Value.int .i64 (k71 : Int)) ∧ f742 36 = (Value.int .i64 ((r_Table).length : Int)) ∧ f742 37 = Value.int .i64 (((r_Table).length : Nat) : Int) ∧ InR .i64 (((r_Table).length : Nat) : Int) ∧ St wd2 wd743 [] := hI745
                  obtain ⟨hf747, hf748, hf749, hf750, hf751, hf752, hf753, hf754, hf755, hf756, hf757, hf758, hf759, hf760, hf761, hf762, hr763, hS764⟩ := hI745
                  refine W.seq ?_
                  refine W.region ?_
                  refine WL.val (Value.bool (decide ((((r_Table).length : Nat) : Int) < ((r_Table).length : Int)))) _ (op_lss hf762 hf761) rfl ?_
                  have hl765 : ¬ (((r_Table).length : Nat) : Int) < ((r_Table).length : Int) := by omega
                  refine WL.nil ?_
                  show W _ _ _ _ _ _
                  refine W.seq ?_
                  refine W.condF (decide ((((r_Table).length : Nat) : Int) < ((r_Table).length : Int))) rfl (decide_eq_false hl765) ?_
                  refine W.exit ?_
                  show _ = _ ∧ _
                  exact ⟨rfl, _, hs744, hf747, hf748, hf749, hf750, hf751, hf753, hf754, hf755, hf756, hf757, hf758, hf759, hf760, hS764⟩
              · rintro f766 wd767 ⟨s769, rfl, hq768⟩
                replace hb76 := onRes_fin hb76
                obtain ⟨⟩ := s769
                replace hq768 : f766 1 = (Value.pointer (some ⟨b1, 0, none⟩)) ∧ f766 3 = (Value.int .i64 (k12 : Int)) ∧ f766 4 = u33 ∧ f766 5 = (Value.int .i64 (k39 : Int)) ∧ f766 6 = u65 ∧ f766 13 = v_r_Table ∧ f766 14 = (Value.int .i64 ((r_Table).length : Int)) ∧ f766 15 = (Value.int .i64 (k12 : Int)) ∧ f766 21 = v_r_Table ∧ f766 22 = (Value.int .i64 ((r_Table).length : Int)) ∧ f766 23 = (Value.int .i64 (k39 : Int)) ∧ f766 30 = (Value.int .i64 ((r_Table).length : Int)) ∧ f766 31 = (Value.int .i64 (k71 : Int)) ∧ St wd2 wd767 [] := hq768
                obtain ⟨hf770, hf771, hf772, hf773, hf774, hf775, hf776, hf777, hf778, hf779, hf780, hf781, hf782, hS783⟩ := hq768
                show W _ _ _ _ _ _
                refine W.region ?_
                refine WL.val (Value.int .i64 (w64 ((k71 : Int) + (1 : Int)))) _ (op_add hf782 rfl) rfl ?_
                refine WL.val (Value.int .i64 (w64 ((k71 : Int) + (1 : Int)))) _ (op_move rfl) rfl ?_
                refine WL.nil ?_
                obtain rfl := Option.some.inj hb76
                show ∃ s, _ = Ctl.next s ∧ _
                exact ⟨_, rfl, hf770, hf771, hf772, hf773, hf774, hf775, hf776, hf777, hf778, hf779, hf780, hf781, (ctr_next hl95 hr68), (ctr_rng hl95 hr68), hS783⟩
            · intro s790 f786 wd787 hs788 hI789
              obtain ⟨⟩ := s790
              replace hI789 : f786 1 = (Value.pointer (some ⟨b1, 0, none⟩)) ∧ f786 3 = (Value.int .i64 (k12 : Int)) ∧ f786 4 = u33 ∧ f786 5 = (Value.int .i64 (k39 : Int)) ∧ f786 6 = u65 ∧ f786 13 = v_r_Table ∧ f786 14 = (Value.int .i64 ((r_Table).length : Int)) ∧ f786 15 = (Value.int .i64 (k12 : Int)) ∧ f786 21 = v_r_Table ∧ f786 22 = (Value.int .i64 ((r_Table).length : Int)) ∧ f786 23 = (Value.int .i64 (k39 : Int)) ∧ f786 30 = (Value.int .i64 ((r_Table).length : Int)) ∧ f786 31 = Value.int .i64 (((r_Table).length : Nat) : Int) ∧ InR .i64 (((r_Table).length : Nat) : Int) ∧ St wd2 wd787 [] := hI789
              obtain ⟨hf791, hf792, hf793, hf794, hf795, hf796, hf797, hf798, hf799, hf800, hf801, hf802, hf803, hr804, hS805⟩ := hI789
              refine W.seq ?_
              refine W.region ?_
              refine WL.val (Value.bool (decide ((((r_Table).length : Nat) : Int) < ((r_Table).length : Int)))) _ (op_lss hf803 hf802) rfl ?_
              have hl806 : ¬ (((r_Table).length : Nat) : Int) < ((r_Table).length : Int) := by omega
              refine WL.nil ?_
              show W _ _ _ _ _ _
              refine W.seq ?_
              refine W.condF (decide ((((r_Table).length : Nat) : Int) < ((r_Table).length : Int))) rfl (decide_eq_false hl806) ?_
              refine W.exit ?_
              show _ = _ ∧ _
              exact ⟨rfl, _, hs788, hf791, hf792, hf793, hf796, hf797, hf798, hf799, hf800, hf801, hS805⟩
          · rintro f807 wd808 ⟨s810, rfl, hq809⟩
            replace hb44 := onRes_fin hb44
            obtain ⟨⟩ := s810
            replace hq809 : f807 1 = (Value.pointer (some ⟨b1, 0, none⟩)) ∧ f807 3 = (Value.int .i64 (k12 : Int)) ∧ f807 4 = u33 ∧ f807 13 = v_r_Table ∧ f807 14 = (Value.int .i64 ((r_Table).length : Int)) ∧ f807 15 = (Value.int .i64 (k12 : Int)) ∧ f807 21 = v_r_Table ∧ f807 22 = (Value.int .i64 ((r_Table).length : Int)) ∧ f807 23 = (Value.int .i64 (k39 : Int)) ∧ St wd2 wd808 [] := hq809
            obtain ⟨hf811, hf812, hf813, hf814, hf815, hf816, hf817, hf818, hf819, hS820⟩ := hq809
            show W _ _ _ _ _ _
            refine W.region ?_
            refine WL.val (Value.int .i64 (w64 ((k39 : Int) + (1 : Int)))) _ (op_add hf819 rfl) rfl ?_
            refine WL.val (Value.int .i64 (w64 ((k39 : Int) + (1 : Int)))) _ (op_move rfl) rfl ?_
            refine WL.nil ?_
            obtain rfl := Option.some.inj hb44
            show ∃ s, _ = Ctl.next s ∧ _
            exact ⟨_, rfl, hf811, hf812, hf813, hf814, hf815, hf816, hf817, hf818, (ctr_next hl59 hr36), (ctr_rng hl59 hr36), hS820⟩
        · intro s827 f823 wd824 hs825 hI826
          obtain ⟨⟩ := s827
          replace hI826 : f823 1 = (Value.pointer (some ⟨b1, 0, none⟩)) ∧ f823 3 = (Value.int .i64 (k12 : Int)) ∧ f823 4 = u33 ∧ f823 13 = v_r_Table ∧ f823 14 = (Value.int .i64 ((r_Table).length : Int)) ∧ f823 15 = (Value.int .i64 (k12 : Int)) ∧ f823 21 = v_r_Table ∧ f823 22 = (Value.int .i64 ((r_Table).length : Int)) ∧ f823 23 = Value.int .i64 (((r_Table).length : Nat) : Int) ∧ InR .i64 (((r_Table).length : Nat) : Int) ∧ St wd2 wd824 [] := hI826
          obtain ⟨hf828, hf829, hf830, hf831, hf832, hf833, hf834, hf835, hf836, hr837, hS838⟩ := hI826
          refine W.seq ?_
          refine W.region ?_
          refine WL.val (Value.bool (decide ((((r_Table).length : Nat) : Int) < ((r_Table).length : Int)))) _ (op_lss hf836 hf835) rfl ?_
          have hl839 : ¬ (((r_Table).length : Nat) : Int) < ((r_Table).length : Int) := by omega
          refine WL.nil ?_
          show W _ _ _ _ _ _
          refine W.seq ?_
          refine W.condF (decide ((((r_Table).length : Nat) : Int) < ((r_Table).length : Int))) rfl (decide_eq_false hl839) ?_
          refine W.exit ?_
          show _ = _ ∧ _
          exact ⟨rfl, _, hs825, hf828, hf831, hf832, hf833, hS838⟩
      · rintro f840 wd841 ⟨s843, rfl, hq842⟩
        replace hb17 := onRes_fin hb17
        obtain ⟨⟩ := s843
        replace hq842 : f840 1 = (Value.pointer (some ⟨b1, 0, none⟩)) ∧ f840 13 = v_r_Table ∧ f840 14 = (Value.int .i64 ((r_Table).length : Int)) ∧ f840 15 = (Value.int .i64 (k12 : Int)) ∧ St wd2 wd841 [] := hq842
        obtain ⟨hf844, hf845, hf846, hf847, hS848⟩ := hq842
        show W _ _ _ _ _ _
        refine W.region ?_
        refine WL.val (Value.int .i64 (w64 ((k12 : Int) + (1 : Int)))) _ (op_add hf847 rfl) rfl ?_
        refine WL.val (Value.int .i64 (w64 ((k12 : Int) + (1 : Int)))) _ (op_move rfl) rfl ?_
        refine WL.nil ?_
        obtain rfl := Option.some.inj hb17
        show ∃ s, _ = Ctl.next s ∧ _
        exact ⟨_, rfl, hf844, hf845, hf846, (ctr_next hl27 hr9), (ctr_rng hl27 hr9), hS848⟩
    · intro s855 f851 wd852 hs853 hI854
      obtain ⟨⟩ := s855
      replace hI854 : f851 1 = (Value.pointer (some ⟨b1, 0, none⟩)) ∧ f851 13 = v_r_Table ∧ f851 14 = (Value.int .i64 ((r_Table).length : Int)) ∧ f851 15 = Value.int .i64 (((r_Table).length : Nat) : Int) ∧ InR .i64 (((r_Table).length : Nat) : Int) ∧ St wd2 wd852 [] := hI854
      obtain ⟨hf856, hf857, hf858, hf859, hr860, hS861⟩ := hI854
      refine W.seq ?_
      refine W.region ?_
      refine WL.val (Value.bool (decide ((((r_Table).length : Nat) : Int) < ((r_Table).length : Int)))) _ (op_lss hf859 hf858) rfl ?_
      have hl862 : ¬ (((r_Table).length : Nat) : Int) < ((r_Table).length : Int) := by omega
      refine WL.nil ?_
      show W _ _ _ _ _ _
      refine W.seq ?_
      refine W.condF (decide ((((r_Table).length : Nat) : Int) < ((r_Table).length : Int))) rfl (decide_eq_false hl862) ?_
      refine W.exit ?_
      show _ = _ ∧ _
      exact ⟨rfl, _, hs853, hS861⟩
  · rintro f863 wd864 ⟨s866, rfl, hq865⟩
    replace h := onRes_fin h
    obtain ⟨⟩ := s866
    replace hq865 : St wd2 wd864 [] := hq865
    have hS867 := hq865
    show W _ _ _ _ _ _
    refine W.seq ?_
    refine W.region ?_
    refine WL.val (Value.slice none 0 0) _ (op_assign rfl) rfl ?_
    refine WL.nil ?_
    show W _ _ _ _ _ _
    refine W.ret ?_
    obtain rfl := Option.some.inj h
    show FinP _ _ _ _ _ _ _
    exact FinP.ret _ (res1 rfl rfl) ⟨(Value.slice none 0 0), rfl, (fun _ => ⟨0, 0, rfl⟩), (Ext.trans hE7 hS867.ext), (St.out (St.pick (St.addNil (Ty.i .i64) hS867) [0] rfl) (hE7))⟩

theorem c_impl_Ring_fault {w : World} {r_Table : (List (List (List Int)))} {v_r_Table : Value} (r_r_Table : (Ty.sl (Ty.sl (Ty.sl (Ty.i .i64)))).rep w v_r_Table r_Table) {res : (List Int)} (h : p_impl_Ring_fault r_Table  = some res) :
    Ret Try.prog 82 #[(Value.agg #[v_r_Table])] w (fun v w' => ∃ (u0 : Value), v = u0 ∧ NilIff u0 res ∧ Ext w w' ∧ Sep w.heap.size w' [(Ty.sl (Ty.i .i64)).at u0 res]) := by
  unfold p_impl_Ring_fault at h
  have hS0 : St w w [] := St.start w
  refine Ret.start (fn := Try.f82) Try.func82 rfl 24 rfl rfl ?_
  refine W.seq ?_
  refine W.region ?_
  refine WL.box hS0 rfl (cs := [v_r_Table]) rfl rfl ?_
  intro b1 wd2 hS3 he4 hx5
  replace hS3 : St w wd2 [bx b1 [v_r_Table]] := hS3
  have hx6 := St.boxAt hS3 0 rfl
  have hE7 : Ext w wd2 := hS3.ext
  have hS8 : St wd2 wd2 [] := St.start wd2
  refine WL.val (Value.slice none 0 0) _ (op_assign rfl) rfl ?_
  refine WL.nil ?_
  show W _ _ _ _ _ _
  refine W.seq ?_
  refine W.seq ?_
  refine W.region ?_
  refine WL.val (Value.agg #[v_r_Table]) _ (op_loadBox st_29 rfl (BoxAt.lift hS8.ext hx6) rfl rfl) rfl ?_
  obtain ⟨x9, hx10, h⟩ := bs h
  refine WL.call _ (op_call fn_104 (args1 rfl)) (c_impl_Ring_unitFault (Ty.lift _ (Ext.trans hE7 hS8.ext) r_r_Table) hx10) rfl ?_
  rintro u11 wd13 ⟨_, rfl, hn12, he14, hs15⟩
  have hS16 := St.join hS8 he14 hs15
  replace hS16 : St wd2 wd13 [(Ty.sl (Ty.i .i64)).at u11 x9] := hS16
  refine WL.val u11 _ (op_assign rfl) rfl ?_
  refine WL.nil ?_
  show W _ _ _ _ _ _
  refine W.seq ?_
  refine W.region ?_
  refine WL.val u11 _ (op_move rfl) rfl ?_
  refine WL.val (Value.bool (!(x9).isEmpty)) _ (op_neqNilL sl_25 (St.rep (t := (Ty.sl (Ty.i .i64))) hS16 0 rfl) hn12 rfl rfl) rfl ?_
  refine WL.nil ?_
  show W _ _ _ _ _ _
  refine W.cond (!(x9).isEmpty) rfl (fun hc17 => ?_) (fun hc17 => ?_)
  · replace h := ip h hc17
    refine W.seq ?_
    refine W.region ?_
    refine WL.val u11 _ (op_move rfl) rfl ?_
    refine WL.val u11 _ (op_assign rfl) rfl ?_
    refine WL.nil ?_
    show W _ _ _ _ _ _
    refine W.ret ?_
    obtain rfl := Option.some.inj h
    show FinP _ _ _ _ _ _ _
    exact FinP.ret _ (res1 rfl rfl) ⟨u11, rfl, hn12, (Ext.trans hE7 hS16.ext), (St.out (St.pick hS16 [0] rfl) (hE7))⟩
  · replace h := inegb h hc17
    refine W.skip ?_
    show W _ _ _ _ _ _
    refine W.seq ?_
    refine W.seq ?_
    refine W.region ?_
    refine WL.val (Value.agg #[v_r_Table]) _ (op_loadBox st_29 rfl (BoxAt.lift hS16.ext hx6) rfl rfl) rfl ?_
    obtain ⟨x19, hx20, h⟩ := bs h
    refine WL.call _ (op_call fn_105 (args1 rfl)) (c_impl_Ring_dualFault (Ty.lift _ (Ext.trans hE7 hS16.ext) r_r_Table) hx20) rfl ?_
    rintro _ wd22 ⟨rfl, hr21, he23⟩
    have hS25 := St.extend hS16 he23
    replace hS25 : St wd2 wd22 [(Ty.sl (Ty.i .i64)).at u11 x9] := hS25
    refine WL.val (Value.int .i64 x19) _ (op_assign rfl) rfl ?_
    refine WL.nil ?_
    show W _ _ _ _ _ _
    refine W.seq ?_
    refine W.region ?_
    refine WL.val (Value.int .i64 x19) _ (op_move rfl) rfl ?_
    refine WL.val (Value.bool (decide (x19 ≥ (0 : Int)))) _ (op_geq rfl rfl) rfl ?_
    refine WL.nil ?_
    show W _ _ _ _ _ _
    refine W.cond (decide (x19 ≥ (0 : Int))) rfl (fun hc26 => ?_) (fun hc26 => ?_)
    · replace h := ip h hc26
      refine W.seq ?_
      refine W.region ?_
      refine WL.val (Value.int .i64 x19) _ (op_move rfl) rfl ?_
      refine WL.litFlat (t := (Ty.i .i64)) (flat_i .i64) [(Value.int .i64 (1 : Int)), (Value.int .i64 x19)] [(1 : Int), x19] hS25 sl_25 rfl rfl (fillL rfl ⟨rfl, rfl, rfl, rfl, rfl, rfl, trivial⟩) rfl rfl (litL ⟨⟨rfl, (inR_i64.2 (show (-9223372036854775808 : Int) ≤ 1 ∧ (1 : Int) ≤ 9223372036854775807 from by decide))⟩, ⟨rfl, hr21⟩, trivial⟩) rfl ?_
      intro u28 wd29 hS30 he31
      replace hS30 : St wd2 wd29 [(Ty.sl (Ty.i .i64)).at u11 x9, (Ty.sl (Ty.i .i64)).at u28 ([(1 : Int), x19] : (List Int))] := hS30
      refine WL.val u28 _ (op_assign rfl) rfl ?_
      refine WL.nil ?_
      show W _ _ _ _ _ _
      refine W.ret ?_
      obtain rfl := Option.some.inj h
      show FinP _ _ _ _ _ _ _
      exact FinP.ret _ (res1 rfl rfl) ⟨u28, rfl, (nil_cons), (Ext.trans hE7 hS30.ext), (St.out (St.pick hS30 [1] rfl) (hE7))⟩
    · replace h := inegb h hc26
      refine W.skip ?_
      show W _ _ _ _ _ _
      refine W.seq ?_
      refine W.seq ?_
      refine W.region ?_
      refine WL.val (Value.agg #[v_r_Table]) _ (op_loadBox st_29 rfl (BoxAt.lift hS25.ext hx6) rfl rfl) rfl ?_
      obtain ⟨x32, hx33, h⟩ := bs h
      refine WL.call _ (op_call fn_106 (args1 rfl)) (c_impl_Ring_turnFault (Ty.lift _ (Ext.trans hE7 hS25.ext) r_r_Table) hx33) rfl ?_
      rintro u34 wd36 ⟨_, rfl, hn35, he37, hs38⟩
      have hS39 := St.join hS25 he37 hs38
      replace hS39 : St wd2 wd36 [(Ty.sl (Ty.i .i64)).at u11 x9, (Ty.sl (Ty.i .i64)).at u34 x32] := hS39
      refine WL.val u34 _ (op_assign rfl) rfl ?_
      refine WL.nil ?_
      show W _ _ _ _ _ _
      refine W.seq ?_
      refine W.region ?_
      refine WL.val u34 _ (op_move rfl) rfl ?_
      refine WL.val (Value.bool (!(x32).isEmpty)) _ (op_neqNilL sl_25 (St.rep (t := (Ty.sl (Ty.i .i64))) hS39 1 rfl) hn35 rfl rfl) rfl ?_
      refine WL.nil ?_
      show W _ _ _ _ _ _
      refine W.cond (!(x32).isEmpty) rfl (fun hc40 => ?_) (fun hc40 => ?_)
      · replace h := ip h hc40
        refine W.seq ?_
        refine W.region ?_
        refine WL.val u34 _ (op_move rfl) rfl ?_
        refine WL.val u34 _ (op_assign rfl) rfl ?_
        refine WL.nil ?_
        show W _ _ _ _ _ _
        refine W.ret ?_
        obtain rfl := Option.some.inj h
        show FinP _ _ _ _ _ _ _
        exact FinP.ret _ (res1 rfl rfl) ⟨u34, rfl, hn35, (Ext.trans hE7 hS39.ext), (St.out (St.pick hS39 [1] rfl) (hE7))⟩
      · replace h := inegb h hc40
        refine W.skip ?_
        show W _ _ _ _ _ _
        refine W.seq ?_
        refine W.region ?_
        refine WL.val (Value.agg #[v_r_Table]) _ (op_loadBox st_29 rfl (BoxAt.lift hS39.ext hx6) rfl rfl) rfl ?_
        obtain ⟨x42, hx43, h⟩ := bs h
        refine WL.call _ (op_call fn_107 (args1 rfl)) (c_impl_Ring_bracketFault (Ty.lift _ (Ext.trans hE7 hS39.ext) r_r_Table) hx43) rfl ?_
        rintro u44 wd46 ⟨_, rfl, hn45, he47, hs48⟩
        have hS49 := St.join hS39 he47 hs48
        replace hS49 : St wd2 wd46 [(Ty.sl (Ty.i .i64)).at u11 x9, (Ty.sl (Ty.i .i64)).at u34 x32, (Ty.sl (Ty.i .i64)).at u44 x42] := hS49
        refine WL.val u44 _ (op_assign rfl) rfl ?_
        refine WL.nil ?_
        show W _ _ _ _ _ _
        refine W.ret ?_
        obtain rfl := Option.some.inj h
        show FinP _ _ _ _ _ _ _
        exact FinP.ret _ (res1 rfl rfl) ⟨u44, rfl, hn45, (Ext.trans hE7 hS49.ext), (St.out (St.pick hS49 [2] rfl) (hE7))⟩

theorem c_impl_IsRing {w : World} {r_Table : (List (List (List Int)))} {v_r_Table : Value} (r_r_Table : (Ty.sl (Ty.sl (Ty.sl (Ty.i .i64)))).rep w v_r_Table r_Table) {res : Bool} (h : p_impl_IsRing r_Table  = some res) :
    Ret Try.prog 57 #[(Value.agg #[v_r_Table])] w (fun v w' => v = Value.bool res ∧ Ext w w') := by
  unfold p_impl_IsRing at h
  have hS0 : St w w [] := St.start w
  refine Ret.start (fn := Try.f57) Try.func57 rfl 10 rfl rfl ?_
  refine W.seq ?_
  refine W.region ?_
  refine WL.box hS0 rfl (cs := [v_r_Table]) rfl rfl ?_
  intro b1 wd2 hS3 he4 hx5
  replace hS3 : St w wd2 [bx b1 [v_r_Table]] := hS3
  have hx6 := St.boxAt hS3 0 rfl
  have hE7 : Ext w wd2 := hS3.ext
  have hS8 : St wd2 wd2 [] := St.start wd2
  refine WL.val (Value.bool false) _ (op_assign rfl) rfl ?_
  refine WL.nil ?_
  show W _ _ _ _ _ _
  refine W.seq ?_
  refine W.region ?_
  refine WL.val (Value.agg #[v_r_Table]) _ (op_loadBox st_29 rfl (BoxAt.lift hS8.ext hx6) rfl rfl) rfl ?_
  obtain ⟨x9, hx10, h⟩ := bs h
  refine WL.call _ (op_call fn_81 (args1 rfl)) (c_impl_isCube (Ty.lift _ (Ext.trans hE7 hS8.ext) r_r_Table) hx10) rfl ?_
  rintro _ wd11 ⟨rfl, he12⟩
  have hS14 := St.extend hS8 he12
  replace hS14 : St wd2 wd11 [] := hS14
  refine WL.val (Value.bool x9) _ (op_move rfl) rfl ?_
  obtain ⟨x16, hj17, h⟩ := bs h
  refine WL.cut 4 (fun fq wq => fq 9 = Value.bool x16 ∧ St wd2 wq []) ?_ ?_
  · rcases Bool.eq_false_or_eq_true x9 with hc15 | hc15
    · replace hj17 := ip hj17 hc15
      refine WL.grun rfl (bool_of rfl hc15) ?_
      refine WL.val (Value.agg #[v_r_Table]) _ (op_loadBox st_29 rfl (BoxAt.lift hS14.ext hx6) rfl rfl) rfl ?_
      refine WL.grun rfl (bool_of rfl hc15) ?_
      obtain ⟨x21, hx22, hj17⟩ := bs hj17
      refine WL.call _ (op_call fn_82 (args1 rfl)) (c_impl_Ring_fault (Ty.lift _ (Ext.trans hE7 hS14.ext) r_r_Table) hx22) rfl ?_
      rintro u23 wd25 ⟨_, rfl, hn24, he26, hs27⟩
      have hS28 := St.join hS14 he26 hs27
      replace hS28 : St wd2 wd25 [(Ty.sl (Ty.i .i64)).at u23 x21] := hS28
      refine WL.grun rfl (bool_of rfl hc15) ?_
      refine WL.val (Value.bool (x21).isEmpty) _ (op_eqlNilL sl_25 (St.rep (t := (Ty.sl (Ty.i .i64))) hS28 0 rfl) hn24 rfl rfl) rfl ?_
      refine WL.val (Value.bool (x21).isEmpty) _ (op_pick_t (evb_of rfl hc15) rfl) rfl ?_
      refine WL.nil ?_
      obtain rfl := Option.some.inj hj17
      exact ⟨rfl, rfl, (St.pick hS28 [] rfl)⟩
    · replace hj17 := inegb hj17 hc15
      refine WL.gskip rfl (bool_of rfl hc15) rfl ?_
      refine WL.gskip rfl (bool_of rfl hc15) rfl ?_
      refine WL.gskip rfl (bool_of rfl hc15) rfl ?_
      refine WL.val (Value.bool false) _ (op_pick_f (evb_of rfl hc15) rfl) rfl ?_
      refine WL.nil ?_
      obtain rfl := Option.some.inj hj17
      exact ⟨rfl, rfl, hS14⟩
  · intro f18 wd19 hq20
    obtain ⟨hf29, hS30⟩ := hq20
    refine WL.val (Value.bool x16) _ (op_assign hf29) rfl ?_
    refine WL.nil ?_
    show W _ _ _ _ _ _
    refine W.ret ?_
    obtain rfl := Option.some.inj h
    show FinP _ _ _ _ _ _ _
    exact FinP.ret _ (res1 rfl rfl) ⟨rfl, (Ext.trans hE7 hS30.ext)⟩

theorem c_slices_Clone_Lint64_int64 {w : World} {s1 : (List Int)} {v_s1 : Value} (r_s1 : (Ty.sl (Ty.i .i64)).rep w v_s1 s1) {res : (List Int)} (h : p_slices_Clone_Lint64_int64 s1  = some res) :
    Ret Try.prog 114 #[v_s1] w (fun v w' => ∃ (u0 : Value), v = u0 ∧ Ext w w' ∧ Sep w.heap.size w' [(Ty.sl (Ty.i .i64)).at u0 res]) := by
  unfold p_slices_Clone_Lint64_int64 at h
  have hS0 : St w w [] := St.start w
  obtain ⟨p0, c0, hv0, hl10, hl20, hp0, hel0⟩ := id r_s1
  refine Ret.start (fn := Try.f114) Try.func114 rfl 8 rfl rfl ?_
  refine W.seq ?_
  refine W.region ?_
  refine WL.val (Value.slice none 0 0) _ (op_assign rfl) rfl ?_
  refine WL.nil ?_
  show W _ _ _ _ _ _
  refine W.seq ?_
  refine W.seq ?_
  refine W.region ?_
  refine WL.val v_s1 _ (op_move rfl) rfl ?_
  refine WL.val (Value.bool p0.isNone) _ (op_eqlNil (Eq.trans rfl hv0) rfl sl_25.1) rfl ?_
  refine WL.nil ?_
  show W _ _ _ _ _ _
  refine W.cond p0.isNone rfl (fun hc1 => ?_) (fun hc1 => ?_)
  · obtain rfl : p0 = none := by cases p0 <;> simp_all
    obtain rfl : s1 = [] := Classical.byContradiction fun hn => hp0 hn rfl
    simp [appL] at h
    subst h
    refine W.seq ?_
    refine W.region ?_
    refine WL.val (Value.slice none 0 0) _ (op_assign rfl) rfl ?_
    refine WL.nil ?_
    show W _ _ _ _ _ _
    refine W.ret ?_
    show FinP _ _ _ _ _ _ _
    exact FinP.ret _ (res1 rfl rfl) ⟨(Value.slice none 0 0), rfl, hS0.ext, (St.out (St.pick (St.addNil (Ty.i .i64) hS0) [0] rfl) (Ext.refl _))⟩
  · refine W.skip ?_
    show W _ _ _ _ _ _
    refine W.seq ?_
    refine W.region ?_
    refine WL.lit0 (t := (Ty.i .i64)) hS0 sl_25 rfl rfl ?_
    intro u2 wd3 hS4 he5
    replace hS4 : St w wd3 [(Ty.sl (Ty.i .i64)).at u2 ([] : (List Int))] := hS4
    refine WL.val v_s1 _ (op_move rfl) rfl ?_
    obtain ⟨x6, hx7, h⟩ := bs h
    refine WL.append (flat_i .i64) hS4 (k := 0) rfl sl_25 rfl rfl rfl rfl (Ty.lift _ hS4.ext r_s1) hx7 rfl ?_
    intro u8 wd9 hS10 hz11
    replace hS10 : St w wd9 [(Ty.sl (Ty.i .i64)).at u8 x6] := hS10
    refine WL.val u8 _ (op_assign rfl) rfl ?_
    refine WL.nil ?_
    show W _ _ _ _ _ _
    refine W.ret ?_
    obtain rfl := Option.some.inj h
    show FinP _ _ _ _ _ _ _
    exact FinP.ret _ (res1 rfl rfl) ⟨u8, rfl, hS10.ext, (St.out (St.pick hS10 [0] rfl) (Ext.refl _))⟩

theorem c_impl_Ring_opposite {w : World} {r_Table : (List (List (List Int)))} {v_r_Table : Value} (r_r_Table : (Ty.sl (Ty.sl (Ty.sl (Ty.i .i64)))).rep w v_r_Table r_Table) {res : (List (List (List Int)))} (h : p_impl_Ring_opposite r_Table  = some res) :
    Ret Try.prog 98 #[(Value.agg #[v_r_Table])] w (fun v w' => ∃ (u0 : Value), v = (Value.agg #[u0]) ∧ Ext w w' ∧ Sep w.heap.size w' [(Ty.sl (Ty.sl (Ty.sl (Ty.i .i64)))).at u0 res]) := by
  unfold p_impl_Ring_opposite at h
  have hS0 : St w w [] := St.start w
  refine Ret.start (fn := Try.f98) Try.func98 rfl 42 rfl rfl ?_
  refine W.seq ?_
  refine W.region ?_
  refine WL.box hS0 rfl (cs := [v_r_Table]) rfl rfl ?_
  intro b1 wd2 hS3 he4 hx5
  replace hS3 : St w wd2 [bx b1 [v_r_Table]] := hS3
  have hx6 := St.boxAt hS3 0 rfl
  have hE7 : Ext w wd2 := hS3.ext
  have hS8 : St wd2 wd2 [] := St.start wd2
  refine WL.alloc hS8 ze_29 (cs := [(Value.slice none 0 0)]) rfl rfl ?_
  intro b9 wd10 hS11 he12
  replace hS11 : St wd2 wd10 [bx b9 [(Value.slice none 0 0)]] := hS11
  refine WL.nil ?_
  show W _ _ _ _ _ _
  refine W.seq ?_
  refine W.region ?_
  refine WL.val (Value.agg #[(Value.slice none 0 0)]) _ (op_build bd_29 (parts := []) (partsL trivial) trivial rfl) rfl ?_
  refine WL.alloc hS11 ze_29 (cs := [(Value.slice none 0 0)]) rfl rfl ?_
  intro b13 wd14 hS15 he16
  replace hS15 : St wd2 wd14 [bx b9 [(Value.slice none 0 0)], bx b13 [(Value.slice none 0 0)]] := hS15
  have hS19 := St.addNil (Ty.sl (Ty.sl (Ty.i .i64))) hS15
  replace hS19 : St wd2 wd14 [bx b9 [(Value.slice none 0 0)], bx b13 [(Value.slice none 0 0)], (Ty.sl (Ty.sl (Ty.sl (Ty.i .i64)))).at (Value.slice none 0 0) ([] : (List (List (List Int))))] := hS19
  refine WL.storeBox [(Value.slice none 0 0)] hS19 (k := 1) rfl rfl rfl (us := [(Value.slice none 0 0)]) rfl sz_29 rfl rfl (all_rep (St.rep (t := (Ty.sl (Ty.sl (Ty.sl (Ty.i .i64))))) hS19 2 rfl) all_nil) rfl ?_
  intro wd17 hS18
  replace hS18 : St wd2 wd17 [bx b9 [(Value.slice none 0 0)], bx b13 [(Value.slice none 0 0)], (Ty.sl (Ty.sl (Ty.sl (Ty.i .i64)))).at (Value.slice none 0 0) ([] : (List (List (List Int))))] := hS18
  refine WL.nil ?_
  show W _ _ _ _ _ _
  refine W.seq ?_
  refine W.seq ?_
  refine W.region ?_
  refine WL.val (Value.pointer (some ⟨b1, 0, none⟩)) _ (op_fieldAddr fd_29_0 rfl) rfl ?_
  refine WL.val v_r_Table _ (op_load one_22 rfl (BoxAt.cell (BoxAt.lift hS18.ext hx6) rfl)) rfl ?_
  have hr20 := inR_len (Ty.lift _ (Ext.trans hE7 hS18.ext) r_r_Table)
  refine WL.val (Value.int .i64 ((r_Table).length : Int)) _ (op_lenL sl_22 (Ty.lift _ (Ext.trans hE7 hS18.ext) r_r_Table) rfl) rfl ?_
  refine WL.val (Value.int .i64 (0 : Int)) _ (op_move rfl) rfl ?_
  refine WL.nil ?_
  show W _ _ _ _ _ _
  obtain ⟨res21, hres22, h⟩ := bs h
  refine W.blockLoop (fun fq wq => ∃ s, res21 = Res.fin s ∧ ∃ (uu0 : Value), fq 2 = (Value.pointer (some ⟨b9, 0, none⟩)) ∧ fq 3 = (Value.pointer (some ⟨b13, 0, none⟩)) ∧ St wd2 wq [bx b9 [(Value.slice none 0 0)], bx b13 [uu0], (Ty.sl (Ty.sl (Ty.sl (Ty.i .i64)))).at uu0 s]) ?_ ?_
  · refine W.forN (fun k (s : (List (List (List Int)))) fq wq => ∃ (uu0 : Value), fq 1 = (Value.pointer (some ⟨b1, 0, none⟩)) ∧ fq 2 = (Value.pointer (some ⟨b9, 0, none⟩)) ∧ fq 3 = (Value.pointer (some ⟨b13, 0, none⟩)) ∧ fq 10 = (Value.int .i64 ((r_Table).length : Int)) ∧ fq 11 = Value.int .i64 (k : Int) ∧ InR .i64 (k : Int) ∧ St wd2 wq [bx b9 [(Value.slice none 0 0)], bx b13 [uu0], (Ty.sl (Ty.sl (Ty.sl (Ty.i .i64)))).at uu0 s]) hres22 ⟨(Value.slice none 0 0), rfl, rfl, rfl, rfl, rfl, (inR_i64.2 (show (-9223372036854775808 : Int) ≤ 0 ∧ (0 : Int) ≤ 9223372036854775807 from by decide)), hS18⟩ ?_ ?_
    · intro k23 x24 ct25 f26 wd27 hk28 hb29 hI30 hbrk31 hret32
      replace hI30 : ∃ (uu0 : Value), f26 1 = (Value.pointer (some ⟨b1, 0, none⟩)) ∧ f26 2 = (Value.pointer (some ⟨b9, 0, none⟩)) ∧ f26 3 = (Value.pointer (some ⟨b13, 0, none⟩)) ∧ f26 10 = (Value.int .i64 ((r_Table).length : Int)) ∧ f26 11 = Value.int .i64 (k23 : Int) ∧ InR .i64 (k23 : Int) ∧ St wd2 wd27 [bx b9 [(Value.slice none 0 0)], bx b13 [uu0], (Ty.sl (Ty.sl (Ty.sl (Ty.i .i64)))).at uu0 x24] := hI30
      replace hb29 : p_impl_Ring_opposite_L1 r_Table k23 x24 = some ct25 := hb29
      unfold p_impl_Ring_opposite_L1 at hb29
      obtain ⟨u33, hf34, hf35, hf36, hf37, hf38, hr39, hS40⟩ := hI30
      refine W.seq ?_
      refine W.region ?_
      refine WL.val (Value.bool (decide ((k23 : Int) < ((r_Table).length : Int)))) _ (op_lss hf38 hf37) rfl ?_
      have hl41 : (k23 : Int) < ((r_Table).length : Int) := by omega
      refine WL.nil ?_
      show W _ _ _ _ _ _
      refine W.seq ?_
      refine W.condT (decide ((k23 : Int) < ((r_Table).length : Int))) rfl (decide_eq_true hl41) ?_
      refine W.skip ?_
      show W _ _ _ _ _ _
      refine W.seq ?_
      refine W.block ?_
      refine W.seq ?_
      refine W.region ?_
      refine WL.val (Value.int .i64 (k23 : Int)) _ (op_move hf38) rfl ?_
      refine WL.val (Value.int .i64 (k23 : Int)) _ (op_assign rfl) rfl ?_
      refine WL.nil ?_
      show W _ _ _ _ _ _
      refine W.seq ?_
      refine W.region ?_
      refine WL.lit0 (t := (Ty.sl (Ty.i .i64))) hS40 sl_65 rfl rfl ?_
      intro u43 wd44 hS45 he46
      replace hS45 : St wd2 wd44 [bx b9 [(Value.slice none 0 0)], bx b13 [u33], (Ty.sl (Ty.sl (Ty.sl (Ty.i .i64)))).at u33 x24, (Ty.sl (Ty.sl (Ty.i .i64))).at u43 ([] : (List (List Int)))] := hS45
      refine WL.val u43 _ (op_assign rfl) rfl ?_
      refine WL.nil ?_
      show W _ _ _ _ _ _
      refine W.seq ?_
      refine W.seq ?_
      refine W.region ?_
      refine WL.val (Value.pointer (some ⟨b1, 0, none⟩)) _ (op_fieldAddr fd_29_0 hf34) rfl ?_
      refine WL.val v_r_Table _ (op_load one_22 rfl (BoxAt.cell (BoxAt.lift hS45.ext hx6) rfl)) rfl ?_
      have hr47 := inR_len (Ty.lift _ (Ext.trans hE7 hS45.ext) r_r_Table)
      refine WL.val (Value.int .i64 ((r_Table).length : Int)) _ (op_lenL sl_22 (Ty.lift _ (Ext.trans hE7 hS45.ext) r_r_Table) rfl) rfl ?_
      refine WL.val (Value.int .i64 (0 : Int)) _ (op_move rfl) rfl ?_
      refine WL.nil ?_
      show W _ _ _ _ _ _
      obtain ⟨res48, hres49, hb29⟩ := bs hb29
      refine W.blockLoop (fun fq wq => ∃ s, res48 = Res.fin s ∧ ∃ (uu0 : Value), fq 1 = (Value.pointer (some ⟨b1, 0, none⟩)) ∧ fq 2 = (Value.pointer (some ⟨b9, 0, none⟩)) ∧ fq 3 = (Value.pointer (some ⟨b13, 0, none⟩)) ∧ fq 5 = uu0 ∧ fq 10 = (Value.int .i64 ((r_Table).length : Int)) ∧ fq 11 = (Value.int .i64 (k23 : Int)) ∧ St wd2 wq [bx b9 [(Value.slice none 0 0)], bx b13 [u33], (Ty.sl (Ty.sl (Ty.sl (Ty.i .i64)))).at u33 x24, (Ty.sl (Ty.sl (Ty.i .i64))).at uu0 s]) ?_ ?_
      · refine W.forN (fun k (s : (List (List Int))) fq wq => ∃ (uu0 : Value), fq 1 = (Value.pointer (some ⟨b1, 0, none⟩)) ∧ fq 2 = (Value.pointer (some ⟨b9, 0, none⟩)) ∧ fq 3 = (Value.pointer (some ⟨b13, 0, none⟩)) ∧ fq 4 = (Value.int .i64 (k23 : Int)) ∧ fq 5 = uu0 ∧ fq 10 = (Value.int .i64 ((r_Table).length : Int)) ∧ fq 11 = (Value.int .i64 (k23 : Int)) ∧ fq 17 = (Value.int .i64 ((r_Table).length : Int)) ∧ fq 18 = Value.int .i64 (k : Int) ∧ InR .i64 (k : Int) ∧ St wd2 wq [bx b9 [(Value.slice none 0 0)], bx b13 [u33], (Ty.sl (Ty.sl (Ty.sl (Ty.i .i64)))).at u33 x24, (Ty.sl (Ty.sl (Ty.i .i64))).at uu0 s]) hres49 ⟨u43, hf34, hf35, hf36, rfl, rfl, hf37, hf38, rfl, rfl, (inR_i64.2 (show (-9223372036854775808 : Int) ≤ 0 ∧ (0 : Int) ≤ 9223372036854775807 from by decide)), hS45⟩ ?_ ?_
        · intro k50 x51 ct52 f53 wd54 hk55 hb56 hI57 hbrk58 hret59
          replace hI57 : ∃ (uu0 : Value), f53 1 = (Value.pointer (some ⟨b1, 0, none⟩)) ∧ f53 2 = (Value.pointer (some ⟨b9, 0, none⟩)) ∧ f53 3 = (Value.pointer (some ⟨b13, 0, none⟩)) ∧ f53 4 = (Value.int .i64 (k23 : Int)) ∧ f53 5 = uu0 ∧ f53 10 = (Value.int .i64 ((r_Table).length : Int)) ∧ f53 11 = (Value.int .i64 (k23 : Int)) ∧ f53 17 = (Value.int .i64 ((r_Table).length : Int)) ∧ f53 18 = Value.int .i64 (k50 : Int) ∧ InR .i64 (k50 : Int) ∧ St wd2 wd54 [bx b9 [(Value.slice none 0 0)], bx b13 [u33], (Ty.sl (Ty.sl (Ty.sl (Ty.i .i64)))).at u33 x24, (Ty.sl (Ty.sl (Ty.i .i64))).at uu0 x51] := hI57
          replace hb56 : p_impl_Ring_opposite_L2 r_Table k23 k50 x51 = some ct52 := hb56
          unfold p_impl_Ring_opposite_L2 at hb56
          obtain ⟨u60, hf61, hf62, hf63, hf64, hf65, hf66, hf67, hf68, hf69, hr70, hS71⟩ := hI57
          refine W.seq ?_
          refine W.region ?_
          refine WL.val (Value.bool (decide ((k50 : Int) < ((r_Table).length : Int)))) _ (op_lss hf69 hf68) rfl ?_
          have hl72 : (k50 : Int) < ((r_Table).length : Int) := by omega
          refine WL.nil ?_
          show W _ _ _ _ _ _
          refine W.seq ?_
          refine W.condT (decide ((k50 : Int) < ((r_Table).length : Int))) rfl (decide_eq_true hl72) ?_
          refine W.skip ?_
          show W _ _ _ _ _ _
          refine W.seq ?_
          refine W.block ?_
          refine W.seq ?_
          refine W.region ?_
          refine WL.val (Value.int .i64 (k50 : Int)) _ (op_move hf69) rfl ?_
          refine WL.val (Value.int .i64 (k50 : Int)) _ (op_assign rfl) rfl ?_
          refine WL.nil ?_
          show W _ _ _ _ _ _
          refine W.region ?_
          refine WL.val u60 _ (op_move hf65) rfl ?_
          refine WL.val (Value.pointer (some ⟨b1, 0, none⟩)) _ (op_fieldAddr fd_29_0 hf61) rfl ?_
          refine WL.val v_r_Table _ (op_load one_22 rfl (BoxAt.cell (BoxAt.lift hS71.ext hx6) rfl)) rfl ?_
          refine WL.val (Value.int .i64 (k50 : Int)) _ (op_move rfl) rfl ?_
          obtain ⟨x74, hx77, hb56⟩ := bs hb56
          obtain ⟨ha75, hb76, hx77⟩ := idx_some hx77
          refine WL.val (Value.pointer (some (elA v_r_Table ((k50 : Int)).toNat))) _ (op_idx sl_22 (Ty.lift _ (Ext.trans hE7 hS71.ext) r_r_Table) rfl rfl ha75 hb76) rfl ?_
          obtain ⟨u78, hc79, hr80⟩ := repSl.el r_r_Table hx77
          refine WL.val u78 _ (op_load one_65 rfl (Ext.cell (Ext.trans hE7 hS71.ext) hc79)) rfl ?_
          refine WL.val (Value.int .i64 (k23 : Int)) _ (op_move hf64) rfl ?_
          obtain ⟨x81, hx84, hb56⟩ := bs hb56
          obtain ⟨ha82, hb83, hx84⟩ := idx_some hx84
          refine WL.val (Value.pointer (some (elA u78 ((k23 : Int)).toNat))) _ (op_idx sl_65 (Ty.lift _ (Ext.trans hE7 hS71.ext) hr80) rfl rfl ha82 hb83) rfl ?_
          obtain ⟨u85, hc86, hr87⟩ := repSl.el hr80 hx84
          refine WL.val u85 _ (op_load one_25 rfl (Ext.cell (Ext.trans hE7 hS71.ext) hc86)) rfl ?_
          obtain ⟨x88, hx89, hb56⟩ := bs hb56
          refine WL.call _ (op_call fn_114 (args1 rfl)) (c_slices_Clone_Lint64_int64 (Ty.lift _ (Ext.trans hE7 hS71.ext) hr87) hx89) rfl ?_
          rintro u90 wd91 ⟨_, rfl, he92, hs93⟩
          have hS94 := St.join hS71 he92 hs93
          replace hS94 : St wd2 wd91 [bx b9 [(Value.slice none 0 0)], bx b13 [u33], (Ty.sl (Ty.sl (Ty.sl (Ty.i .i64)))).at u33 x24, (Ty.sl (Ty.sl (Ty.i .i64))).at u60 x51, (Ty.sl (Ty.i .i64)).at u90 x88] := hS94
          refine WL.lit [u90] hS94 sl_65 rfl rfl (fillL rfl ⟨rfl, rfl, (cells_rep (St.rep (t := (Ty.sl (Ty.i .i64))) hS94 4 rfl)), trivial⟩) rfl rfl ?_
          intro b99 wd96 hS97 he98 hx100
          replace hS97 : St wd2 wd96 [bx b9 [(Value.slice none 0 0)], bx b13 [u33], (Ty.sl (Ty.sl (Ty.sl (Ty.i .i64)))).at u33 x24, (Ty.sl (Ty.sl (Ty.i .i64))).at u60 x51, (Ty.sl (Ty.i .i64)).at u90 x88, bx b99 [u90]] := hS97
          obtain ⟨x101, hx102, hb56⟩ := bs hb56
          refine WL.appendRow hS97 (k := 3) (k2 := 4) (k3 := 5) rfl rfl rfl rfl sl_65 rfl rfl rfl rfl hx102 rfl ?_
          intro u103 wd104 hS105 hz106
          replace hS105 : St wd2 wd104 [bx b9 [(Value.slice none 0 0)], bx b13 [u33], (Ty.sl (Ty.sl (Ty.sl (Ty.i .i64)))).at u33 x24, (Ty.sl (Ty.sl (Ty.i .i64))).at u103 x101, emp, bx b99 [u90]] := hS105
          refine WL.val u103 _ (op_assign rfl) rfl ?_
          refine WL.nil ?_
          show W _ _ _ _ _ _
          refine W.region ?_
          refine WL.val (Value.int .i64 (w64 ((k50 : Int) + (1 : Int)))) _ (op_add hf69 rfl) rfl ?_
          refine WL.val (Value.int .i64 (w64 ((k50 : Int) + (1 : Int)))) _ (op_move rfl) rfl ?_
          refine WL.nil ?_
          obtain rfl := Option.some.inj hb56
          show ∃ s, _ = Ctl.next s ∧ _
          exact ⟨_, rfl, u103, hf61, hf62, hf63, hf64, rfl, hf66, hf67, hf68, (ctr_next hl72 hr47), (ctr_rng hl72 hr47), (St.pick hS105 [0, 1, 2, 3] rfl)⟩
        · intro x113 f108 wd109 hs110 hI111
          replace hI111 : ∃ (uu0 : Value), f108 1 = (Value.pointer (some ⟨b1, 0, none⟩)) ∧ f108 2 = (Value.pointer (some ⟨b9, 0, none⟩)) ∧ f108 3 = (Value.pointer (some ⟨b13, 0, none⟩)) ∧ f108 4 = (Value.int .i64 (k23 : Int)) ∧ f108 5 = uu0 ∧ f108 10 = (Value.int .i64 ((r_Table).length : Int)) ∧ f108 11 = (Value.int .i64 (k23 : Int)) ∧ f108 17 = (Value.int .i64 ((r_Table).length : Int)) ∧ f108 18 = Value.int .i64 (((r_Table).length : Nat) : Int) ∧ InR .i64 (((r_Table).length : Nat) : Int) ∧ St wd2 wd109 [bx b9 [(Value.slice none 0 0)], bx b13 [u33], (Ty.sl (Ty.sl (Ty.sl (Ty.i .i64)))).at u33 x24, (Ty.sl (Ty.sl (Ty.i .i64))).at uu0 x113] := hI111
          obtain ⟨u114, hf115, hf116, hf117, hf118, hf119, hf120, hf121, hf122, hf123, hr124, hS125⟩ := hI111
          refine W.seq ?_
          refine W.region ?_
          refine WL.val (Value.bool (decide ((((r_Table).length : Nat) : Int) < ((r_Table).length : Int)))) _ (op_lss hf123 hf122) rfl ?_
          have hl126 : ¬ (((r_Table).length : Nat) : Int) < ((r_Table).length : Int) := by omega
          refine WL.nil ?_
          show W _ _ _ _ _ _
          refine W.seq ?_
          refine W.condF (decide ((((r_Table).length : Nat) : Int) < ((r_Table).length : Int))) rfl (decide_eq_false hl126) ?_
          refine W.exit ?_
          show _ = _ ∧ _
          exact ⟨rfl, _, hs110, u114, hf115, hf116, hf117, hf119, hf120, hf121, hS125⟩
      · rintro f127 wd128 ⟨x131, rfl, hq129⟩
        replace hb29 := onRes_fin hb29
        replace hq129 : ∃ (uu0 : Value), f127 1 = (Value.pointer (some ⟨b1, 0, none⟩)) ∧ f127 2 = (Value.pointer (some ⟨b9, 0, none⟩)) ∧ f127 3 = (Value.pointer (some ⟨b13, 0, none⟩)) ∧ f127 5 = uu0 ∧ f127 10 = (Value.int .i64 ((r_Table).length : Int)) ∧ f127 11 = (Value.int .i64 (k23 : Int)) ∧ St wd2 wd128 [bx b9 [(Value.slice none 0 0)], bx b13 [u33], (Ty.sl (Ty.sl (Ty.sl (Ty.i .i64)))).at u33 x24, (Ty.sl (Ty.sl (Ty.i .i64))).at uu0 x131] := hq129
        obtain ⟨u132, hf133, hf134, hf135, hf136, hf137, hf138, hS139⟩ := hq129
        show W _ _ _ _ _ _
        refine W.region ?_
        refine WL.val (Value.pointer (some ⟨b13, 0, none⟩)) _ (op_fieldAddr fd_29_0 hf135) rfl ?_
        refine WL.val u33 _ (op_load one_22 rfl (BoxAt.cell (St.boxAt hS139 1 rfl) rfl)) rfl ?_
        refine WL.val u132 _ (op_move hf136) rfl ?_
        refine WL.lit [u132] hS139 sl_22 rfl rfl (fillL rfl ⟨rfl, rfl, (cells_rep (St.rep (t := (Ty.sl (Ty.sl (Ty.i .i64)))) hS139 3 rfl)), trivial⟩) rfl rfl ?_
        intro b144 wd141 hS142 he143 hx145
        replace hS142 : St wd2 wd141 [bx b9 [(Value.slice none 0 0)], bx b13 [u33], (Ty.sl (Ty.sl (Ty.sl (Ty.i .i64)))).at u33 x24, (Ty.sl (Ty.sl (Ty.i .i64))).at u132 x131, bx b144 [u132]] := hS142
        obtain ⟨x146, hx147, hb29⟩ := bs hb29
        refine WL.appendRow hS142 (k := 2) (k2 := 3) (k3 := 4) rfl rfl rfl rfl sl_22 rfl rfl rfl rfl hx147 rfl ?_
        intro u148 wd149 hS150 hz151
        replace hS150 : St wd2 wd149 [bx b9 [(Value.slice none 0 0)], bx b13 [u33], (Ty.sl (Ty.sl (Ty.sl (Ty.i .i64)))).at u148 x146, emp, bx b144 [u132]] := hS150
        refine WL.val (Value.pointer (some ⟨b13, 0, none⟩)) _ (op_fieldAddr fd_29_0 hf135) rfl ?_
        refine WL.storeBox [u148] hS150 (k := 1) rfl rfl rfl (us := [u148]) (cells_rep (St.rep (t := (Ty.sl (Ty.sl (Ty.sl (Ty.i .i64))))) hS150 2 rfl)) sz_22 rfl rfl (all_rep (St.rep (t := (Ty.sl (Ty.sl (Ty.sl (Ty.i .i64))))) hS150 2 rfl) all_nil) rfl ?_
        intro wd152 hS153
        replace hS153 : St wd2 wd152 [bx b9 [(Value.slice none 0 0)], bx b13 [u148], (Ty.sl (Ty.sl (Ty.sl (Ty.i .i64)))).at u148 x146, emp, bx b144 [u132]] := hS153
        refine WL.nil ?_
        show W _ _ _ _ _ _
        refine W.region ?_
        refine WL.val (Value.int .i64 (w64 ((k23 : Int) + (1 : Int)))) _ (op_add hf138 rfl) rfl ?_
        refine WL.val (Value.int .i64 (w64 ((k23 : Int) + (1 : Int)))) _ (op_move rfl) rfl ?_
        refine WL.nil ?_
        obtain rfl := Option.some.inj hb29
        show ∃ s, _ = Ctl.next s ∧ _
        exact ⟨_, rfl, u148, hf133, hf134, hf135, hf137, (ctr_next hl41 hr20), (ctr_rng hl41 hr20), (St.pick hS153 [0, 1, 2] rfl)⟩
    · intro x161 f156 wd157 hs158 hI159
      replace hI159 : ∃ (uu0 : Value), f156 1 = (Value.pointer (some ⟨b1, 0, none⟩)) ∧ f156 2 = (Value.pointer (some ⟨b9, 0, none⟩)) ∧ f156 3 = (Value.pointer (some ⟨b13, 0, none⟩)) ∧ f156 10 = (Value.int .i64 ((r_Table).length : Int)) ∧ f156 11 = Value.int .i64 (((r_Table).length : Nat) : Int) ∧ InR .i64 (((r_Table).length : Nat) : Int) ∧ St wd2 wd157 [bx b9 [(Value.slice none 0 0)], bx b13 [uu0], (Ty.sl (Ty.sl (Ty.sl (Ty.i .i64)))).at uu0 x161] := hI159
      obtain ⟨u162, hf163, hf164, hf165, hf166, hf167, hr168, hS169⟩ := hI159
      refine W.seq ?_
      refine W.region ?_
      refine WL.val (Value.bool (decide ((((r_Table).length : Nat) : Int) < ((r_Table).length : Int)))) _ (op_lss hf167 hf166) rfl ?_
      have hl170 : ¬ (((r_Table).length : Nat) : Int) < ((r_Table).length : Int) := by omega
      refine WL.nil ?_
      show W _ _ _ _ _ _
      refine W.seq ?_
      refine W.condF (decide ((((r_Table).length : Nat) : Int) < ((r_Table).length : Int))) rfl (decide_eq_false hl170) ?_
      refine W.exit ?_
      show _ = _ ∧ _
      exact ⟨rfl, _, hs158, u162, hf164, hf165, hS169⟩
  · rintro f171 wd172 ⟨x175, rfl, hq173⟩
    replace h := onRes_fin h
    replace hq173 : ∃ (uu0 : Value), f171 2 = (Value.pointer (some ⟨b9, 0, none⟩)) ∧ f171 3 = (Value.pointer (some ⟨b13, 0, none⟩)) ∧ St wd2 wd172 [bx b9 [(Value.slice none 0 0)], bx b13 [uu0], (Ty.sl (Ty.sl (Ty.sl (Ty.i .i64)))).at uu0 x175] := hq173
    obtain ⟨u176, hf177, hf178, hS179⟩ := hq173
    show W _ _ _ _ _ _
    refine W.seq ?_
    refine W.region ?_
    refine WL.val (Value.agg #[u176]) _ (op_loadBox st_29 hf178 (St.boxAt hS179 1 rfl) rfl rfl) rfl ?_
    refine WL.storeBox [u176] hS179 (k := 0) rfl hf177 rfl (us := [u176]) rfl sz_29 rfl rfl (all_rep (St.rep (t := (Ty.sl (Ty.sl (Ty.sl (Ty.i .i64))))) hS179 2 rfl) all_nil) rfl ?_
    intro wd180 hS181
    replace hS181 : St wd2 wd180 [bx b9 [u176], bx b13 [u176], (Ty.sl (Ty.sl (Ty.sl (Ty.i .i64)))).at u176 x175] := hS181
    refine WL.nil ?_
    show W _ _ _ _ _ _
    refine W.ret ?_
    obtain rfl := Option.some.inj h
    show FinP _ _ _ _ _ _ _
    exact FinP.ret _ (resC rfl hf177 st_29 (St.boxAt hS181 0 rfl) rfl) ⟨u176, rfl, (Ext.trans hE7 hS181.ext), (St.out (St.pick hS181 [2] rfl) (hE7))⟩

theorem c_slices_EqualFunc_LLLint64_LLLint64_LLint64_LLint64 {w : World} {s1 : (List (List (List Int)))} {v_s1 : Value} {s2 : (List (List (List Int)))} {v_s2 : Value} {eq : (List (List Int)) → (List (List Int)) → Option Bool} {v_eq : Value} (r_s1 : (Ty.sl (Ty.sl (Ty.sl (Ty.i .i64)))).rep w v_s1 s1) (r_s2 : (Ty.sl (Ty.sl (Ty.sl (Ty.i .i64)))).rep w v_s2 s2) (r_eq : FnT_lli_lli_to_b Try.prog v_eq w eq) {res : Bool} (h : p_slices_EqualFunc_LLLint64_LLLint64_LLint64_LLint64 s1 s2 eq  = some res) :
    Ret Try.prog 112 #[v_s1, v_s2, v_eq] w (fun v w' => v = Value.bool res ∧ Ext w w') := by
  unfold p_slices_EqualFunc_LLLint64_LLLint64_LLint64_LLint64 at h
  have hS0 : St w w [] := St.start w
  have q_eq := r_eq
  obtain ⟨g_eq, fst_eq, cap_eq, eq_eq, ok_eq, call_eq⟩ := q_eq
  subst eq_eq
  refine Ret.start (fn := Try.f112) Try.func112 rfl 32 rfl rfl ?_
  refine W.seq ?_
  refine W.region ?_
  refine WL.val (Value.bool false) _ (op_assign rfl) rfl ?_
  refine WL.nil ?_
  show W _ _ _ _ _ _
  refine W.seq ?_
  refine W.seq ?_
  refine W.region ?_
  refine WL.val v_s1 _ (op_move rfl) rfl ?_
  have hr1 := inR_len (Ty.lift _ hS0.ext r_s1)
  refine WL.val (Value.int .i64 ((s1).length : Int)) _ (op_lenL sl_22 (Ty.lift _ hS0.ext r_s1) rfl) rfl ?_
  refine WL.val v_s2 _ (op_move rfl) rfl ?_
  have hr2 := inR_len (Ty.lift _ hS0.ext r_s2)
  refine WL.val (Value.int .i64 ((s2).length : Int)) _ (op_lenL sl_22 (Ty.lift _ hS0.ext r_s2) rfl) rfl ?_
  refine WL.val (Value.bool (((s1).length : Int) != ((s2).length : Int))) _ (op_neq rfl rfl) rfl ?_
  refine WL.nil ?_
  show W _ _ _ _ _ _
  refine W.cond (((s1).length : Int) != ((s2).length : Int)) rfl (fun hc3 => ?_) (fun hc3 => ?_)
  · replace h := ip h hc3
    refine W.seq ?_
    refine W.region ?_
    refine WL.val (Value.bool false) _ (op_assign rfl) rfl ?_
    refine WL.nil ?_
    show W _ _ _ _ _ _
    refine W.ret ?_
    obtain rfl := Option.some.inj h
    show FinP _ _ _ _ _ _ _
    exact FinP.ret _ (res1 rfl rfl) ⟨rfl, hS0.ext⟩
  · replace h := inegb h hc3
    refine W.skip ?_
    show W _ _ _ _ _ _
    refine W.seq ?_
    refine W.seq ?_
    refine W.region ?_
    refine WL.val v_s1 _ (op_move rfl) rfl ?_
    have hr5 := inR_len (Ty.lift _ hS0.ext r_s1)
    refine WL.val (Value.int .i64 ((s1).length : Int)) _ (op_lenL sl_22 (Ty.lift _ hS0.ext r_s1) rfl) rfl ?_
    refine WL.val (Value.int .i64 (0 : Int)) _ (op_move rfl) rfl ?_
    refine WL.nil ?_
    show W _ _ _ _ _ _
    obtain ⟨res6, hres7, h⟩ := bs h
    refine W.blockLoop (fun fq wq => ∃ s, res6 = Res.fin s ∧ St w wq []) ?_ ?_
    · refine W.forN (fun k (s : Unit) fq wq => fq 1 = v_s2 ∧ fq 2 = (Value.func (.func g_eq) fst_eq cap_eq) ∧ fq 15 = v_s1 ∧ fq 16 = (Value.int .i64 ((s1).length : Int)) ∧ fq 17 = Value.int .i64 (k : Int) ∧ InR .i64 (k : Int) ∧ St w wq []) hres7 ⟨rfl, rfl, rfl, rfl, rfl, (inR_i64.2 (show (-9223372036854775808 : Int) ≤ 0 ∧ (0 : Int) ≤ 9223372036854775807 from by decide)), hS0⟩ ?_ ?_
      · intro k8 s48 ct9 f10 wd11 hk12 hb13 hI14 hbrk15 hret16
        obtain ⟨⟩ := s48
        replace hI14 : f10 1 = v_s2 ∧ f10 2 = (Value.func (.func g_eq) fst_eq cap_eq) ∧ f10 15 = v_s1 ∧ f10 16 = (Value.int .i64 ((s1).length : Int)) ∧ f10 17 = Value.int .i64 (k8 : Int) ∧ InR .i64 (k8 : Int) ∧ St w wd11 [] := hI14
        replace hb13 : p_slices_EqualFunc_LLLint64_LLLint64_LLint64_LLint64_L1 s1 s2 eq k8  = some ct9 := hb13
        unfold p_slices_EqualFunc_LLLint64_LLLint64_LLint64_LLint64_L1 at hb13
        obtain ⟨hf17, hf18, hf19, hf20, hf21, hr22, hS23⟩ := hI14
        refine W.seq ?_
        refine W.region ?_
        refine WL.val (Value.bool (decide ((k8 : Int) < ((s1).length : Int)))) _ (op_lss hf21 hf20) rfl ?_
        have hl24 : (k8 : Int) < ((s1).length : Int) := by omega
        refine WL.nil ?_
        show W _ _ _ _ _ _
        refine W.seq ?_
        refine W.condT (decide ((k8 : Int) < ((s1).length : Int))) rfl (decide_eq_true hl24) ?_
        refine W.skip ?_
        show W _ _ _ _ _ _
        refine W.seq ?_
        refine W.block ?_
        refine W.seq ?_
        refine W.region ?_
        refine WL.val (Value.int .i64 (k8 : Int)) _ (op_move hf21) rfl ?_
        obtain ⟨x26, hx29, hb13⟩ := bs hb13
        obtain ⟨ha27, hb28, hx29⟩ := idx_some hx29
        refine WL.val (Value.pointer (some (elA v_s1 ((k8 : Int)).toNat))) _ (op_idx sl_22 (Ty.lift _ hS23.ext r_s1) hf19 hf21 ha27 hb28) rfl ?_
        obtain ⟨u30, hc31, hr32⟩ := repSl.el r_s1 hx29
        refine WL.val u30 _ (op_load one_65 rfl (Ext.cell hS23.ext hc31)) rfl ?_
        refine WL.val (Value.int .i64 (k8 : Int)) _ (op_assign rfl) rfl ?_
        refine WL.val u30 _ (op_assign rfl) rfl ?_
        refine WL.nil ?_
        show W _ _ _ _ _ _
        refine W.seq ?_
        refine W.region ?_
        refine WL.val v_s2 _ (op_move hf17) rfl ?_
        refine WL.val (Value.int .i64 (k8 : Int)) _ (op_move rfl) rfl ?_
        obtain ⟨x33, hx36, hb13⟩ := bs hb13
        obtain ⟨ha34, hb35, hx36⟩ := idx_some hx36
        refine WL.val (Value.pointer (some (elA v_s2 ((k8 : Int)).toNat))) _ (op_idx sl_22 (Ty.lift _ hS23.ext r_s2) rfl rfl ha34 hb35) rfl ?_
        obtain ⟨u37, hc38, hr39⟩ := repSl.el r_s2 hx36
        refine WL.val u37 _ (op_load one_65 rfl (Ext.cell hS23.ext hc38)) rfl ?_
        refine WL.val u37 _ (op_assign rfl) rfl ?_
        refine WL.nil ?_
        show W _ _ _ _ _ _
        refine W.seq ?_
        refine W.region ?_
        refine WL.val (Value.func (.func g_eq) fst_eq cap_eq) _ (op_move hf18) rfl ?_
        refine WL.val u30 _ (op_move rfl) rfl ?_
        refine WL.val u37 _ (op_move rfl) rfl ?_
        obtain ⟨x40, hx41, hb13⟩ := bs hb13
        refine WL.call _ (op_callV rfl ok_eq (args2 rfl rfl)) (call_eq wd11 u30 x26 u37 x33 x40 hS23.ext (Ty.lift _ hS23.ext hr32) (Ty.lift _ hS23.ext hr39) hx41) rfl ?_
        rintro _ wd42 ⟨rfl, he43⟩
        have hS45 := St.extend hS23 he43
        refine WL.val (Value.bool (!x40)) _ (op_not rfl) rfl ?_
        refine WL.nil ?_
        show W _ _ _ _ _ _
        refine W.cond (!x40) rfl (fun hc46 => ?_) (fun hc46 => ?_)
        · replace hb13 := ip hb13 hc46
          refine W.seq ?_
          refine W.region ?_
          refine WL.val (Value.bool false) _ (op_assign rfl) rfl ?_
          refine WL.nil ?_
          show W _ _ _ _ _ _
          refine W.ret ?_
          obtain rfl := Option.some.inj hb13
          obtain rfl := hret16 _ rfl
          replace h := onRes_ret h
          obtain rfl := Option.some.inj h
          show FinP _ _ _ _ _ _ _
          exact FinP.ret _ (res1 rfl rfl) ⟨rfl, hS45.ext⟩
        · replace hb13 := inegb hb13 hc46
          refine W.skip ?_
          show W _ _ _ _ _ _
          refine W.region ?_
          refine WL.val (Value.int .i64 (w64 ((k8 : Int) + (1 : Int)))) _ (op_add hf21 rfl) rfl ?_
          refine WL.val (Value.int .i64 (w64 ((k8 : Int) + (1 : Int)))) _ (op_move rfl) rfl ?_
          refine WL.nil ?_
          obtain rfl := Option.some.inj hb13
          show ∃ s, _ = Ctl.next s ∧ _
          exact ⟨_, rfl, hf17, hf18, hf19, hf20, (ctr_next hl24 hr5), (ctr_rng hl24 hr5), hS45⟩
      · intro s53 f49 wd50 hs51 hI52
        obtain ⟨⟩ := s53
        replace hI52 : f49 1 = v_s2 ∧ f49 2 = (Value.func (.func g_eq) fst_eq cap_eq) ∧ f49 15 = v_s1 ∧ f49 16 = (Value.int .i64 ((s1).length : Int)) ∧ f49 17 = Value.int .i64 (((s1).length : Nat) : Int) ∧ InR .i64 (((s1).length : Nat) : Int) ∧ St w wd50 [] := hI52
        obtain ⟨hf54, hf55, hf56, hf57, hf58, hr59, hS60⟩ := hI52
        refine W.seq ?_
        refine W.region ?_
        refine WL.val (Value.bool (decide ((((s1).length : Nat) : Int) < ((s1).length : Int)))) _ (op_lss hf58 hf57) rfl ?_
        have hl61 : ¬ (((s1).length : Nat) : Int) < ((s1).length : Int) := by omega
        refine WL.nil ?_
        show W _ _ _ _ _ _
        refine W.seq ?_
        refine W.condF (decide ((((s1).length : Nat) : Int) < ((s1).length : Int))) rfl (decide_eq_false hl61) ?_
        refine W.exit ?_
        show _ = _ ∧ _
        exact ⟨rfl, _, hs51, hS60⟩
    · rintro f62 wd63 ⟨s65, rfl, hq64⟩
      replace h := onRes_fin h
      obtain ⟨⟩ := s65
      replace hq64 : St w wd63 [] := hq64
      have hS66 := hq64
      show W _ _ _ _ _ _
      refine W.seq ?_
      refine W.region ?_
      refine WL.val (Value.bool true) _ (op_assign rfl) rfl ?_
      refine WL.nil ?_
      show W _ _ _ _ _ _
      refine W.ret ?_
      obtain rfl := Option.some.inj h
      show FinP _ _ _ _ _ _ _
      exact FinP.ret _ (res1 rfl rfl) ⟨rfl, hS66.ext⟩

theorem c_slices_EqualFunc_LLint64_LLint64_Lint64_Lint64 {w : World} {s1 : (List (List Int))} {v_s1 : Value} {s2 : (List (List Int))} {v_s2 : Value} {eq : (List Int) → (List Int) → Option Bool} {v_eq : Value} (r_s1 : (Ty.sl (Ty.sl (Ty.i .i64))).rep w v_s1 s1) (r_s2 : (Ty.sl (Ty.sl (Ty.i .i64))).rep w v_s2 s2) (r_eq : FnT_li_li_to_b Try.prog v_eq w eq) {res : Bool} (h : p_slices_EqualFunc_LLint64_LLint64_Lint64_Lint64 s1 s2 eq  = some res) :
    Ret Try.prog 109 #[v_s1, v_s2, v_eq] w (fun v w' => v = Value.bool res ∧ Ext w w') := by
  unfold p_slices_EqualFunc_LLint64_LLint64_Lint64_Lint64 at h
  have hS0 : St w w [] := St.start w
  have q_eq := r_eq
  obtain ⟨g_eq, fst_eq, cap_eq, eq_eq, ok_eq, call_eq⟩ := q_eq
  subst eq_eq
  refine Ret.start (fn := Try.f109) Try.func109 rfl 32 rfl rfl ?_
  refine W.seq ?_
  refine W.region ?_
  refine WL.val (Value.bool false) _ (op_assign rfl) rfl ?_
  refine WL.nil ?_
  show W _ _ _ _ _ _
  refine W.seq ?_
  refine W.seq ?_
  refine W.region ?_
  refine WL.val v_s1 _ (op_move rfl) rfl ?_
  have hr1 := inR_len (Ty.lift _ hS0.ext r_s1)
  refine WL.val (Value.int .i64 ((s1).length : Int)) _ (op_lenL sl_65 (Ty.lift _ hS0.ext r_s1) rfl) rfl ?_
  refine WL.val v_s2 _ (op_move rfl) rfl ?_
  have hr2 := inR_len (Ty.lift _ hS0.ext r_s2)
  refine WL.val (Value.int .i64 ((s2).length : Int)) _ (op_lenL sl_65 (Ty.lift _ hS0.ext r_s2) rfl) rfl ?_
  refine WL.val (Value.bool (((s1).length : Int) != ((s2).length : Int))) _ (op_neq rfl rfl) rfl ?_
  refine WL.nil ?_
  show W _ _ _ _ _ _
  refine W.cond (((s1).length : Int) != ((s2).length : Int)) rfl (fun hc3 => ?_) (fun hc3 => ?_)
  · replace h := ip h hc3
    refine W.seq ?_
    refine W.region ?_
    refine WL.val (Value.bool false) _ (op_assign rfl) rfl ?_
    refine WL.nil ?_
    show W _ _ _ _ _ _
    refine W.ret ?_
    obtain rfl := Option.some.inj h
    show FinP _ _ _ _ _ _ _
    exact FinP.ret _ (res1 rfl rfl) ⟨rfl, hS0.ext⟩
  · replace h := inegb h hc3
    refine W.skip ?_
    show W _ _ _ _ _ _
    refine W.seq ?_
    refine W.seq ?_
    refine W.region ?_
    refine WL.val v_s1 _ (op_move rfl) rfl ?_
    have hr5 := inR_len (Ty.lift _ hS0.ext r_s1)
    refine WL.val (Value.int .i64 ((s1).length : Int)) _ (op_lenL sl_65 (Ty.lift _ hS0.ext r_s1) rfl) rfl ?_
    refine WL.val (Value.int .i64 (0 : Int)) _ (op_move rfl) rfl ?_
    refine WL.nil ?_
    show W _ _ _ _ _ _
    obtain ⟨res6, hres7, h⟩ := bs h
    refine W.blockLoop (fun fq wq => ∃ s, res6 = Res.fin s ∧ St w wq []) ?_ ?_
    · refine W.forN (fun k (s : Unit) fq wq => fq 1 = v_s2 ∧ fq 2 = (Value.func (.func g_eq) fst_eq cap_eq) ∧ fq 15 = v_s1 ∧ fq 16 = (Value.int .i64 ((s1).length : Int)) ∧ fq 17 = Value.int .i64 (k : Int) ∧ InR .i64 (k : Int) ∧ St w wq []) hres7 ⟨rfl, rfl, rfl, rfl, rfl, (inR_i64.2 (show (-9223372036854775808 : Int) ≤ 0 ∧ (0 : Int) ≤ 9223372036854775807 from by decide)), hS0⟩ ?_ ?_
      · intro k8 s48 ct9 f10 wd11 hk12 hb13 hI14 hbrk15 hret16
        obtain ⟨⟩ := s48
        replace hI14 : f10 1 = v_s2 ∧ f10 2 = (Value.func (.func g_eq) fst_eq cap_eq) ∧ f10 15 = v_s1 ∧ f10 16 = (Value.int .i64 ((s1).length : Int)) ∧ f10 17 = Value.int .i64 (k8 : Int) ∧ InR .i64 (k8 : Int) ∧ St w wd11 [] := hI14
        replace hb13 : p_slices_EqualFunc_LLint64_LLint64_Lint64_Lint64_L1 s1 s2 eq k8  = some ct9 := hb13
        unfold p_slices_EqualFunc_LLint64_LLint64_Lint64_Lint64_L1 at hb13
        obtain ⟨hf17, hf18, hf19, hf20, hf21, hr22, hS23⟩ := hI14
        refine W.seq ?_
        refine W.region ?_
        refine WL.val (Value.bool (decide ((k8 : Int) < ((s1).length : Int)))) _ (op_lss hf21 hf20) rfl ?_
        have hl24 : (k8 : Int) < ((s1).length : Int) := by omega
        refine WL.nil ?_
        show W _ _ _ _ _ _
        refine W.seq ?_
        refine W.condT (decide ((k8 : Int) < ((s1).length : Int))) rfl (decide_eq_true hl24) ?_
        refine W.skip ?_
        show W _ _ _ _ _ _
        refine W.seq ?_
        refine W.block ?_
        refine W.seq ?_
        refine W.region ?_
        refine WL.val (Value.int .i64 (k8 : Int)) _ (op_move hf21) rfl ?_
        obtain ⟨x26, hx29, hb13⟩ := bs hb13
        obtain ⟨ha27, hb28, hx29⟩ := idx_some hx29
        refine WL.val (Value.pointer (some (elA v_s1 ((k8 : Int)).toNat))) _ (op_idx sl_65 (Ty.lift _ hS23.ext r_s1) hf19 hf21 ha27 hb28) rfl ?_
        obtain ⟨u30, hc31, hr32⟩ := repSl.el r_s1 hx29
        refine WL.val u30 _ (op_load one_25 rfl (Ext.cell hS23.ext hc31)) rfl ?_
        refine WL.val (Value.int .i64 (k8 : Int)) _ (op_assign rfl) rfl ?_
        refine WL.val u30 _ (op_assign rfl) rfl ?_
        refine WL.nil ?_
        show W _ _ _ _ _ _
        refine W.seq ?_
        refine W.region ?_
        refine WL.val v_s2 _ (op_move hf17) rfl ?_
        refine WL.val (Value.int .i64 (k8 : Int)) _ (op_move rfl) rfl ?_
        obtain ⟨x33, hx36, hb13⟩ := bs hb13
        obtain ⟨ha34, hb35, hx36⟩ := idx_some hx36
        refine WL.val (Value.pointer (some (elA v_s2 ((k8 : Int)).toNat))) _ (op_idx sl_65 (Ty.lift _ hS23.ext r_s2) rfl rfl ha34 hb35) rfl ?_
        obtain ⟨u37, hc38, hr39⟩ := repSl.el r_s2 hx36
        refine WL.val u37 _ (op_load one_25 rfl (Ext.cell hS23.ext hc38)) rfl ?_
        refine WL.val u37 _ (op_assign rfl) rfl ?_
        refine WL.nil ?_
        show W _ _ _ _ _ _
        refine W.seq ?_
        refine W.region ?_
        refine WL.val (Value.func (.func g_eq) fst_eq cap_eq) _ (op_move hf18) rfl ?_
        refine WL.val u30 _ (op_move rfl) rfl ?_
        refine WL.val u37 _ (op_move rfl) rfl ?_
        obtain ⟨x40, hx41, hb13⟩ := bs hb13
        refine WL.call _ (op_callV rfl ok_eq (args2 rfl rfl)) (call_eq wd11 u30 x26 u37 x33 x40 hS23.ext (Ty.lift _ hS23.ext hr32) (Ty.lift _ hS23.ext hr39) hx41) rfl ?_
        rintro _ wd42 ⟨rfl, he43⟩
        have hS45 := St.extend hS23 he43
        refine WL.val (Value.bool (!x40)) _ (op_not rfl) rfl ?_
        refine WL.nil ?_
        show W _ _ _ _ _ _
        refine W.cond (!x40) rfl (fun hc46 => ?_) (fun hc46 => ?_)
        · replace hb13 := ip hb13 hc46
          refine W.seq ?_
          refine W.region ?_
          refine WL.val (Value.bool false) _ (op_assign rfl) rfl ?_
          refine WL.nil ?_
          show W _ _ _ _ _ _
          refine W.ret ?_
          obtain rfl := Option.some.inj hb13
          obtain rfl := hret16 _ rfl
          replace h := onRes_ret h
          obtain rfl := Option.some.inj h
          show FinP _ _ _ _ _ _ _
          exact FinP.ret _ (res1 rfl rfl) ⟨rfl, hS45.ext⟩
        · replace hb13 := inegb hb13 hc46
          refine W.skip ?_
          show W _ _ _ _ _ _
          refine W.region ?_
          refine WL.val (Value.int .i64 (w64 ((k8 : Int) + (1 : Int)))) _ (op_add hf21 rfl) rfl ?_
          refine WL.val (Value.int .i64 (w64 ((k8 : Int) + (1 : Int)))) _ (op_move rfl) rfl ?_
          refine WL.nil ?_
          obtain rfl := Option.some.inj hb13
          show ∃ s, _ = Ctl.next s ∧ _
          exact ⟨_, rfl, hf17, hf18, hf19, hf20, (ctr_next hl24 hr5), (ctr_rng hl24 hr5), hS45⟩
      · intro s53 f49 wd50 hs51 hI52
        obtain ⟨⟩ := s53
        replace hI52 : f49 1 = v_s2 ∧ f49 2 = (Value.func (.func g_eq) fst_eq cap_eq) ∧ f49 15 = v_s1 ∧ f49 16 = (Value.int .i64 ((s1).length : Int)) ∧ f49 17 = Value.int .i64 (((s1).length : Nat) : Int) ∧ InR .i64 (((s1).length : Nat) : Int) ∧ St w wd50 [] := hI52
        obtain ⟨hf54, hf55, hf56, hf57, hf58, hr59, hS60⟩ := hI52
        refine W.seq ?_
        refine W.region ?_
        refine WL.val (Value.bool (decide ((((s1).length : Nat) : Int) < ((s1).length : Int)))) _ (op_lss hf58 hf57) rfl ?_
        have hl61 : ¬ (((s1).length : Nat) : Int) < ((s1).length : Int) := by omega
        refine WL.nil ?_
        show W _ _ _ _ _ _
        refine W.seq ?_
        refine W.condF (decide ((((s1).length : Nat) : Int) < ((s1).length : Int))) rfl (decide_eq_false hl61) ?_
        refine W.exit ?_
        show _ = _ ∧ _
        exact ⟨rfl, _, hs51, hS60⟩
    · rintro f62 wd63 ⟨s65, rfl, hq64⟩
      replace h := onRes_fin h
      obtain ⟨⟩ := s65
      replace hq64 : St w wd63 [] := hq64
      have hS66 := hq64
      show W _ _ _ _ _ _
      refine W.seq ?_
      refine W.region ?_
      refine WL.val (Value.bool true) _ (op_assign rfl) rfl ?_
      refine WL.nil ?_
      show W _ _ _ _ _ _
      refine W.ret ?_
      obtain rfl := Option.some.inj h
      show FinP _ _ _ _ _ _ _
      exact FinP.ret _ (res1 rfl rfl) ⟨rfl, hS66.ext⟩

theorem c_slices_Equal_Lint64_int64 {w : World} {s1 : (List Int)} {v_s1 : Value} {s2 : (List Int)} {v_s2 : Value} (r_s1 : (Ty.sl (Ty.i .i64)).rep w v_s1 s1) (r_s2 : (Ty.sl (Ty.i .i64)).rep w v_s2 s2) {res : Bool} (h : p_slices_Equal_Lint64_int64 s1 s2  = some res) :
    Ret Try.prog 56 #[v_s1, v_s2] w (fun v w' => v = Value.bool res ∧ Ext w w') := by
  unfold p_slices_Equal_Lint64_int64 at h
  have hS0 : St w w [] := St.start w
  refine Ret.start (fn := Try.f56) Try.func56 rfl 26 rfl rfl ?_
  refine W.seq ?_
  refine W.region ?_
  refine WL.val (Value.bool false) _ (op_assign rfl) rfl ?_
  refine WL.nil ?_
  show W _ _ _ _ _ _
  refine W.seq ?_
  refine W.seq ?_
  refine W.region ?_
  refine WL.val v_s1 _ (op_move rfl) rfl ?_
  have hr1 := inR_len (Ty.lift _ hS0.ext r_s1)
  refine WL.val (Value.int .i64 ((s1).length : Int)) _ (op_lenL sl_25 (Ty.lift _ hS0.ext r_s1) rfl) rfl ?_
  refine WL.val v_s2 _ (op_move rfl) rfl ?_
  have hr2 := inR_len (Ty.lift _ hS0.ext r_s2)
  refine WL.val (Value.int .i64 ((s2).length : Int)) _ (op_lenL sl_25 (Ty.lift _ hS0.ext r_s2) rfl) rfl ?_
  refine WL.val (Value.bool (((s1).length : Int) != ((s2).length : Int))) _ (op_neq rfl rfl) rfl ?_
  refine WL.nil ?_
  show W _ _ _ _ _ _
  refine W.cond (((s1).length : Int) != ((s2).length : Int)) rfl (fun hc3 => ?_) (fun hc3 => ?_)
  · replace h := ip h hc3
    refine W.seq ?_
    refine W.region ?_
    refine WL.val (Value.bool false) _ (op_assign rfl) rfl ?_
    refine WL.nil ?_
    show W _ _ _ _ _ _
    refine W.ret ?_
    obtain rfl := Option.some.inj h
    show FinP _ _ _ _ _ _ _
    exact FinP.ret _ (res1 rfl rfl) ⟨rfl, hS0.ext⟩
  · replace h := inegb h hc3
    refine W.skip ?_
    show W _ _ _ _ _ _
    refine W.seq ?_
    refine W.seq ?_
    refine W.region ?_
    refine WL.val v_s1 _ (op_move rfl) rfl ?_
    have hr5 := inR_len (Ty.lift _ hS0.ext r_s1)
    refine WL.val (Value.int .i64 ((s1).length : Int)) _ (op_lenL sl_25 (Ty.lift _ hS0.ext r_s1) rfl) rfl ?_
    refine WL.val (Value.int .i64 (0 : Int)) _ (op_move rfl) rfl ?_
    refine WL.nil ?_
    show W _ _ _ _ _ _
    obtain ⟨res6, hres7, h⟩ := bs h
    refine W.blockLoop (fun fq wq => ∃ s, res6 = Res.fin s ∧ St w wq []) ?_ ?_
    · refine W.forN (fun k (s : Unit) fq wq => fq 0 = v_s1 ∧ fq 1 = v_s2 ∧ fq 12 = (Value.int .i64 ((s1).length : Int)) ∧ fq 13 = Value.int .i64 (k : Int) ∧ InR .i64 (k : Int) ∧ St w wq []) hres7 ⟨rfl, rfl, rfl, rfl, (inR_i64.2 (show (-9223372036854775808 : Int) ≤ 0 ∧ (0 : Int) ≤ 9223372036854775807 from by decide)), hS0⟩ ?_ ?_
      · intro k8 s136 ct9 f10 wd11 hk12 hb13 hI14 hbrk15 hret16
        obtain ⟨⟩ := s136
        replace hI14 : f10 0 = v_s1 ∧ f10 1 = v_s2 ∧ f10 12 = (Value.int .i64 ((s1).length : Int)) ∧ f10 13 = Value.int .i64 (k8 : Int) ∧ InR .i64 (k8 : Int) ∧ St w wd11 [] := hI14
        replace hb13 : p_slices_Equal_Lint64_int64_L1 s1 s2 k8  = some ct9 := hb13
        unfold p_slices_Equal_Lint64_int64_L1 at hb13
        obtain ⟨hf17, hf18, hf19, hf20, hr21, hS22⟩ := hI14
        refine W.seq ?_
        refine W.region ?_
        refine WL.val (Value.bool (decide ((k8 : Int) < ((s1).length : Int)))) _ (op_lss hf20 hf19) rfl ?_
        have hl23 : (k8 : Int) < ((s1).length : Int) := by omega
        refine WL.nil ?_
        show W _ _ _ _ _ _
        refine W.seq ?_
        refine W.condT (decide ((k8 : Int) < ((s1).length : Int))) rfl (decide_eq_true hl23) ?_
        refine W.skip ?_
        show W _ _ _ _ _ _
        refine W.seq ?_
        refine W.block ?_
        refine W.seq ?_
        refine W.region ?_
        refine WL.val (Value.int .i64 (k8 : Int)) _ (op_move hf20) rfl ?_
        refine WL.val (Value.int .i64 (k8 : Int)) _ (op_assign rfl) rfl ?_
        refine WL.nil ?_
        show W _ _ _ _ _ _
        refine W.seq ?_
        obtain ⟨x54, hx57, hb13⟩ := bs hb13
        obtain ⟨ha55, hb56, hx57⟩ := idx_some hx57
        obtain ⟨u68, hc69, hr70⟩ := repSl.el r_s1 hx57
        obtain ⟨rfl, hr70⟩ := hr70
        obtain ⟨x100, hx103, hb13⟩ := bs hb13
        obtain ⟨ha101, hb102, hx103⟩ := idx_some hx103
        obtain ⟨u114, hc115, hr116⟩ := repSl.el r_s2 hx103
        obtain ⟨rfl, hr116⟩ := hr116
        refine W.drawR mixo 8 [] [fun _ v _ _ => v = v_s1, fun _ v _ _ => v = (Value.int .i64 (k8 : Int)) ∧ InR .i64 (k8 : Int), fun _ v _ _ => v = (Value.pointer (some (elA v_s1 ((k8 : Int)).toNat))), fun _ v _ _ => v = (Value.int .i64 x54) ∧ InR .i64 x54, fun _ v _ _ => v = v_s2, fun _ v _ _ => v = (Value.int .i64 (k8 : Int)) ∧ InR .i64 (k8 : Int), fun _ v _ _ => v = (Value.pointer (some (elA v_s2 ((k8 : Int)).toNat))), fun _ v _ _ => v = (Value.int .i64 x100) ∧ InR .i64 x100] (by kernel_rfl) (by kernel_rfl) ⟨⟨fun _ _ _ _ _ _ h => h, fun _ _ _ _ _ _ h => h⟩, ⟨fun _ _ _ _ _ _ h => h, fun _ _ _ _ _ _ h => h⟩, ⟨fun _ _ _ _ _ _ h => h, fun _ _ _ _ _ _ h => h⟩, ⟨fun _ _ _ _ _ _ h => h, fun _ _ _ _ _ _ h => h⟩, ⟨fun _ _ _ _ _ _ h => h, fun _ _ _ _ _ _ h => h⟩, ⟨fun _ _ _ _ _ _ h => h, fun _ _ _ _ _ _ h => h⟩, ⟨fun _ _ _ _ _ _ h => h, fun _ _ _ _ _ _ h => h⟩, ⟨fun _ _ _ _ _ _ h => h, fun _ _ _ _ _ _ h => h⟩, trivial⟩ ⟨?_, ?_, ?_, ?_, ?_, ?_, ?_, ?_, trivial⟩ ?_
        · refine ObX.op rfl ?_
          intro f25 wd26 he27 hout28 hphi29
          have hS30 : St w wd26 [] := St.extend hS22 he27
          have e31 : f25 0 = v_s1 := (hout28 0 rfl).trans hf17
          exact OpX.val v_s1 wd26 rfl (op_move e31) (Ext.refl _) rfl
        · refine ObX.op rfl ?_
          intro f32 wd33 he34 hout35 hphi36
          have hS37 : St w wd33 [] := St.extend hS22 he34
          have e38 : f32 5 = (Value.int .i64 (k8 : Int)) := (hout35 5 rfl).trans rfl
          exact OpX.val (Value.int .i64 (k8 : Int)) wd33 rfl (op_move e38) (Ext.refl _) ⟨rfl, hr21⟩
        · refine ObX.op rfl ?_
          intro f39 wd40 he41 hout42 hphi43
          have hS44 : St w wd40 [] := St.extend hS22 he41
          obtain ⟨S45, hS46, hf47⟩ := hphi43 0 16 _ rfl rfl rfl
          have e48 : f39 16 = v_s1 := hf47
          obtain ⟨S49, hS50, hf51⟩ := hphi43 1 17 _ rfl rfl rfl
          obtain ⟨e52, hr53⟩ : f39 17 = (Value.int .i64 (k8 : Int)) ∧ InR .i64 (k8 : Int) := hf51
          exact OpX.val (Value.pointer (some (elA v_s1 ((k8 : Int)).toNat))) wd40 rfl (op_idx sl_25 (Ty.lift _ hS44.ext r_s1) e48 e52 ha55 hb56) (Ext.refl _) rfl
        · refine ObX.op rfl ?_
          intro f58 wd59 he60 hout61 hphi62
          have hS63 : St w wd59 [] := St.extend hS22 he60
          obtain ⟨S64, hS65, hf66⟩ := hphi62 2 18 _ rfl rfl rfl
          have e67 : f58 18 = (Value.pointer (some (elA v_s1 ((k8 : Int)).toNat))) := hf66
          exact OpX.val (Value.int .i64 x54) wd59 rfl (op_load one_2 e67 (Ext.cell hS63.ext hc69)) (Ext.refl _) ⟨rfl, hr70⟩
        · refine ObX.op rfl ?_
          intro f71 wd72 he73 hout74 hphi75
          have hS76 : St w wd72 [] := St.extend hS22 he73
          have e77 : f71 1 = v_s2 := (hout74 1 rfl).trans hf18
          exact OpX.val v_s2 wd72 rfl (op_move e77) (Ext.refl _) rfl
        · refine ObX.op rfl ?_
          intro f78 wd79 he80 hout81 hphi82
          have hS83 : St w wd79 [] := St.extend hS22 he80
          have e84 : f78 5 = (Value.int .i64 (k8 : Int)) := (hout81 5 rfl).trans rfl
          exact OpX.val (Value.int .i64 (k8 : Int)) wd79 rfl (op_move e84) (Ext.refl _) ⟨rfl, hr21⟩
        · refine ObX.op rfl ?_
          intro f85 wd86 he87 hout88 hphi89
          have hS90 : St w wd86 [] := St.extend hS22 he87
          obtain ⟨S91, hS92, hf93⟩ := hphi89 4 20 _ rfl rfl rfl
          have e94 : f85 20 = v_s2 := hf93
          obtain ⟨S95, hS96, hf97⟩ := hphi89 5 21 _ rfl rfl rfl
          obtain ⟨e98, hr99⟩ : f85 21 = (Value.int .i64 (k8 : Int)) ∧ InR .i64 (k8 : Int) := hf97
          exact OpX.val (Value.pointer (some (elA v_s2 ((k8 : Int)).toNat))) wd86 rfl (op_idx sl_25 (Ty.lift _ hS90.ext r_s2) e94 e98 ha101 hb102) (Ext.refl _) rfl
        · refine ObX.op rfl ?_
          intro f104 wd105 he106 hout107 hphi108
          have hS109 : St w wd105 [] := St.extend hS22 he106
          obtain ⟨S110, hS111, hf112⟩ := hphi108 6 22 _ rfl rfl rfl
          have e113 : f104 22 = (Value.pointer (some (elA v_s2 ((k8 : Int)).toNat))) := hf112
          exact OpX.val (Value.int .i64 x100) wd105 rfl (op_load one_2 e113 (Ext.cell hS109.ext hc115)) (Ext.refl _) ⟨rfl, hr116⟩
        · intro f117 wd118 Ss119 he120 hout121 hSn122 hSd123 hphi124
          show WL _ _ _ _ _ _ _
          have hS125 : St w wd118 [] := St.extend hS22 he120
          obtain ⟨e126, hr127⟩ : f117 19 = (Value.int .i64 x54) ∧ InR .i64 x54 := hphi124 3 19 _ (by decide) rfl rfl
          obtain ⟨e128, hr129⟩ : f117 23 = (Value.int .i64 x100) ∧ InR .i64 x100 := hphi124 7 23 _ (by decide) rfl rfl
          have e130 : f117 0 = v_s1 := (hout121 0 rfl).trans hf17
          have e131 : f117 1 = v_s2 := (hout121 1 rfl).trans hf18
          have e132 : f117 12 = (Value.int .i64 ((s1).length : Int)) := (hout121 12 rfl).trans hf19
          have e133 : f117 13 = (Value.int .i64 (k8 : Int)) := (hout121 13 rfl).trans hf20
          refine WL.val (Value.bool (x54 != x100)) _ (op_neq e126 e128) rfl ?_
          refine WL.nil ?_
          show W _ _ _ _ _ _
          refine W.cond (x54 != x100) rfl (fun hc134 => ?_) (fun hc134 => ?_)
          · replace hb13 := ip hb13 hc134
            refine W.seq ?_
            refine W.region ?_
            refine WL.val (Value.bool false) _ (op_assign rfl) rfl ?_
            refine WL.nil ?_
            show W _ _ _ _ _ _
            refine W.ret ?_
            obtain rfl := Option.some.inj hb13
            obtain rfl := hret16 _ rfl
            replace h := onRes_ret h
            obtain rfl := Option.some.inj h
            show FinP _ _ _ _ _ _ _
            exact FinP.ret _ (res1 rfl rfl) ⟨rfl, hS125.ext⟩
          · replace hb13 := inegb hb13 hc134
            refine W.skip ?_
            show W _ _ _ _ _ _
            refine W.region ?_
            refine WL.val (Value.int .i64 (w64 ((k8 : Int) + (1 : Int)))) _ (op_add e133 rfl) rfl ?_
            refine WL.val (Value.int .i64 (w64 ((k8 : Int) + (1 : Int)))) _ (op_move rfl) rfl ?_
            refine WL.nil ?_
            obtain rfl := Option.some.inj hb13
            show ∃ s, _ = Ctl.next s ∧ _
            exact ⟨_, rfl, e130, e131, e132, (ctr_next hl23 hr5), (ctr_rng hl23 hr5), hS125⟩
      · intro s141 f137 wd138 hs139 hI140
        obtain ⟨⟩ := s141
        replace hI140 : f137 0 = v_s1 ∧ f137 1 = v_s2 ∧ f137 12 = (Value.int .i64 ((s1).length : Int)) ∧ f137 13 = Value.int .i64 (((s1).length : Nat) : Int) ∧ InR .i64 (((s1).length : Nat) : Int) ∧ St w wd138 [] := hI140
        obtain ⟨hf142, hf143, hf144, hf145, hr146, hS147⟩ := hI140
        refine W.seq ?_
        refine W.region ?_
        refine WL.val (Value.bool (decide ((((s1).length : Nat) : Int) < ((s1).length : Int)))) _ (op_lss hf145 hf144) rfl ?_
        have hl148 : ¬ (((s1).length : Nat) : Int) < ((s1).length : Int) := by omega
        refine WL.nil ?_
        show W _ _ _ _ _ _
        refine W.seq ?_
        refine W.condF (decide ((((s1).length : Nat) : Int) < ((s1).length : Int))) rfl (decide_eq_false hl148) ?_
        refine W.exit ?_
        show _ = _ ∧ _
        exact ⟨rfl, _, hs139, hS147⟩
    · rintro f149 wd150 ⟨s152, rfl, hq151⟩
      replace h := onRes_fin h
      obtain ⟨⟩ := s152
      replace hq151 : St w wd150 [] := hq151
      have hS153 := hq151
      show W _ _ _ _ _ _
      refine W.seq ?_
      refine W.region ?_
      refine WL.val (Value.bool true) _ (op_assign rfl) rfl ?_
      refine WL.nil ?_
      show W _ _ _ _ _ _
      refine W.ret ?_
      obtain rfl := Option.some.inj h
      show FinP _ _ _ _ _ _ _
      exact FinP.ret _ (res1 rfl rfl) ⟨rfl, hS153.ext⟩

theorem c_impl_equalTables_c1 {w : World} {x : (List (List Int))} {v_x : Value} {y : (List (List Int))} {v_y : Value} (r_x : (Ty.sl (Ty.sl (Ty.i .i64))).rep w v_x x) (r_y : (Ty.sl (Ty.sl (Ty.i .i64))).rep w v_y y) {res : Bool} (h : p_impl_equalTables_c1 x y  = some res) :
    Ret Try.prog 113 #[v_x, v_y] w (fun v w' => v = Value.bool res ∧ Ext w w') := by
  unfold p_impl_equalTables_c1 at h
  have hS0 : St w w [] := St.start w
  refine Ret.start (fn := Try.f113) Try.func113 rfl 8 rfl rfl ?_
  refine W.seq ?_
  refine W.region ?_
  refine WL.val (Value.bool false) _ (op_assign rfl) rfl ?_
  refine WL.nil ?_
  show W _ _ _ _ _ _
  refine W.seq ?_
  refine W.region ?_
  refine WL.val v_x _ (op_move rfl) rfl ?_
  refine WL.val v_y _ (op_move rfl) rfl ?_
  obtain ⟨x5, hx6, h⟩ := bs h
  refine WL.call _ (op_call fn_109 (args3 rfl rfl rfl)) (c_slices_EqualFunc_LLint64_LLint64_Lint64_Lint64 (Ty.lift _ hS0.ext r_x) (Ty.lift _ hS0.ext r_y) (⟨56, #[], #[], rfl, fn_56, fun wd1 u0_2 a0_2 u1_2 a1_2 r3 he2 ra0_2 ra1_2 hq4 => c_slices_Equal_Lint64_int64 ra0_2 ra1_2 hq4⟩) hx6) rfl ?_
  rintro _ wd7 ⟨rfl, he8⟩
  have hS10 := St.extend hS0 he8
  replace hS10 : St w wd7 [] := hS10
  refine WL.val (Value.bool x5) _ (op_assign rfl) rfl ?_
  refine WL.nil ?_
  show W _ _ _ _ _ _
  refine W.ret ?_
  obtain rfl := Option.some.inj h
  show FinP _ _ _ _ _ _ _
  exact FinP.ret _ (res1 rfl rfl) ⟨rfl, hS10.ext⟩

theorem c_impl_equalTables {w : World} {a : (List (List (List Int)))} {v_a : Value} {b : (List (List (List Int)))} {v_b : Value} (r_a : (Ty.sl (Ty.sl (Ty.sl (Ty.i .i64)))).rep w v_a a) (r_b : (Ty.sl (Ty.sl (Ty.sl (Ty.i .i64)))).rep w v_b b) {res : Bool} (h : p_impl_equalTables a b  = some res) :
    Ret Try.prog 97 #[v_a, v_b] w (fun v w' => v = Value.bool res ∧ Ext w w') := by
  unfold p_impl_equalTables at h
  have hS0 : St w w [] := St.start w
  refine Ret.start (fn := Try.f97) Try.func97 rfl 8 rfl rfl ?_
  refine W.seq ?_
  refine W.region ?_
  refine WL.val (Value.bool false) _ (op_assign rfl) rfl ?_
  refine WL.nil ?_
  show W _ _ _ _ _ _
  refine W.seq ?_
  refine W.region ?_
  refine WL.val v_a _ (op_move rfl) rfl ?_
  refine WL.val v_b _ (op_move rfl) rfl ?_
  obtain ⟨x5, hx6, h⟩ := bs h
  refine WL.call _ (op_call fn_112 (args3 rfl rfl rfl)) (c_slices_EqualFunc_LLLint64_LLLint64_LLint64_LLint64 (Ty.lift _ hS0.ext r_a) (Ty.lift _ hS0.ext r_b) (⟨113, #[], #[], rfl, fn_113, fun wd1 u0_2 a0_2 u1_2 a1_2 r3 he2 ra0_2 ra1_2 hq4 => c_impl_equalTables_c1 ra0_2 ra1_2 hq4⟩) hx6) rfl ?_
  rintro _ wd7 ⟨rfl, he8⟩
  have hS10 := St.extend hS0 he8
  replace hS10 : St w wd7 [] := hS10
  refine WL.val (Value.bool x5) _ (op_assign rfl) rfl ?_
  refine WL.nil ?_
  show W _ _ _ _ _ _
  refine W.ret ?_
  obtain rfl := Option.some.inj h
  show FinP _ _ _ _ _ _ _
  exact FinP.ret _ (res1 rfl rfl) ⟨rfl, hS10.ext⟩

theorem c_impl_Ring_isCommutative {w : World} {r_Table : (List (List (List Int)))} {v_r_Table : Value} (r_r_Table : (Ty.sl (Ty.sl (Ty.sl (Ty.i .i64)))).rep w v_r_Table r_Table) {res : Bool} (h : p_impl_Ring_isCommutative r_Table  = some res) :
    Ret Try.prog 71 #[(Value.agg #[v_r_Table])] w (fun v w' => v = Value.bool res ∧ Ext w w') := by
  unfold p_impl_Ring_isCommutative at h
  have hS0 : St w w [] := St.start w
  refine Ret.start (fn := Try.f71) Try.func71 rfl 9 rfl rfl ?_
  refine W.seq ?_
  refine W.region ?_
  refine WL.box hS0 rfl (cs := [v_r_Table]) rfl rfl ?_
  intro b1 wd2 hS3 he4 hx5
  replace hS3 : St w wd2 [bx b1 [v_r_Table]] := hS3
  have hx6 := St.boxAt hS3 0 rfl
  have hE7 : Ext w wd2 := hS3.ext
  have hS8 : St wd2 wd2 [] := St.start wd2
  refine WL.val (Value.bool false) _ (op_assign rfl) rfl ?_
  refine WL.nil ?_
  show W _ _ _ _ _ _
  refine W.seq ?_
  obtain ⟨x45, hx46, h⟩ := bs h
  refine W.drawR mixo 5 [] [fun _ v _ _ => v = (Value.pointer (some ⟨b1, 0, none⟩)), fun _ v _ _ => v = v_r_Table, fun _ v S w' => ∃ (uu0 : Value), v = (Value.agg #[uu0]) ∧ (Ty.sl (Ty.sl (Ty.sl (Ty.i .i64)))).rep w' uu0 r_Table, fun _ v S w' => ∃ (uu0 : Value), v = (Value.agg #[uu0]) ∧ SepS S w' [(Ty.sl (Ty.sl (Ty.sl (Ty.i .i64)))).at uu0 x45], fun _ v _ w' => (Ty.sl (Ty.sl (Ty.sl (Ty.i .i64)))).rep w' v x45] (by kernel_rfl) (by kernel_rfl) ⟨⟨fun _ _ _ _ _ _ h => h, fun _ _ _ _ _ _ h => h⟩, ⟨fun _ _ _ _ _ _ h => h, fun _ _ _ _ _ _ h => h⟩, ⟨fun _ _ _ _ _ he ⟨uu0, h0, r0⟩ => ⟨uu0, h0, Ty.lift _ he r0⟩, fun _ _ _ _ _ _ h => h⟩, ⟨fun _ _ _ _ _ he ⟨uu0, h0, r0⟩ => ⟨uu0, h0, SepS.extend he r0⟩, fun _ _ _ _ _ _ h => h⟩, ⟨fun _ _ _ _ _ he h => Ty.lift _ he h, fun _ _ _ _ _ _ h => h⟩, trivial⟩ ⟨?_, ?_, ?_, ?_, ?_, trivial⟩ ?_
  · refine ObX.op rfl ?_
    intro f9 wd10 he11 hout12 hphi13
    have hS14 : St wd2 wd10 [] := St.extend hS8 he11
    have e15 : f9 1 = (Value.pointer (some ⟨b1, 0, none⟩)) := (hout12 1 rfl).trans rfl
    exact OpX.val (Value.pointer (some ⟨b1, 0, none⟩)) wd10 rfl (op_fieldAddr fd_29_0 e15) (Ext.refl _) rfl
  · refine ObX.op rfl ?_
    intro f16 wd17 he18 hout19 hphi20
    have hS21 : St wd2 wd17 [] := St.extend hS8 he18
    obtain ⟨S22, hS23, hf24⟩ := hphi20 0 3 _ rfl rfl rfl
    have e25 : f16 3 = (Value.pointer (some ⟨b1, 0, none⟩)) := hf24
    exact OpX.val v_r_Table wd17 rfl (op_load one_22 e25 (BoxAt.cell (BoxAt.lift hS21.ext hx6) rfl)) (Ext.refl _) rfl
  · refine ObX.op rfl ?_
    intro f26 wd27 he28 hout29 hphi30
    have hS31 : St wd2 wd27 [] := St.extend hS8 he28
    have e32 : f26 1 = (Value.pointer (some ⟨b1, 0, none⟩)) := (hout29 1 rfl).trans rfl
    exact OpX.val (Value.agg #[v_r_Table]) wd27 rfl (op_loadBox st_29 e32 (BoxAt.lift hS31.ext hx6) rfl rfl) (Ext.refl _) ⟨v_r_Table, rfl, (Ty.lift _ (Ext.trans hE7 hS31.ext) r_r_Table)⟩
  · refine ObX.op rfl ?_
    intro f33 wd34 he35 hout36 hphi37
    have hS38 : St wd2 wd34 [] := St.extend hS8 he35
    obtain ⟨S39, hS40, hf41⟩ := hphi37 2 5 _ rfl rfl rfl
    obtain ⟨u43, e42, hr44⟩ := hf41
    refine OpX.call rfl (op_call fn_98 (args1 e42)) (Ret.mono (c_impl_Ring_opposite hr44 hx46) ?_)
    rintro _ wd48 ⟨u47, rfl, he49, hs50⟩
    exact ⟨he49, _, newS _ _, ⟨u47, rfl, (Sep.new hs50)⟩⟩
  · refine ObX.op rfl ?_
    intro f51 wd52 he53 hout54 hphi55
    have hS56 : St wd2 wd52 [] := St.extend hS8 he53
    obtain ⟨S57, hS58, hf59⟩ := hphi55 3 6 _ rfl rfl rfl
    obtain ⟨u61, e60, e60s⟩ := hf59
    exact OpX.val u61 wd52 rfl (op_field fl_29_0 e60 rfl) (Ext.refl _) (SepS.rep (t := (Ty.sl (Ty.sl (Ty.sl (Ty.i .i64))))) e60s 0 rfl)
  · intro f62 wd63 Ss64 he65 hout66 hSn67 hSd68 hphi69
    show WL _ _ _ _ _ _ _
    have hS70 : St wd2 wd63 [] := St.extend hS8 he65
    have e71 : f62 4 = v_r_Table := hphi69 1 4 _ (by decide) rfl rfl
    have e72 : (Ty.sl (Ty.sl (Ty.sl (Ty.i .i64)))).rep wd63 (f62 7) x45 := hphi69 4 7 _ (by decide) rfl rfl
    obtain ⟨x73, hx74, h⟩ := bs h
    refine WL.call _ (op_call fn_97 (args2 e71 rfl)) (c_impl_equalTables (Ty.lift _ (Ext.trans hE7 hS70.ext) r_r_Table) e72 hx74) rfl ?_
    rintro _ wd75 ⟨rfl, he76⟩
    have hS78 := St.extend hS70 he76
    replace hS78 : St wd2 wd75 [] := hS78
    refine WL.val (Value.bool x73) _ (op_assign rfl) rfl ?_
    refine WL.nil ?_
    show W _ _ _ _ _ _
    refine W.ret ?_
    obtain rfl := Option.some.inj h
    show FinP _ _ _ _ _ _ _
    exact FinP.ret _ (res1 rfl rfl) ⟨rfl, (Ext.trans hE7 hS78.ext)⟩

theorem c_impl_commuteCode {w : World} {r_Table : (List (List (List Int)))} {v_r_Table : Value} (r_r_Table : (Ty.sl (Ty.sl (Ty.sl (Ty.i .i64)))).rep w v_r_Table r_Table) {res : Int} (h : p_impl_commuteCode r_Table  = some res) :
    Ret Try.prog 38 #[(Value.agg #[v_r_Table])] w (fun v w' => v = Value.int .i64 res ∧ InR .i64 res ∧ Ext w w') := by
  unfold p_impl_commuteCode at h
  have hS0 : St w w [] := St.start w
  refine Ret.start (fn := Try.f38) Try.func38 rfl 9 rfl rfl ?_
  refine W.seq ?_
  refine W.region ?_
  refine WL.box hS0 rfl (cs := [v_r_Table]) rfl rfl ?_
  intro b1 wd2 hS3 he4 hx5
  replace hS3 : St w wd2 [bx b1 [v_r_Table]] := hS3
  have hx6 := St.boxAt hS3 0 rfl
  have hE7 : Ext w wd2 := hS3.ext
  have hS8 : St wd2 wd2 [] := St.start wd2
  refine WL.val (Value.int .i64 (0 : Int)) _ (op_assign rfl) rfl ?_
  refine WL.nil ?_
  show W _ _ _ _ _ _
  refine W.seq ?_
  refine W.seq ?_
  refine W.region ?_
  refine WL.val (Value.agg #[v_r_Table]) _ (op_loadBox st_29 rfl (BoxAt.lift hS8.ext hx6) rfl rfl) rfl ?_
  obtain ⟨x9, hx10, h⟩ := bs h
  refine WL.call _ (op_call fn_57 (args1 rfl)) (c_impl_IsRing (Ty.lift _ (Ext.trans hE7 hS8.ext) r_r_Table) hx10) rfl ?_
  rintro _ wd11 ⟨rfl, he12⟩
  have hS14 := St.extend hS8 he12
  replace hS14 : St wd2 wd11 [] := hS14
  refine WL.val (Value.bool (!x9)) _ (op_not rfl) rfl ?_
  refine WL.nil ?_
  show W _ _ _ _ _ _
  refine W.cond (!x9) rfl (fun hc15 => ?_) (fun hc15 => ?_)
  · replace h := ip h hc15
    refine W.seq ?_
    refine W.region ?_
    refine WL.val (Value.int .i64 (1 : Int)) _ (op_assign rfl) rfl ?_
    refine WL.nil ?_
    show W _ _ _ _ _ _
    refine W.ret ?_
    obtain rfl := Option.some.inj h
    show FinP _ _ _ _ _ _ _
    exact FinP.ret _ (res1 rfl rfl) ⟨rfl, (inR_i64.2 (show (-9223372036854775808 : Int) ≤ 1 ∧ (1 : Int) ≤ 9223372036854775807 from by decide)), (Ext.trans hE7 hS14.ext)⟩
  · replace h := inegb h hc15
    refine W.skip ?_
    show W _ _ _ _ _ _
    refine W.seq ?_
    refine W.seq ?_
    refine W.region ?_
    refine WL.val (Value.agg #[v_r_Table]) _ (op_loadBox st_29 rfl (BoxAt.lift hS14.ext hx6) rfl rfl) rfl ?_
    obtain ⟨x17, hx18, h⟩ := bs h
    refine WL.call _ (op_call fn_71 (args1 rfl)) (c_impl_Ring_isCommutative (Ty.lift _ (Ext.trans hE7 hS14.ext) r_r_Table) hx18) rfl ?_
    rintro _ wd19 ⟨rfl, he20⟩
    have hS22 := St.extend hS14 he20
    replace hS22 : St wd2 wd19 [] := hS22
    refine WL.val (Value.bool (!x17)) _ (op_not rfl) rfl ?_
    refine WL.nil ?_
    show W _ _ _ _ _ _
    refine W.cond (!x17) rfl (fun hc23 => ?_) (fun hc23 => ?_)
    · replace h := ip h hc23
      refine W.seq ?_
      refine W.region ?_
      refine WL.val (Value.int .i64 (5 : Int)) _ (op_assign rfl) rfl ?_
      refine WL.nil ?_
      show W _ _ _ _ _ _
      refine W.ret ?_
      obtain rfl := Option.some.inj h
      show FinP _ _ _ _ _ _ _
      exact FinP.ret _ (res1 rfl rfl) ⟨rfl, (inR_i64.2 (show (-9223372036854775808 : Int) ≤ 5 ∧ (5 : Int) ≤ 9223372036854775807 from by decide)), (Ext.trans hE7 hS22.ext)⟩
    · replace h := inegb h hc23
      refine W.skip ?_
      show W _ _ _ _ _ _
      refine W.seq ?_
      refine W.region ?_
      refine WL.val (Value.int .i64 (0 : Int)) _ (op_assign rfl) rfl ?_
      refine WL.nil ?_
      show W _ _ _ _ _ _
      refine W.ret ?_
      obtain rfl := Option.some.inj h
      show FinP _ _ _ _ _ _ _
      exact FinP.ret _ (res1 rfl rfl) ⟨rfl, (inR_i64.2 (show (-9223372036854775808 : Int) ≤ 0 ∧ (0 : Int) ≤ 9223372036854775807 from by decide)), (Ext.trans hE7 hS22.ext)⟩

theorem c_laws_eqInt64S {w : World} {a : (List Int)} {v_a : Value} {b : (List Int)} {v_b : Value} (r_a : (Ty.sl (Ty.i .i64)).rep w v_a a) (r_b : (Ty.sl (Ty.i .i64)).rep w v_b b) {res : Bool} (h : p_laws_eqInt64S a b  = some res) :
    Ret Try.prog 15 #[v_a, v_b] w (fun v w' => v = Value.bool res ∧ Ext w w') := by
  unfold p_laws_eqInt64S at h
  have hS0 : St w w [] := St.start w
  refine Ret.start (fn := Try.f15) Try.func15 rfl 26 rfl rfl ?_
  refine W.seq ?_
  refine W.region ?_
  refine WL.val (Value.bool false) _ (op_assign rfl) rfl ?_
  refine WL.nil ?_
  show W _ _ _ _ _ _
  refine W.seq ?_
  refine W.seq ?_
  refine W.region ?_
  refine WL.val v_a _ (op_move rfl) rfl ?_
  have hr1 := inR_len (Ty.lift _ hS0.ext r_a)
  refine WL.val (Value.int .i64 ((a).length : Int)) _ (op_lenL sl_25 (Ty.lift _ hS0.ext r_a) rfl) rfl ?_
  refine WL.val v_b _ (op_move rfl) rfl ?_
  have hr2 := inR_len (Ty.lift _ hS0.ext r_b)
  refine WL.val (Value.int .i64 ((b).length : Int)) _ (op_lenL sl_25 (Ty.lift _ hS0.ext r_b) rfl) rfl ?_
  refine WL.val (Value.bool (((a).length : Int) != ((b).length : Int))) _ (op_neq rfl rfl) rfl ?_
  refine WL.nil ?_
  show W _ _ _ _ _ _
  refine W.cond (((a).length : Int) != ((b).length : Int)) rfl (fun hc3 => ?_) (fun hc3 => ?_)
  · replace h := ip h hc3
    refine W.seq ?_
    refine W.region ?_
    refine WL.val (Value.bool false) _ (op_assign rfl) rfl ?_
    refine WL.nil ?_
    show W _ _ _ _ _ _
    refine W.ret ?_
    obtain rfl := Option.some.inj h
    show FinP _ _ _ _ _ _ _
    exact FinP.ret _ (res1 rfl rfl) ⟨rfl, hS0.ext⟩
  · replace h := inegb h hc3
    refine W.skip ?_
    show W _ _ _ _ _ _
    refine W.seq ?_
    refine W.seq ?_
    refine W.region ?_
    refine WL.val (Value.int .i64 (0 : Int)) _ (op_assign rfl) rfl ?_
    refine WL.nil ?_
    show W _ _ _ _ _ _
    obtain ⟨res5, hres6, h⟩ := bs h
    refine W.blockLoop (fun fq wq => ∃ s, res5 = Res.fin s ∧ St w wq []) ?_ ?_
    · refine W.forN (fun k (s : Unit) fq wq => fq 0 = v_a ∧ fq 1 = v_b ∧ fq 5 = Value.int .i64 (k : Int) ∧ InR .i64 (k : Int) ∧ St w wq []) hres6 ⟨rfl, rfl, rfl, (inR_i64.2 (show (-9223372036854775808 : Int) ≤ 0 ∧ (0 : Int) ≤ 9223372036854775807 from by decide)), hS0⟩ ?_ ?_
      · intro k7 s134 ct8 f9 wd10 hk11 hb12 hI13 hbrk14 hret15
        obtain ⟨⟩ := s134
        replace hI13 : f9 0 = v_a ∧ f9 1 = v_b ∧ f9 5 = Value.int .i64 (k7 : Int) ∧ InR .i64 (k7 : Int) ∧ St w wd10 [] := hI13
        replace hb12 : p_laws_eqInt64S_L1 a b k7  = some ct8 := hb12
        unfold p_laws_eqInt64S_L1 at hb12
        obtain ⟨hf16, hf17, hf18, hr19, hS20⟩ := hI13
        refine W.seq ?_
        refine W.seq ?_
        refine W.region ?_
        refine WL.val (Value.int .i64 (k7 : Int)) _ (op_move hf18) rfl ?_
        refine WL.val v_a _ (op_move hf16) rfl ?_
        have hr21 := inR_len (Ty.lift _ hS20.ext r_a)
        refine WL.val (Value.int .i64 ((a).length : Int)) _ (op_lenL sl_25 (Ty.lift _ hS20.ext r_a) rfl) rfl ?_
        refine WL.val (Value.bool (decide ((k7 : Int) < ((a).length : Int)))) _ (op_lss rfl rfl) rfl ?_
        have hl22 : (k7 : Int) < ((a).length : Int) := by omega
        refine WL.nil ?_
        show W _ _ _ _ _ _
        refine W.condT (decide ((k7 : Int) < ((a).length : Int))) rfl (decide_eq_true hl22) ?_
        refine W.skip ?_
        show W _ _ _ _ _ _
        refine W.seq ?_
        refine W.block ?_
        refine W.seq ?_
        obtain ⟨x53, hx56, hb12⟩ := bs hb12
        obtain ⟨ha54, hb55, hx56⟩ := idx_some hx56
        obtain ⟨u67, hc68, hr69⟩ := repSl.el r_a hx56
        obtain ⟨rfl, hr69⟩ := hr69
        obtain ⟨x99, hx102, hb12⟩ := bs hb12
        obtain ⟨ha100, hb101, hx102⟩ := idx_some hx102
        obtain ⟨u113, hc114, hr115⟩ := repSl.el r_b hx102
        obtain ⟨rfl, hr115⟩ := hr115
        refine W.drawR mixo 8 [] [fun _ v _ _ => v = v_a, fun _ v _ _ => v = (Value.int .i64 (k7 : Int)) ∧ InR .i64 (k7 : Int), fun _ v _ _ => v = (Value.pointer (some (elA v_a ((k7 : Int)).toNat))), fun _ v _ _ => v = (Value.int .i64 x53) ∧ InR .i64 x53, fun _ v _ _ => v = v_b, fun _ v _ _ => v = (Value.int .i64 (k7 : Int)) ∧ InR .i64 (k7 : Int), fun _ v _ _ => v = (Value.pointer (some (elA v_b ((k7 : Int)).toNat))), fun _ v _ _ => v = (Value.int .i64 x99) ∧ InR .i64 x99] (by kernel_rfl) (by kernel_rfl) ⟨⟨fun _ _ _ _ _ _ h => h, fun _ _ _ _ _ _ h => h⟩, ⟨fun _ _ _ _ _ _ h => h, fun _ _ _ _ _ _ h => h⟩, ⟨fun _ _ _ _ _ _ h => h, fun _ _ _ _ _ _ h => h⟩, ⟨fun _ _ _ _ _ _ h => h, fun _ _ _ _ _ _ h => h⟩, ⟨fun _ _ _ _ _ _ h => h, fun _ _ _ _ _ _ h => h⟩, ⟨fun _ _ _ _ _ _ h => h, fun _ _ _ _ _ _ h => h⟩, ⟨fun _ _ _ _ _ _ h => h, fun _ _ _ _ _ _ h => h⟩, ⟨fun _ _ _ _ _ _ h => h, fun _ _ _ _ _ _ h => h⟩, trivial⟩ ⟨?_, ?_, ?_, ?_, ?_, ?_, ?_, ?_, trivial⟩ ?_
        · refine ObX.op rfl ?_
          intro f24 wd25 he26 hout27 hphi28
          have hS29 : St w wd25 [] := St.extend hS20 he26
          have e30 : f24 0 = v_a := (hout27 0 rfl).trans hf16
          exact OpX.val v_a wd25 rfl (op_move e30) (Ext.refl _) rfl
        · refine ObX.op rfl ?_
          intro f31 wd32 he33 hout34 hphi35
          have hS36 : St w wd32 [] := St.extend hS20 he33
          have e37 : f31 5 = (Value.int .i64 (k7 : Int)) := (hout34 5 rfl).trans hf18
          exact OpX.val (Value.int .i64 (k7 : Int)) wd32 rfl (op_move e37) (Ext.refl _) ⟨rfl, hr19⟩
        · refine ObX.op rfl ?_
          intro f38 wd39 he40 hout41 hphi42
          have hS43 : St w wd39 [] := St.extend hS20 he40
          obtain ⟨S44, hS45, hf46⟩ := hphi42 0 17 _ rfl rfl rfl
          have e47 : f38 17 = v_a := hf46
          obtain ⟨S48, hS49, hf50⟩ := hphi42 1 18 _ rfl rfl rfl
          obtain ⟨e51, hr52⟩ : f38 18 = (Value.int .i64 (k7 : Int)) ∧ InR .i64 (k7 : Int) := hf50
          exact OpX.val (Value.pointer (some (elA v_a ((k7 : Int)).toNat))) wd39 rfl (op_idx sl_25 (Ty.lift _ hS43.ext r_a) e47 e51 ha54 hb55) (Ext.refl _) rfl
        · refine ObX.op rfl ?_
          intro f57 wd58 he59 hout60 hphi61
          have hS62 : St w wd58 [] := St.extend hS20 he59
          obtain ⟨S63, hS64, hf65⟩ := hphi61 2 19 _ rfl rfl rfl
          have e66 : f57 19 = (Value.pointer (some (elA v_a ((k7 : Int)).toNat))) := hf65
          exact OpX.val (Value.int .i64 x53) wd58 rfl (op_load one_2 e66 (Ext.cell hS62.ext hc68)) (Ext.refl _) ⟨rfl, hr69⟩
        · refine ObX.op rfl ?_
          intro f70 wd71 he72 hout73 hphi74
          have hS75 : St w wd71 [] := St.extend hS20 he72
          have e76 : f70 1 = v_b := (hout73 1 rfl).trans hf17
          exact OpX.val v_b wd71 rfl (op_move e76) (Ext.refl _) rfl
        · refine ObX.op rfl ?_
          intro f77 wd78 he79 hout80 hphi81
          have hS82 : St w wd78 [] := St.extend hS20 he79
          have e83 : f77 5 = (Value.int .i64 (k7 : Int)) := (hout80 5 rfl).trans hf18
          exact OpX.val (Value.int .i64 (k7 : Int)) wd78 rfl (op_move e83) (Ext.refl _) ⟨rfl, hr19⟩
        · refine ObX.op rfl ?_
          intro f84 wd85 he86 hout87 hphi88
          have hS89 : St w wd85 [] := St.extend hS20 he86
          obtain ⟨S90, hS91, hf92⟩ := hphi88 4 21 _ rfl rfl rfl
          have e93 : f84 21 = v_b := hf92
          obtain ⟨S94, hS95, hf96⟩ := hphi88 5 22 _ rfl rfl rfl
          obtain ⟨e97, hr98⟩ : f84 22 = (Value.int .i64 (k7 : Int)) ∧ InR .i64 (k7 : Int) := hf96
          exact OpX.val (Value.pointer (some (elA v_b ((k7 : Int)).toNat))) wd85 rfl (op_idx sl_25 (Ty.lift _ hS89.ext r_b) e93 e97 ha100 hb101) (Ext.refl _) rfl
        · refine ObX.op rfl ?_
          intro f103 wd104 he105 hout106 hphi107
          have hS108 : St w wd104 [] := St.extend hS20 he105
          obtain ⟨S109, hS110, hf111⟩ := hphi107 6 23 _ rfl rfl rfl
          have e112 : f103 23 = (Value.pointer (some (elA v_b ((k7 : Int)).toNat))) := hf111
          exact OpX.val (Value.int .i64 x99) wd104 rfl (op_load one_2 e112 (Ext.cell hS108.ext hc114)) (Ext.refl _) ⟨rfl, hr115⟩
        · intro f116 wd117 Ss118 he119 hout120 hSn121 hSd122 hphi123
          show WL _ _ _ _ _ _ _
          have hS124 : St w wd117 [] := St.extend hS20 he119
          obtain ⟨e125, hr126⟩ : f116 20 = (Value.int .i64 x53) ∧ InR .i64 x53 := hphi123 3 20 _ (by decide) rfl rfl
          obtain ⟨e127, hr128⟩ : f116 24 = (Value.int .i64 x99) ∧ InR .i64 x99 := hphi123 7 24 _ (by decide) rfl rfl
          have e129 : f116 0 = v_a := (hout120 0 rfl).trans hf16
          have e130 : f116 1 = v_b := (hout120 1 rfl).trans hf17
          have e131 : f116 5 = (Value.int .i64 (k7 : Int)) := (hout120 5 rfl).trans hf18
          refine WL.val (Value.bool (x53 != x99)) _ (op_neq e125 e127) rfl ?_
          refine WL.nil ?_
          show W _ _ _ _ _ _
          refine W.cond (x53 != x99) rfl (fun hc132 => ?_) (fun hc132 => ?_)
          · replace hb12 := ip hb12 hc132
            refine W.seq ?_
            refine W.region ?_
            refine WL.val (Value.bool false) _ (op_assign rfl) rfl ?_
            refine WL.nil ?_
            show W _ _ _ _ _ _
            refine W.ret ?_
            obtain rfl := Option.some.inj hb12
            obtain rfl := hret15 _ rfl
            replace h := onRes_ret h
            obtain rfl := Option.some.inj h
            show FinP _ _ _ _ _ _ _
            exact FinP.ret _ (res1 rfl rfl) ⟨rfl, hS124.ext⟩
          · replace hb12 := inegb hb12 hc132
            refine W.skip ?_
            show W _ _ _ _ _ _
            refine W.region ?_
            refine WL.val (Value.int .i64 (k7 : Int)) _ (op_move e131) rfl ?_
            refine WL.val (Value.int .i64 (w64 ((k7 : Int) + (1 : Int)))) _ (op_add rfl rfl) rfl ?_
            refine WL.val (Value.int .i64 (w64 ((k7 : Int) + (1 : Int)))) _ (op_assign rfl) rfl ?_
            refine WL.nil ?_
            obtain rfl := Option.some.inj hb12
            show ∃ s, _ = Ctl.next s ∧ _
            exact ⟨_, rfl, e129, e130, (ctr_next hl22 hr21), (ctr_rng hl22 hr21), hS124⟩
      · intro s139 f135 wd136 hs137 hI138
        obtain ⟨⟩ := s139
        replace hI138 : f135 0 = v_a ∧ f135 1 = v_b ∧ f135 5 = Value.int .i64 (((a).length : Nat) : Int) ∧ InR .i64 (((a).length : Nat) : Int) ∧ St w wd136 [] := hI138
        obtain ⟨hf140, hf141, hf142, hr143, hS144⟩ := hI138
        refine W.seq ?_
        refine W.seq ?_
        refine W.region ?_
        refine WL.val (Value.int .i64 (((a).length : Nat) : Int)) _ (op_move hf142) rfl ?_
        refine WL.val v_a _ (op_move hf140) rfl ?_
        have hr145 := inR_len (Ty.lift _ hS144.ext r_a)
        refine WL.val (Value.int .i64 ((a).length : Int)) _ (op_lenL sl_25 (Ty.lift _ hS144.ext r_a) rfl) rfl ?_
        refine WL.val (Value.bool (decide ((((a).length : Nat) : Int) < ((a).length : Int)))) _ (op_lss rfl rfl) rfl ?_
        have hl146 : ¬ (((a).length : Nat) : Int) < ((a).length : Int) := by omega
        refine WL.nil ?_
        show W _ _ _ _ _ _
        refine W.condF (decide ((((a).length : Nat) : Int) < ((a).length : Int))) rfl (decide_eq_false hl146) ?_
        refine W.exit ?_
        show _ = _ ∧ _
        exact ⟨rfl, _, hs137, hS144⟩
    · rintro f147 wd148 ⟨s150, rfl, hq149⟩
      replace h := onRes_fin h
      obtain ⟨⟩ := s150
      replace hq149 : St w wd148 [] := hq149
      have hS151 := hq149
      show W _ _ _ _ _ _
      refine W.seq ?_
      refine W.region ?_
      refine WL.val (Value.bool true) _ (op_assign rfl) rfl ?_
      refine WL.nil ?_
      show W _ _ _ _ _ _
      refine W.ret ?_
      obtain rfl := Option.some.inj h
      show FinP _ _ _ _ _ _ _
      exact FinP.ret _ (res1 rfl rfl) ⟨rfl, hS151.ext⟩

theorem c_laws_eqInt64SS {w : World} {a : (List (List Int))} {v_a : Value} {b : (List (List Int))} {v_b : Value} (r_a : (Ty.sl (Ty.sl (Ty.i .i64))).rep w v_a a) (r_b : (Ty.sl (Ty.sl (Ty.i .i64))).rep w v_b b) {res : Bool} (h : p_laws_eqInt64SS a b  = some res) :
    Ret Try.prog 74 #[v_a, v_b] w (fun v w' => v = Value.bool res ∧ Ext w w') := by
  unfold p_laws_eqInt64SS at h
  have hS0 : St w w [] := St.start w
  refine Ret.start (fn := Try.f74) Try.func74 rfl 27 rfl rfl ?_
  refine W.seq ?_
  refine W.region ?_
  refine WL.val (Value.bool false) _ (op_assign rfl) rfl ?_
  refine WL.nil ?_
  show W _ _ _ _ _ _
  refine W.seq ?_
  refine W.seq ?_
  refine W.region ?_
  refine WL.val v_a _ (op_move rfl) rfl ?_
  have hr1 := inR_len (Ty.lift _ hS0.ext r_a)
  refine WL.val (Value.int .i64 ((a).length : Int)) _ (op_lenL sl_65 (Ty.lift _ hS0.ext r_a) rfl) rfl ?_
  refine WL.val v_b _ (op_move rfl) rfl ?_
  have hr2 := inR_len (Ty.lift _ hS0.ext r_b)
  refine WL.val (Value.int .i64 ((b).length : Int)) _ (op_lenL sl_65 (Ty.lift _ hS0.ext r_b) rfl) rfl ?_
  refine WL.val (Value.bool (((a).length : Int) != ((b).length : Int))) _ (op_neq rfl rfl) rfl ?_
  refine WL.nil ?_
  show W _ _ _ _ _ _
  refine W.cond (((a).length : Int) != ((b).length : Int)) rfl (fun hc3 => ?_) (fun hc3 => ?_)
  · replace h := ip h hc3
    refine W.seq ?_
    refine W.region ?_
    refine WL.val (Value.bool false) _ (op_assign rfl) rfl ?_
    refine WL.nil ?_
    show W _ _ _ _ _ _
    refine W.ret ?_
    obtain rfl := Option.some.inj h
    show FinP _ _ _ _ _ _ _
    exact FinP.ret _ (res1 rfl rfl) ⟨rfl, hS0.ext⟩
  · replace h := inegb h hc3
    refine W.skip ?_
    show W _ _ _ _ _ _
    refine W.seq ?_
    refine W.seq ?_
    refine W.region ?_
    refine WL.val (Value.int .i64 (0 : Int)) _ (op_assign rfl) rfl ?_
    refine WL.nil ?_
    show W _ _ _ _ _ _
    obtain ⟨res5, hres6, h⟩ := bs h
    refine W.blockLoop (fun fq wq => ∃ s, res5 = Res.fin s ∧ St w wq []) ?_ ?_
    · refine W.forN (fun k (s : Unit) fq wq => fq 0 = v_a ∧ fq 1 = v_b ∧ fq 5 = Value.int .i64 (k : Int) ∧ InR .i64 (k : Int) ∧ St w wq []) hres6 ⟨rfl, rfl, rfl, (inR_i64.2 (show (-9223372036854775808 : Int) ≤ 0 ∧ (0 : Int) ≤ 9223372036854775807 from by decide)), hS0⟩ ?_ ?_
      · intro k7 s138 ct8 f9 wd10 hk11 hb12 hI13 hbrk14 hret15
        obtain ⟨⟩ := s138
        replace hI13 : f9 0 = v_a ∧ f9 1 = v_b ∧ f9 5 = Value.int .i64 (k7 : Int) ∧ InR .i64 (k7 : Int) ∧ St w wd10 [] := hI13
        replace hb12 : p_laws_eqInt64SS_L1 a b k7  = some ct8 := hb12
        unfold p_laws_eqInt64SS_L1 at hb12
        obtain ⟨hf16, hf17, hf18, hr19, hS20⟩ := hI13
        refine W.seq ?_
        refine W.seq ?_
        refine W.region ?_
        refine WL.val (Value.int .i64 (k7 : Int)) _ (op_move hf18) rfl ?_
        refine WL.val v_a _ (op_move hf16) rfl ?_
        have hr21 := inR_len (Ty.lift _ hS20.ext r_a)
        refine WL.val (Value.int .i64 ((a).length : Int)) _ (op_lenL sl_65 (Ty.lift _ hS20.ext r_a) rfl) rfl ?_
        refine WL.val (Value.bool (decide ((k7 : Int) < ((a).length : Int)))) _ (op_lss rfl rfl) rfl ?_
        have hl22 : (k7 : Int) < ((a).length : Int) := by omega
        refine WL.nil ?_
        show W _ _ _ _ _ _
        refine W.condT (decide ((k7 : Int) < ((a).length : Int))) rfl (decide_eq_true hl22) ?_
        refine W.skip ?_
        show W _ _ _ _ _ _
        refine W.seq ?_
        refine W.block ?_
        refine W.seq ?_
        obtain ⟨x53, hx56, hb12⟩ := bs hb12
        obtain ⟨ha54, hb55, hx56⟩ := idx_some hx56
        obtain ⟨u67, hc68, hr69⟩ := repSl.el r_a hx56
        obtain ⟨x99, hx102, hb12⟩ := bs hb12
        obtain ⟨ha100, hb101, hx102⟩ := idx_some hx102
        obtain ⟨u113, hc114, hr115⟩ := repSl.el r_b hx102
        refine W.drawR mixo 8 [] [fun _ v _ _ => v = v_a, fun _ v _ _ => v = (Value.int .i64 (k7 : Int)) ∧ InR .i64 (k7 : Int), fun _ v _ _ => v = (Value.pointer (some (elA v_a ((k7 : Int)).toNat))), fun _ v _ _ => v = u67, fun _ v _ _ => v = v_b, fun _ v _ _ => v = (Value.int .i64 (k7 : Int)) ∧ InR .i64 (k7 : Int), fun _ v _ _ => v = (Value.pointer (some (elA v_b ((k7 : Int)).toNat))), fun _ v _ _ => v = u113] (by kernel_rfl) (by kernel_rfl) ⟨⟨fun _ _ _ _ _ _ h => h, fun _ _ _ _ _ _ h => h⟩, ⟨fun _ _ _ _ _ _ h => h, fun _ _ _ _ _ _ h => h⟩, ⟨fun _ _ _ _ _ _ h => h, fun _ _ _ _ _ _ h => h⟩, ⟨fun _ _ _ _ _ _ h => h, fun _ _ _ _ _ _ h => h⟩, ⟨fun _ _ _ _ _ _ h => h, fun _ _ _ _ _ _ h => h⟩, ⟨fun _ _ _ _ _ _ h => h, fun _ _ _ _ _ _ h => h⟩, ⟨fun _ _ _ _ _ _ h => h, fun _ _ _ _ _ _ h => h⟩, ⟨fun _ _ _ _ _ _ h => h, fun _ _ _ _ _ _ h => h⟩, trivial⟩ ⟨?_, ?_, ?_, ?_, ?_, ?_, ?_, ?_, trivial⟩ ?_
        · refine ObX.op rfl ?_
          intro f24 wd25 he26 hout27 hphi28
          have hS29 : St w wd25 [] := St.extend hS20 he26
          have e30 : f24 0 = v_a := (hout27 0 rfl).trans hf16
          exact OpX.val v_a wd25 rfl (op_move e30) (Ext.refl _) rfl
        · refine ObX.op rfl ?_
          intro f31 wd32 he33 hout34 hphi35
          have hS36 : St w wd32 [] := St.extend hS20 he33
          have e37 : f31 5 = (Value.int .i64 (k7 : Int)) := (hout34 5 rfl).trans hf18
          exact OpX.val (Value.int .i64 (k7 : Int)) wd32 rfl (op_move e37) (Ext.refl _) ⟨rfl, hr19⟩
        · refine ObX.op rfl ?_
          intro f38 wd39 he40 hout41 hphi42
          have hS43 : St w wd39 [] := St.extend hS20 he40
          obtain ⟨S44, hS45, hf46⟩ := hphi42 0 17 _ rfl rfl rfl
          have e47 : f38 17 = v_a := hf46
          obtain ⟨S48, hS49, hf50⟩ := hphi42 1 18 _ rfl rfl rfl
          obtain ⟨e51, hr52⟩ : f38 18 = (Value.int .i64 (k7 : Int)) ∧ InR .i64 (k7 : Int) := hf50
          exact OpX.val (Value.pointer (some (elA v_a ((k7 : Int)).toNat))) wd39 rfl (op_idx sl_65 (Ty.lift _ hS43.ext r_a) e47 e51 ha54 hb55) (Ext.refl _) rfl
        · refine ObX.op rfl ?_
          intro f57 wd58 he59 hout60 hphi61
          have hS62 : St w wd58 [] := St.extend hS20 he59
          obtain ⟨S63, hS64, hf65⟩ := hphi61 2 19 _ rfl rfl rfl
          have e66 : f57 19 = (Value.pointer (some (elA v_a ((k7 : Int)).toNat))) := hf65
          exact OpX.val u67 wd58 rfl (op_load one_25 e66 (Ext.cell hS62.ext hc68)) (Ext.refl _) rfl
        · refine ObX.op rfl ?_
          intro f70 wd71 he72 hout73 hphi74
          have hS75 : St w wd71 [] := St.extend hS20 he72
          have e76 : f70 1 = v_b := (hout73 1 rfl).trans hf17
          exact OpX.val v_b wd71 rfl (op_move e76) (Ext.refl _) rfl
        · refine ObX.op rfl ?_
          intro f77 wd78 he79 hout80 hphi81
          have hS82 : St w wd78 [] := St.extend hS20 he79
          have e83 : f77 5 = (Value.int .i64 (k7 : Int)) := (hout80 5 rfl).trans hf18
          exact OpX.val (Value.int .i64 (k7 : Int)) wd78 rfl (op_move e83) (Ext.refl _) ⟨rfl, hr19⟩
        · refine ObX.op rfl ?_
          intro f84 wd85 he86 hout87 hphi88
          have hS89 : St w wd85 [] := St.extend hS20 he86
          obtain ⟨S90, hS91, hf92⟩ := hphi88 4 21 _ rfl rfl rfl
          have e93 : f84 21 = v_b := hf92
          obtain ⟨S94, hS95, hf96⟩ := hphi88 5 22 _ rfl rfl rfl
          obtain ⟨e97, hr98⟩ : f84 22 = (Value.int .i64 (k7 : Int)) ∧ InR .i64 (k7 : Int) := hf96
          exact OpX.val (Value.pointer (some (elA v_b ((k7 : Int)).toNat))) wd85 rfl (op_idx sl_65 (Ty.lift _ hS89.ext r_b) e93 e97 ha100 hb101) (Ext.refl _) rfl
        · refine ObX.op rfl ?_
          intro f103 wd104 he105 hout106 hphi107
          have hS108 : St w wd104 [] := St.extend hS20 he105
          obtain ⟨S109, hS110, hf111⟩ := hphi107 6 23 _ rfl rfl rfl
          have e112 : f103 23 = (Value.pointer (some (elA v_b ((k7 : Int)).toNat))) := hf111
          exact OpX.val u113 wd104 rfl (op_load one_25 e112 (Ext.cell hS108.ext hc114)) (Ext.refl _) rfl
        · intro f116 wd117 Ss118 he119 hout120 hSn121 hSd122 hphi123
          show WL _ _ _ _ _ _ _
          have hS124 : St w wd117 [] := St.extend hS20 he119
          have e125 : f116 20 = u67 := hphi123 3 20 _ (by decide) rfl rfl
          have e126 : f116 24 = u113 := hphi123 7 24 _ (by decide) rfl rfl
          have e127 : f116 0 = v_a := (hout120 0 rfl).trans hf16
          have e128 : f116 1 = v_b := (hout120 1 rfl).trans hf17
          have e129 : f116 5 = (Value.int .i64 (k7 : Int)) := (hout120 5 rfl).trans hf18
          obtain ⟨x130, hx131, hb12⟩ := bs hb12
          refine WL.call _ (op_call fn_15 (args2 e125 e126)) (c_laws_eqInt64S (Ty.lift _ hS124.ext hr69) (Ty.lift _ hS124.ext hr115) hx131) rfl ?_
          rintro _ wd132 ⟨rfl, he133⟩
          have hS135 := St.extend hS124 he133
          replace hS135 : St w wd132 [] := hS135
          refine WL.val (Value.bool (!x130)) _ (op_not rfl) rfl ?_
          refine WL.nil ?_
          show W _ _ _ _ _ _
          refine W.cond (!x130) rfl (fun hc136 => ?_) (fun hc136 => ?_)
          · replace hb12 := ip hb12 hc136
            refine W.seq ?_
            refine W.region ?_
            refine WL.val (Value.bool false) _ (op_assign rfl) rfl ?_
            refine WL.nil ?_
            show W _ _ _ _ _ _
            refine W.ret ?_
            obtain rfl := Option.some.inj hb12
            obtain rfl := hret15 _ rfl
            replace h := onRes_ret h
            obtain rfl := Option.some.inj h
            show FinP _ _ _ _ _ _ _
            exact FinP.ret _ (res1 rfl rfl) ⟨rfl, hS135.ext⟩
          · replace hb12 := inegb hb12 hc136
            refine W.skip ?_
            show W _ _ _ _ _ _
            refine W.region ?_
            refine WL.val (Value.int .i64 (k7 : Int)) _ (op_move e129) rfl ?_
            refine WL.val (Value.int .i64 (w64 ((k7 : Int) + (1 : Int)))) _ (op_add rfl rfl) rfl ?_
            refine WL.val (Value.int .i64 (w64 ((k7 : Int) + (1 : Int)))) _ (op_assign rfl) rfl ?_
            refine WL.nil ?_
            obtain rfl := Option.some.inj hb12
            show ∃ s, _ = Ctl.next s ∧ _
            exact ⟨_, rfl, e127, e128, (ctr_next hl22 hr21), (ctr_rng hl22 hr21), hS135⟩
      · intro s143 f139 wd140 hs141 hI142
        obtain ⟨⟩ := s143
        replace hI142 : f139 0 = v_a ∧ f139 1 = v_b ∧ f139 5 = Value.int .i64 (((a).length : Nat) : Int) ∧ InR .i64 (((a).length : Nat) : Int) ∧ St w wd140 [] := hI142
        obtain ⟨hf144, hf145, hf146, hr147, hS148⟩ := hI142
        refine W.seq ?_
        refine W.seq ?_
        refine W.region ?_
        refine WL.val (Value.int .i64 (((a).length : Nat) : Int)) _ (op_move hf146) rfl ?_
        refine WL.val v_a _ (op_move hf144) rfl ?_
        have hr149 := inR_len (Ty.lift _ hS148.ext r_a)
        refine WL.val (Value.int .i64 ((a).length : Int)) _ (op_lenL sl_65 (Ty.lift _ hS148.ext r_a) rfl) rfl ?_
        refine WL.val (Value.bool (decide ((((a).length : Nat) : Int) < ((a).length : Int)))) _ (op_lss rfl rfl) rfl ?_
        have hl150 : ¬ (((a).length : Nat) : Int) < ((a).length : Int) := by omega
        refine WL.nil ?_
        show W _ _ _ _ _ _
        refine W.condF (decide ((((a).length : Nat) : Int) < ((a).length : Int))) rfl (decide_eq_false hl150) ?_
        refine W.exit ?_
        show _ = _ ∧ _
        exact ⟨rfl, _, hs141, hS148⟩
    · rintro f151 wd152 ⟨s154, rfl, hq153⟩
      replace h := onRes_fin h
      obtain ⟨⟩ := s154
      replace hq153 : St w wd152 [] := hq153
      have hS155 := hq153
      show W _ _ _ _ _ _
      refine W.seq ?_
      refine W.region ?_
      refine WL.val (Value.bool true) _ (op_assign rfl) rfl ?_
      refine WL.nil ?_
      show W _ _ _ _ _ _
      refine W.ret ?_
      obtain rfl := Option.some.inj h
      show FinP _ _ _ _ _ _ _
      exact FinP.ret _ (res1 rfl rfl) ⟨rfl, hS155.ext⟩

theorem c_laws_eqInt64SSS {w : World} {a : (List (List (List Int)))} {v_a : Value} {b : (List (List (List Int)))} {v_b : Value} (r_a : (Ty.sl (Ty.sl (Ty.sl (Ty.i .i64)))).rep w v_a a) (r_b : (Ty.sl (Ty.sl (Ty.sl (Ty.i .i64)))).rep w v_b b) {res : Bool} (h : p_laws_eqInt64SSS a b  = some res) :
    Ret Try.prog 41 #[v_a, v_b] w (fun v w' => v = Value.bool res ∧ Ext w w') := by
  unfold p_laws_eqInt64SSS at h
  have hS0 : St w w [] := St.start w
  refine Ret.start (fn := Try.f41) Try.func41 rfl 27 rfl rfl ?_
  refine W.seq ?_
  refine W.region ?_
  refine WL.val (Value.bool false) _ (op_assign rfl) rfl ?_
  refine WL.nil ?_
  show W _ _ _ _ _ _
  refine W.seq ?_
  refine W.seq ?_
  refine W.region ?_
  refine WL.val v_a _ (op_move rfl) rfl ?_
  have hr1 := inR_len (Ty.lift _ hS0.ext r_a)
  refine WL.val (Value.int .i64 ((a).length : Int)) _ (op_lenL sl_22 (Ty.lift _ hS0.ext r_a) rfl) rfl ?_
  refine WL.val v_b _ (op_move rfl) rfl ?_
  have hr2 := inR_len (Ty.lift _ hS0.ext r_b)
  refine WL.val (Value.int .i64 ((b).length : Int)) _ (op_lenL sl_22 (Ty.lift _ hS0.ext r_b) rfl) rfl ?_
  refine WL.val (Value.bool (((a).length : Int) != ((b).length : Int))) _ (op_neq rfl rfl) rfl ?_
  refine WL.nil ?_
  show W _ _ _ _ _ _
  refine W.cond (((a).length : Int) != ((b).length : Int)) rfl (fun hc3 => ?_) (fun hc3 => ?_)
  · replace h := ip h hc3
    refine W.seq ?_
    refine W.region ?_
    refine WL.val (Value.bool false) _ (op_assign rfl) rfl ?_
    refine WL.nil ?_
    show W _ _ _ _ _ _
    refine W.ret ?_
    obtain rfl := Option.some.inj h
    show FinP _ _ _ _ _ _ _
    exact FinP.ret _ (res1 rfl rfl) ⟨rfl, hS0.ext⟩
  · replace h := inegb h hc3
    refine W.skip ?_
    show W _ _ _ _ _ _
    refine W.seq ?_
    refine W.seq ?_
    refine W.region ?_
    refine WL.val (Value.int .i64 (0 : Int)) _ (op_assign rfl) rfl ?_
    refine WL.nil ?_
    show W _ _ _ _ _ _
    obtain ⟨res5, hres6, h⟩ := bs h
    refine W.blockLoop (fun fq wq => ∃ s, res5 = Res.fin s ∧ St w wq []) ?_ ?_
    · refine W.forN (fun k (s : Unit) fq wq => fq 0 = v_a ∧ fq 1 = v_b ∧ fq 5 = Value.int .i64 (k : Int) ∧ InR .i64 (k : Int) ∧ St w wq []) hres6 ⟨rfl, rfl, rfl, (inR_i64.2 (show (-9223372036854775808 : Int) ≤ 0 ∧ (0 : Int) ≤ 9223372036854775807 from by decide)), hS0⟩ ?_ ?_
      · intro k7 s138 ct8 f9 wd10 hk11 hb12 hI13 hbrk14 hret15
        obtain ⟨⟩ := s138
        replace hI13 : f9 0 = v_a ∧ f9 1 = v_b ∧ f9 5 = Value.int .i64 (k7 : Int) ∧ InR .i64 (k7 : Int) ∧ St w wd10 [] := hI13
        replace hb12 : p_laws_eqInt64SSS_L1 a b k7  = some ct8 := hb12
        unfold p_laws_eqInt64SSS_L1 at hb12
        obtain ⟨hf16, hf17, hf18, hr19, hS20⟩ := hI13
        refine W.seq ?_
        refine W.seq ?_
        refine W.region ?_
        refine WL.val (Value.int .i64 (k7 : Int)) _ (op_move hf18) rfl ?_
        refine WL.val v_a _ (op_move hf16) rfl ?_
        have hr21 := inR_len (Ty.lift _ hS20.ext r_a)
        refine WL.val (Value.int .i64 ((a).length : Int)) _ (op_lenL sl_22 (Ty.lift _ hS20.ext r_a) rfl) rfl ?_
        refine WL.val (Value.bool (decide ((k7 : Int) < ((a).length : Int)))) _ (op_lss rfl rfl) rfl ?_
        have hl22 : (k7 : Int) < ((a).length : Int) := by omega
        refine WL.nil ?_
        show W _ _ _ _ _ _
        refine W.condT (decide ((k7 : Int) < ((a).length : Int))) rfl (decide_eq_true hl22) ?_
        refine W.skip ?_
        show W _ _ _ _ _ _
        refine W.seq ?_
        refine W.block ?_
        refine W.seq ?_
        obtain ⟨x53, hx56, hb12⟩ := bs hb12
        obtain ⟨ha54, hb55, hx56⟩ := idx_some hx56
        obtain ⟨u67, hc68, hr69⟩ := repSl.el r_a hx56
        obtain ⟨x99, hx102, hb12⟩ := bs hb12
        obtain ⟨ha100, hb101, hx102⟩ := idx_some hx102
        obtain ⟨u113, hc114, hr115⟩ := repSl.el r_b hx102
        refine W.drawR mixo 8 [] [fun _ v _ _ => v = v_a, fun _ v _ _ => v = (Value.int .i64 (k7 : Int)) ∧ InR .i64 (k7 : Int), fun _ v _ _ => v = (Value.pointer (some (elA v_a ((k7 : Int)).toNat))), fun _ v _ _ => v = u67, fun _ v _ _ => v = v_b, fun _ v _ _ => v = (Value.int .i64 (k7 : Int)) ∧ InR .i64 (k7 : Int), fun _ v _ _ => v = (Value.pointer (some (elA v_b ((k7 : Int)).toNat))), fun _ v _ _ => v = u113] (by kernel_rfl) (by kernel_rfl) ⟨⟨fun _ _ _ _ _ _ h => h, fun _ _ _ _ _ _ h => h⟩, ⟨fun _ _ _ _ _ _ h => h, fun _ _ _ _ _ _ h => h⟩, ⟨fun _ _ _ _ _ _ h => h, fun _ _ _ _ _ _ h => h⟩, ⟨fun _ _ _ _ _ _ h => h, fun _ _ _ _ _ _ h => h⟩, ⟨fun _ _ _ _ _ _ h => h, fun _ _ _ _ _ _ h => h⟩, ⟨fun _ _ _ _ _ _ h => h, fun _ _ _ _ _ _ h => h⟩, ⟨fun _ _ _ _ _ _ h => h, fun _ _ _ _ _ _ h => h⟩, ⟨fun _ _ _ _ _ _ h => h, fun _ _ _ _ _ _ h => h⟩, trivial⟩ ⟨?_, ?_, ?_, ?_, ?_, ?_, ?_, ?_, trivial⟩ ?_
        · refine ObX.op rfl ?_
          intro f24 wd25 he26 hout27 hphi28
          have hS29 : St w wd25 [] := St.extend hS20 he26
          have e30 : f24 0 = v_a := (hout27 0 rfl).trans hf16
          exact OpX.val v_a wd25 rfl (op_move e30) (Ext.refl _) rfl
        · refine ObX.op rfl ?_
          intro f31 wd32 he33 hout34 hphi35
          have hS36 : St w wd32 [] := St.extend hS20 he33
          have e37 : f31 5 = (Value.int .i64 (k7 : Int)) := (hout34 5 rfl).trans hf18
          exact OpX.val (Value.int .i64 (k7 : Int)) wd32 rfl (op_move e37) (Ext.refl _) ⟨rfl, hr19⟩
        · refine ObX.op rfl ?_
          intro f38 wd39 he40 hout41 hphi42
          have hS43 : St w wd39 [] := St.extend hS20 he40
          obtain ⟨S44, hS45, hf46⟩ := hphi42 0 17 _ rfl rfl rfl
          have e47 : f38 17 = v_a := hf46
          obtain ⟨S48, hS49, hf50⟩ := hphi42 1 18 _ rfl rfl rfl
          obtain ⟨e51, hr52⟩ : f38 18 = (Value.int .i64 (k7 : Int)) ∧ InR .i64 (k7 : Int) := hf50
          exact OpX.val (Value.pointer (some (elA v_a ((k7 : Int)).toNat))) wd39 rfl (op_idx sl_22 (Ty.lift _ hS43.ext r_a) e47 e51 ha54 hb55) (Ext.refl _) rfl
        · refine ObX.op rfl ?_
          intro f57 wd58 he59 hout60 hphi61
          have hS62 : St w wd58 [] := St.extend hS20 he59
          obtain ⟨S63, hS64, hf65⟩ := hphi61 2 19 _ rfl rfl rfl
          have e66 : f57 19 = (Value.pointer (some (elA v_a ((k7 : Int)).toNat))) := hf65
          exact OpX.val u67 wd58 rfl (op_load one_65 e66 (Ext.cell hS62.ext hc68)) (Ext.refl _) rfl
        · refine ObX.op rfl ?_
          intro f70 wd71 he72 hout73 hphi74
          have hS75 : St w wd71 [] := St.extend hS20 he72
          have e76 : f70 1 = v_b := (hout73 1 rfl).trans hf17
          exact OpX.val v_b wd71 rfl (op_move e76) (Ext.refl _) rfl
        · refine ObX.op rfl ?_
          intro f77 wd78 he79 hout80 hphi81
          have hS82 : St w wd78 [] := St.extend hS20 he79
          have e83 : f77 5 = (Value.int .i64 (k7 : Int)) := (hout80 5 rfl).trans hf18
          exact OpX.val (Value.int .i64 (k7 : Int)) wd78 rfl (op_move e83) (Ext.refl _) ⟨rfl, hr19⟩
        · refine ObX.op rfl ?_
          intro f84 wd85 he86 hout87 hphi88
          have hS89 : St w wd85 [] := St.extend hS20 he86
          obtain ⟨S90, hS91, hf92⟩ := hphi88 4 21 _ rfl rfl rfl
          have e93 : f84 21 = v_b := hf92
          obtain ⟨S94, hS95, hf96⟩ := hphi88 5 22 _ rfl rfl rfl
          obtain ⟨e97, hr98⟩ : f84 22 = (Value.int .i64 (k7 : Int)) ∧ InR .i64 (k7 : Int) := hf96
          exact OpX.val (Value.pointer (some (elA v_b ((k7 : Int)).toNat))) wd85 rfl (op_idx sl_22 (Ty.lift _ hS89.ext r_b) e93 e97 ha100 hb101) (Ext.refl _) rfl
        · refine ObX.op rfl ?_
          intro f103 wd104 he105 hout106 hphi107
          have hS108 : St w wd104 [] := St.extend hS20 he105
          obtain ⟨S109, hS110, hf111⟩ := hphi107 6 23 _ rfl rfl rfl
          have e112 : f103 23 = (Value.pointer (some (elA v_b ((k7 : Int)).toNat))) := hf111
          exact OpX.val u113 wd104 rfl (op_load one_65 e112 (Ext.cell hS108.ext hc114)) (Ext.refl _) rfl
        · intro f116 wd117 Ss118 he119 hout120 hSn121 hSd122 hphi123
          show WL _ _ _ _ _ _ _
          have hS124 : St w wd117 [] := St.extend hS20 he119
          have e125 : f116 20 = u67 := hphi123 3 20 _ (by decide) rfl rfl
          have e126 : f116 24 = u113 := hphi123 7 24 _ (by decide) rfl rfl
          have e127 : f116 0 = v_a := (hout120 0 rfl).trans hf16
          have e128 : f116 1 = v_b := (hout120 1 rfl).trans hf17
          have e129 : f116 5 = (Value.int .i64 (k7 : Int)) := (hout120 5 rfl).trans hf18
          obtain ⟨x130, hx131, hb12⟩ := bs hb12
          refine WL.call _ (op_call fn_74 (args2 e125 e126)) (c_laws_eqInt64SS (Ty.lift _ hS124.ext hr69) (Ty.lift _ hS124.ext hr115) hx131) rfl ?_
          rintro _ wd132 ⟨rfl, he133⟩
          have hS135 := St.extend hS124 he133
          replace hS135 : St w wd132 [] := hS135
          refine WL.val (Value.bool (!x130)) _ (op_not rfl) rfl ?_
          refine WL.nil ?_
          show W _ _ _ _ _ _
          refine W.cond (!x130) rfl (fun hc136 => ?_) (fun hc136 => ?_)
          · replace hb12 := ip hb12 hc136
            refine W.seq ?_
            refine W.region ?_
            refine WL.val (Value.bool false) _ (op_assign rfl) rfl ?_
            refine WL.nil ?_
            show W _ _ _ _ _ _
            refine W.ret ?_
            obtain rfl := Option.some.inj hb12
            obtain rfl := hret15 _ rfl
            replace h := onRes_ret h
            obtain rfl := Option.some.inj h
            show FinP _ _ _ _ _ _ _
            exact FinP.ret _ (res1 rfl rfl) ⟨rfl, hS135.ext⟩
          · replace hb12 := inegb hb12 hc136
            refine W.skip ?_
            show W _ _ _ _ _ _
            refine W.region ?_
            refine WL.val (Value.int .i64 (k7 : Int)) _ (op_move e129) rfl ?_
            refine WL.val (Value.int .i64 (w64 ((k7 : Int) + (1 : Int)))) _ (op_add rfl rfl) rfl ?_
            refine WL.val (Value.int .i64 (w64 ((k7 : Int) + (1 : Int)))) _ (op_assign rfl) rfl ?_
            refine WL.nil ?_
            obtain rfl := Option.some.inj hb12
            show ∃ s, _ = Ctl.next s ∧ _
            exact ⟨_, rfl, e127, e128, (ctr_next hl22 hr21), (ctr_rng hl22 hr21), hS135⟩
      · intro s143 f139 wd140 hs141 hI142
        obtain ⟨⟩ := s143
        replace hI142 : f139 0 = v_a ∧ f139 1 = v_b ∧ f139 5 = Value.int .i64 (((a).length : Nat) : Int) ∧ InR .i64 (((a).length : Nat) : Int) ∧ St w wd140 [] := hI142
        obtain ⟨hf144, hf145, hf146, hr147, hS148⟩ := hI142
        refine W.seq ?_
        refine W.seq ?_
        refine W.region ?_
        refine WL.val (Value.int .i64 (((a).length : Nat) : Int)) _ (op_move hf146) rfl ?_
        refine WL.val v_a _ (op_move hf144) rfl ?_
        have hr149 := inR_len (Ty.lift _ hS148.ext r_a)
        refine WL.val (Value.int .i64 ((a).length : Int)) _ (op_lenL sl_22 (Ty.lift _ hS148.ext r_a) rfl) rfl ?_
        refine WL.val (Value.bool (decide ((((a).length : Nat) : Int) < ((a).length : Int)))) _ (op_lss rfl rfl) rfl ?_
        have hl150 : ¬ (((a).length : Nat) : Int) < ((a).length : Int) := by omega
        refine WL.nil ?_
        show W _ _ _ _ _ _
        refine W.condF (decide ((((a).length : Nat) : Int) < ((a).length : Int))) rfl (decide_eq_false hl150) ?_
        refine W.exit ?_
        show _ = _ ∧ _
        exact ⟨rfl, _, hs141, hS148⟩
    · rintro f151 wd152 ⟨s154, rfl, hq153⟩
      replace h := onRes_fin h
      obtain ⟨⟩ := s154
      replace hq153 : St w wd152 [] := hq153
      have hS155 := hq153
      show W _ _ _ _ _ _
      refine W.seq ?_
      refine W.region ?_
      refine WL.val (Value.bool true) _ (op_assign rfl) rfl ?_
      refine WL.nil ?_
      show W _ _ _ _ _ _
      refine W.ret ?_
      obtain rfl := Option.some.inj h
      show FinP _ _ _ _ _ _ _
      exact FinP.ret _ (res1 rfl rfl) ⟨rfl, hS155.ext⟩

theorem c_laws_eqRing {w : World} {a_Table : (List (List (List Int)))} {v_a_Table : Value} {b_Table : (List (List (List Int)))} {v_b_Table : Value} (r_a_Table : (Ty.sl (Ty.sl (Ty.sl (Ty.i .i64)))).rep w v_a_Table a_Table) (r_b_Table : (Ty.sl (Ty.sl (Ty.sl (Ty.i .i64)))).rep w v_b_Table b_Table) {res : Bool} (h : p_laws_eqRing a_Table b_Table  = some res) :
    Ret Try.prog 14 #[(Value.agg #[v_a_Table]), (Value.agg #[v_b_Table])] w (fun v w' => v = Value.bool res ∧ Ext w w') := by
  unfold p_laws_eqRing at h
  have hS0 : St w w [] := St.start w
  refine Ret.start (fn := Try.f14) Try.func14 rfl 11 rfl rfl ?_
  refine W.seq ?_
  refine W.region ?_
  refine WL.box hS0 rfl (cs := [v_a_Table]) rfl rfl ?_
  intro b1 wd2 hS3 he4 hx5
  replace hS3 : St w wd2 [bx b1 [v_a_Table]] := hS3
  have hx6 := St.boxAt hS3 0 rfl
  have hE7 : Ext w wd2 := hS3.ext
  have hS8 : St wd2 wd2 [] := St.start wd2
  refine WL.box hS8 rfl (cs := [v_b_Table]) rfl rfl ?_
  intro b9 wd10 hS11 he12 hx13
  replace hS11 : St wd2 wd10 [bx b9 [v_b_Table]] := hS11
  have hx14 := St.boxAt hS11 0 rfl
  have hE15 : Ext w wd10 := (Ext.trans hE7 hS11.ext)
  have hE16 : Ext wd2 wd10 := hS11.ext
  have hS17 : St wd10 wd10 [] := St.start wd10
  refine WL.val (Value.bool false) _ (op_assign rfl) rfl ?_
  refine WL.nil ?_
  show W _ _ _ _ _ _
  refine W.seq ?_
  refine W.seq ?_
  refine W.region ?_
  refine WL.val (Value.pointer (some ⟨b1, 0, none⟩)) _ (op_fieldAddr fd_29_0 rfl) rfl ?_
  refine WL.val v_a_Table _ (op_load one_22 rfl (BoxAt.cell (BoxAt.lift (Ext.trans hE16 hS17.ext) hx6) rfl)) rfl ?_
  refine WL.val (Value.pointer (some ⟨b9, 0, none⟩)) _ (op_fieldAddr fd_29_0 rfl) rfl ?_
  refine WL.val v_b_Table _ (op_load one_22 rfl (BoxAt.cell (BoxAt.lift hS17.ext hx14) rfl)) rfl ?_
  obtain ⟨x18, hx19, h⟩ := bs h
  refine WL.call _ (op_call fn_41 (args2 rfl rfl)) (c_laws_eqInt64SSS (Ty.lift _ (Ext.trans hE15 hS17.ext) r_a_Table) (Ty.lift _ (Ext.trans hE15 hS17.ext) r_b_Table) hx19) rfl ?_
  rintro _ wd20 ⟨rfl, he21⟩
  have hS23 := St.extend hS17 he21
  replace hS23 : St wd10 wd20 [] := hS23
  refine WL.val (Value.bool (!x18)) _ (op_not rfl) rfl ?_
  refine WL.nil ?_
  show W _ _ _ _ _ _
  refine W.cond (!x18) rfl (fun hc24 => ?_) (fun hc24 => ?_)
  · replace h := ip h hc24
    refine W.seq ?_
    refine W.region ?_
    refine WL.val (Value.bool false) _ (op_assign rfl) rfl ?_
    refine WL.nil ?_
    show W _ _ _ _ _ _
    refine W.ret ?_
    obtain rfl := Option.some.inj h
    show FinP _ _ _ _ _ _ _
    exact FinP.ret _ (res1 rfl rfl) ⟨rfl, (Ext.trans hE15 hS23.ext)⟩
  · replace h := inegb h hc24
    refine W.skip ?_
    show W _ _ _ _ _ _
    refine W.seq ?_
    refine W.region ?_
    refine WL.val (Value.bool true) _ (op_assign rfl) rfl ?_
    refine WL.nil ?_
    show W _ _ _ _ _ _
    refine W.ret ?_
    obtain rfl := Option.some.inj h
    show FinP _ _ _ _ _ _ _
    exact FinP.ret _ (res1 rfl rfl) ⟨rfl, (Ext.trans hE15 hS23.ext)⟩

theorem c_spec_l15Labels {w : World} {n : Int} {labels : (List Int)} {v_labels : Value} (r_n : InR .i64 n) (r_labels : (Ty.sl (Ty.i .i64)).rep w v_labels labels) {res : Bool} (h : p_spec_l15Labels n labels  = some res) :
    Ret Try.prog 43 #[(Value.int .i64 n), v_labels] w (fun v w' => v = Value.bool res ∧ Ext w w') := by
  unfold p_spec_l15Labels at h
  have hS0 : St w w [] := St.start w
  refine Ret.start (fn := Try.f43) Try.func43 rfl 23 rfl rfl ?_
  refine W.seq ?_
  refine W.region ?_
  refine WL.val (Value.bool false) _ (op_assign rfl) rfl ?_
  refine WL.nil ?_
  show W _ _ _ _ _ _
  refine W.seq ?_
  refine W.seq ?_
  refine W.region ?_
  refine WL.val (Value.int .i64 (0 : Int)) _ (op_assign rfl) rfl ?_
  refine WL.nil ?_
  show W _ _ _ _ _ _
  obtain ⟨res1, hres2, h⟩ := bs h
  refine W.blockLoop (fun fq wq => ∃ s, res1 = Res.fin s ∧ fq 1 = v_labels ∧ St w wq []) ?_ ?_
  · refine W.forN (fun k (s : Unit) fq wq => fq 0 = (Value.int .i64 n) ∧ fq 1 = v_labels ∧ fq 5 = Value.int .i64 (k : Int) ∧ InR .i64 (k : Int) ∧ St w wq []) hres2 ⟨rfl, rfl, rfl, (inR_i64.2 (show (-9223372036854775808 : Int) ≤ 0 ∧ (0 : Int) ≤ 9223372036854775807 from by decide)), hS0⟩ ?_ ?_
    · intro k3 s35 ct4 f5 wd6 hk7 hb8 hI9 hbrk10 hret11
      obtain ⟨⟩ := s35
      replace hI9 : f5 0 = (Value.int .i64 n) ∧ f5 1 = v_labels ∧ f5 5 = Value.int .i64 (k3 : Int) ∧ InR .i64 (k3 : Int) ∧ St w wd6 [] := hI9
      replace hb8 : p_spec_l15Labels_L1 labels n k3  = some ct4 := hb8
      unfold p_spec_l15Labels_L1 at hb8
      obtain ⟨hf12, hf13, hf14, hr15, hS16⟩ := hI9
      refine W.seq ?_
      refine W.seq ?_
      refine W.region ?_
      refine WL.val (Value.int .i64 (k3 : Int)) _ (op_move hf14) rfl ?_
      refine WL.val v_labels _ (op_move hf13) rfl ?_
      have hr17 := inR_len (Ty.lift _ hS16.ext r_labels)
      refine WL.val (Value.int .i64 ((labels).length : Int)) _ (op_lenL sl_25 (Ty.lift _ hS16.ext r_labels) rfl) rfl ?_
      refine WL.val (Value.bool (decide ((k3 : Int) < ((labels).length : Int)))) _ (op_lss rfl rfl) rfl ?_
      have hl18 : (k3 : Int) < ((labels).length : Int) := by omega
      refine WL.nil ?_
      show W _ _ _ _ _ _
      refine W.condT (decide ((k3 : Int) < ((labels).length : Int))) rfl (decide_eq_true hl18) ?_
      refine W.skip ?_
      show W _ _ _ _ _ _
      refine W.seq ?_
      refine W.block ?_
      refine W.seq ?_
      refine W.region ?_
      refine WL.val v_labels _ (op_move hf13) rfl ?_
      refine WL.val (Value.int .i64 (k3 : Int)) _ (op_move hf14) rfl ?_
      obtain ⟨x20, hx23, hb8⟩ := bs hb8
      obtain ⟨ha21, hb22, hx23⟩ := idx_some hx23
      refine WL.val (Value.pointer (some (elA v_labels ((k3 : Int)).toNat))) _ (op_idx sl_25 (Ty.lift _ hS16.ext r_labels) rfl rfl ha21 hb22) rfl ?_
      obtain ⟨u24, hc25, hr26⟩ := repSl.el r_labels hx23
      obtain ⟨rfl, hr26⟩ := hr26
      refine WL.val (Value.int .i64 x20) _ (op_load one_2 rfl (Ext.cell hS16.ext hc25)) rfl ?_
      refine WL.val (Value.int .i64 n) _ (op_move hf12) rfl ?_
      refine WL.val (Value.int .i64 (w64 (n - (1 : Int)))) _ (op_sub rfl rfl) rfl ?_
      obtain ⟨x27, hx28, hb8⟩ := bs hb8
      refine WL.call _ (op_call fn_75 (args3 rfl rfl rfl)) (c_spec_l01In hr26 (inR_i64.2 (show (-9223372036854775808 : Int) ≤ 0 ∧ (0 : Int) ≤ 9223372036854775807 from by decide)) (inR_wrap _ _) hx28) rfl ?_
      rintro _ wd29 ⟨rfl, he30⟩
      have hS32 := St.extend hS16 he30
      replace hS32 : St w wd29 [] := hS32
      refine WL.val (Value.bool (!x27)) _ (op_not rfl) rfl ?_
      refine WL.nil ?_
      show W _ _ _ _ _ _
      refine W.cond (!x27) rfl (fun hc33 => ?_) (fun hc33 => ?_)
      · replace hb8 := ip hb8 hc33
        refine W.seq ?_
        refine W.region ?_
        refine WL.val (Value.bool false) _ (op_assign rfl) rfl ?_
        refine WL.nil ?_
        show W _ _ _ _ _ _
        refine W.ret ?_
        obtain rfl := Option.some.inj hb8
        obtain rfl := hret11 _ rfl
        replace h := onRes_ret h
        obtain rfl := Option.some.inj h
        show FinP _ _ _ _ _ _ _
        exact FinP.ret _ (res1 rfl rfl) ⟨rfl, hS32.ext⟩
      · replace hb8 := inegb hb8 hc33
        refine W.skip ?_
        show W _ _ _ _ _ _
        refine W.region ?_
        refine WL.val (Value.int .i64 (k3 : Int)) _ (op_move hf14) rfl ?_
        refine WL.val (Value.int .i64 (w64 ((k3 : Int) + (1 : Int)))) _ (op_add rfl rfl) rfl ?_
        refine WL.val (Value.int .i64 (w64 ((k3 : Int) + (1 : Int)))) _ (op_assign rfl) rfl ?_
        refine WL.nil ?_
        obtain rfl := Option.some.inj hb8
        show ∃ s, _ = Ctl.next s ∧ _
        exact ⟨_, rfl, hf12, hf13, (ctr_next hl18 hr17), (ctr_rng hl18 hr17), hS32⟩
    · intro s40 f36 wd37 hs38 hI39
      obtain ⟨⟩ := s40
      replace hI39 : f36 0 = (Value.int .i64 n) ∧ f36 1 = v_labels ∧ f36 5 = Value.int .i64 (((labels).length : Nat) : Int) ∧ InR .i64 (((labels).length : Nat) : Int) ∧ St w wd37 [] := hI39
      obtain ⟨hf41, hf42, hf43, hr44, hS45⟩ := hI39
      refine W.seq ?_
      refine W.seq ?_
      refine W.region ?_
      refine WL.val (Value.int .i64 (((labels).length : Nat) : Int)) _ (op_move hf43) rfl ?_
      refine WL.val v_labels _ (op_move hf42) rfl ?_
      have hr46 := inR_len (Ty.lift _ hS45.ext r_labels)
      refine WL.val (Value.int .i64 ((labels).length : Int)) _ (op_lenL sl_25 (Ty.lift _ hS45.ext r_labels) rfl) rfl ?_
      refine WL.val (Value.bool (decide ((((labels).length : Nat) : Int) < ((labels).length : Int)))) _ (op_lss rfl rfl) rfl ?_
      have hl47 : ¬ (((labels).length : Nat) : Int) < ((labels).length : Int) := by omega
      refine WL.nil ?_
      show W _ _ _ _ _ _
      refine W.condF (decide ((((labels).length : Nat) : Int) < ((labels).length : Int))) rfl (decide_eq_false hl47) ?_
      refine W.exit ?_
      show _ = _ ∧ _
      exact ⟨rfl, _, hs38, hf42, hS45⟩
  · rintro f48 wd49 ⟨s51, rfl, hq50⟩
    replace h := onRes_fin h
    obtain ⟨⟩ := s51
    replace hq50 : f48 1 = v_labels ∧ St w wd49 [] := hq50
    obtain ⟨hf52, hS53⟩ := hq50
    show W _ _ _ _ _ _
    refine W.seq ?_
    refine W.region ?_
    refine WL.val v_labels _ (op_move hf52) rfl ?_
    have hr54 := inR_len (Ty.lift _ hS53.ext r_labels)
    refine WL.val (Value.int .i64 ((labels).length : Int)) _ (op_lenL sl_25 (Ty.lift _ hS53.ext r_labels) rfl) rfl ?_
    refine WL.val (Value.bool (decide (((labels).length : Int) ≤ (8 : Int)))) _ (op_leq rfl rfl) rfl ?_
    refine WL.val (Value.bool (decide (((labels).length : Int) ≤ (8 : Int)))) _ (op_assign rfl) rfl ?_
    refine WL.nil ?_
    show W _ _ _ _ _ _
    refine W.ret ?_
    obtain rfl := Option.some.inj h
    show FinP _ _ _ _ _ _ _
    exact FinP.ret _ (res1 rfl rfl) ⟨rfl, hS53.ext⟩

theorem c_spec_l15List {w : World} {r_Table : (List (List (List Int)))} {v_r_Table : Value} {labels : (List Int)} {v_labels : Value} (r_r_Table : (Ty.sl (Ty.sl (Ty.sl (Ty.i .i64)))).rep w v_r_Table r_Table) (r_labels : (Ty.sl (Ty.i .i64)).rep w v_labels labels) {res : Int} (h : p_spec_l15List r_Table labels  = some res) :
    Ret Try.prog 42 #[(Value.agg #[v_r_Table]), v_labels] w (fun v w' => v = Value.int .i64 res ∧ InR .i64 res ∧ Ext w w') := by
  unfold p_spec_l15List at h
  have hS0 : St w w [] := St.start w
  refine Ret.start (fn := Try.f42) Try.func42 rfl 24 rfl rfl ?_
  refine W.seq ?_
  refine W.region ?_
  refine WL.box hS0 rfl (cs := [v_r_Table]) rfl rfl ?_
  intro b1 wd2 hS3 he4 hx5
  replace hS3 : St w wd2 [bx b1 [v_r_Table]] := hS3
  have hx6 := St.boxAt hS3 0 rfl
  have hE7 : Ext w wd2 := hS3.ext
  have hS8 : St wd2 wd2 [] := St.start wd2
  refine WL.val (Value.int .i64 (0 : Int)) _ (op_assign rfl) rfl ?_
  refine WL.nil ?_
  show W _ _ _ _ _ _
  refine W.seq ?_
  refine W.region ?_
  refine WL.val (Value.agg #[v_r_Table]) _ (op_loadBox st_29 rfl (BoxAt.lift hS8.ext hx6) rfl rfl) rfl ?_
  obtain ⟨x9, hx10, h⟩ := bs h
  refine WL.call _ (op_call fn_64 (args1 rfl)) (c_spec_l08Code (Ty.lift _ (Ext.trans hE7 hS8.ext) r_r_Table) hx10) rfl ?_
  rintro _ wd12 ⟨rfl, hr11, he13⟩
  have hS15 := St.extend hS8 he13
  replace hS15 : St wd2 wd12 [] := hS15
  refine WL.val (Value.int .i64 x9) _ (op_assign rfl) rfl ?_
  refine WL.nil ?_
  show W _ _ _ _ _ _
  refine W.seq ?_
  refine W.seq ?_
  obtain ⟨x16, hj17, h⟩ := bs h
  refine W.cutCode (fun fq wq => fq 5 = (Value.int .i64 x9) ∧ fq 22 = Value.bool x16 ∧ St wd2 wq []) ?_ ?_
  · refine W.region ?_
    refine WL.val (Value.int .i64 x9) _ (op_move rfl) rfl ?_
    refine WL.val (Value.bool (x9 == (0 : Int))) _ (op_eql rfl rfl) rfl ?_
    refine WL.val (Value.bool (x9 == (0 : Int))) _ (op_move rfl) rfl ?_
    rcases Bool.eq_false_or_eq_true (x9 == (0 : Int)) with hc18 | hc18
    · replace hj17 := ip hj17 hc18
      refine WL.grun rfl (bool_of rfl hc18) ?_
      refine WL.val v_labels _ (op_move rfl) rfl ?_
      refine WL.grun rfl (bool_of rfl hc18) ?_
      have hr19 := inR_len (Ty.lift _ (Ext.trans hE7 hS15.ext) r_labels)
      refine WL.val (Value.int .i64 ((labels).length : Int)) _ (op_lenL sl_25 (Ty.lift _ (Ext.trans hE7 hS15.ext) r_labels) rfl) rfl ?_
      refine WL.grun rfl (bool_of rfl hc18) ?_
      refine WL.val (Value.bool (((labels).length : Int) == (0 : Int))) _ (op_eql rfl rfl) rfl ?_
      refine WL.grun rfl (bool_of rfl hc18) ?_
      refine WL.val (Value.bool (((labels).length : Int) == (0 : Int))) _ (op_move rfl) rfl ?_
      rcases Bool.eq_false_or_eq_true (((labels).length : Int) == (0 : Int)) with hc20 | hc20
      · replace hj17 := ip hj17 hc20
        refine WL.gskip rfl (bool_of rfl hc20) rfl ?_
        refine WL.gskip rfl (bool_of rfl hc20) rfl ?_
        refine WL.gskip rfl (bool_of rfl hc20) rfl ?_
        refine WL.gskip rfl (bool_of rfl hc20) rfl ?_
        refine WL.gskip rfl (bool_of rfl hc20) rfl ?_
        refine WL.gskip rfl (bool_of rfl hc20) rfl ?_
        refine WL.grun rfl (bool_of rfl hc18) ?_
        refine WL.val (Value.bool true) _ (op_pick_t (evb_of rfl hc20) rfl) rfl ?_
        refine WL.val (Value.bool true) _ (op_pick_t (evb_of rfl hc18) rfl) rfl ?_
        refine WL.nil ?_
        obtain rfl := Option.some.inj hj17
        exact ⟨rfl, rfl, hS15⟩
      · replace hj17 := inegb hj17 hc20
        refine WL.grun rfl (bool_of rfl hc20) ?_
        refine WL.val (Value.pointer (some ⟨b1, 0, none⟩)) _ (op_fieldAddr fd_29_0 rfl) rfl ?_
        refine WL.grun rfl (bool_of rfl hc20) ?_
        refine WL.val v_r_Table _ (op_load one_22 rfl (BoxAt.cell (BoxAt.lift hS15.ext hx6) rfl)) rfl ?_
        refine WL.grun rfl (bool_of rfl hc20) ?_
        have hr21 := inR_len (Ty.lift _ (Ext.trans hE7 hS15.ext) r_r_Table)
        refine WL.val (Value.int .i64 ((r_Table).length : Int)) _ (op_lenL sl_22 (Ty.lift _ (Ext.trans hE7 hS15.ext) r_r_Table) rfl) rfl ?_
        refine WL.grun rfl (bool_of rfl hc20) ?_
        refine WL.val v_labels _ (op_move rfl) rfl ?_
        refine WL.grun rfl (bool_of rfl hc20) ?_
        obtain ⟨x22, hx23, hj17⟩ := bs hj17
        refine WL.call _ (op_call fn_43 (args2 rfl rfl)) (c_spec_l15Labels hr21 (Ty.lift _ (Ext.trans hE7 hS15.ext) r_labels) hx23) rfl ?_
        rintro _ wd24 ⟨rfl, he25⟩
        have hS27 := St.extend hS15 he25
        replace hS27 : St wd2 wd24 [] := hS27
        refine WL.grun rfl (bool_of rfl hc20) ?_
        refine WL.val (Value.bool (!x22)) _ (op_not rfl) rfl ?_
        refine WL.grun rfl (bool_of rfl hc18) ?_
        refine WL.val (Value.bool (!x22)) _ (op_pick_f (evb_of rfl hc20) rfl) rfl ?_
        refine WL.val (Value.bool (!x22)) _ (op_pick_t (evb_of rfl hc18) rfl) rfl ?_
        refine WL.nil ?_
        obtain rfl := Option.some.inj hj17
        exact ⟨rfl, rfl, hS27⟩
    · replace hj17 := inegb hj17 hc18
      refine WL.gskip rfl (bool_of rfl hc18) rfl ?_
      refine WL.gskip rfl (bool_of rfl hc18) rfl ?_
      refine WL.gskip rfl (bool_of rfl hc18) rfl ?_
      refine WL.gskip rfl (bool_of rfl hc18) rfl ?_
      refine WL.gskipu rfl rfl rfl ?_
      refine WL.gskipu rfl rfl rfl ?_
      refine WL.gskipu rfl rfl rfl ?_
      refine WL.gskipu rfl rfl rfl ?_
      refine WL.gskipu rfl rfl rfl ?_
      refine WL.gskipu rfl rfl rfl ?_
      refine WL.gskip rfl (bool_of rfl hc18) rfl ?_
      refine WL.val (Value.bool false) _ (op_pick_f (evb_of rfl hc18) rfl) rfl ?_
      refine WL.nil ?_
      obtain rfl := Option.some.inj hj17
      exact ⟨rfl, rfl, hS15⟩
  · intro f28 wd29 hq30
    obtain ⟨hf31, hf32, hS33⟩ := hq30
    show W _ _ _ _ _ _
    obtain ⟨x34, hj35, h⟩ := bs h
    refine W.cutCode (fun fq wq => fq 5 = Value.int .i64 x34 ∧ InR .i64 x34 ∧ St wd2 wq []) ?_ ?_
    · refine W.cond x16 hf32 (fun hc36 => ?_) (fun hc36 => ?_)
      · replace hj35 := ip hj35 hc36
        refine W.region ?_
        refine WL.val (Value.int .i64 (2 : Int)) _ (op_assign rfl) rfl ?_
        refine WL.nil ?_
        obtain rfl := Option.some.inj hj35
        exact ⟨rfl, (inR_i64.2 (show (-9223372036854775808 : Int) ≤ 2 ∧ (2 : Int) ≤ 9223372036854775807 from by decide)), hS33⟩
      · replace hj35 := inegb hj35 hc36
        refine W.skip ?_
        obtain rfl := Option.some.inj hj35
        exact ⟨hf31, hr11, hS33⟩
    · intro f37 wd38 hq39
      obtain ⟨hf40, hr41, hS42⟩ := hq39
      show W _ _ _ _ _ _
      refine W.seq ?_
      refine W.region ?_
      refine WL.val (Value.int .i64 x34) _ (op_move hf40) rfl ?_
      refine WL.val (Value.int .i64 x34) _ (op_assign rfl) rfl ?_
      refine WL.nil ?_
      show W _ _ _ _ _ _
      refine W.ret ?_
      obtain rfl := Option.some.inj h
      show FinP _ _ _ _ _ _ _
      exact FinP.ret _ (res1 rfl rfl) ⟨rfl, hr41, (Ext.trans hE7 hS42.ext)⟩

theorem c_spec_PathWeight {w : World} {r_Table : (List (List (List Int)))} {v_r_Table : Value} {labels : (List Int)} {v_labels : Value} {path : (List Int)} {v_path : Value} (r_r_Table : (Ty.sl (Ty.sl (Ty.sl (Ty.i .i64)))).rep w v_r_Table r_Table) (r_labels : (Ty.sl (Ty.i .i64)).rep w v_labels labels) (r_path : (Ty.sl (Ty.i .i64)).rep w v_path path) {res : Int × Int} (h : p_spec_PathWeight r_Table labels path  = some res) :
    Ret Try.prog 16 #[(Value.agg #[v_r_Table]), v_labels, v_path] w (fun v w' => v = (Value.tuple #[Value.int .i64 res.1, Value.int .i64 res.2]) ∧ InR .i64 res.1 ∧ InR .i64 res.2 ∧ Ext w w') := by
  unfold p_spec_PathWeight at h
  have hS0 : St w w [] := St.start w
  refine Ret.start (fn := Try.f16) Try.func16 rfl 115 rfl rfl ?_
  refine W.seq ?_
  refine W.region ?_
  refine WL.box hS0 rfl (cs := [v_r_Table]) rfl rfl ?_
  intro b1 wd2 hS3 he4 hx5
  replace hS3 : St w wd2 [bx b1 [v_r_Table]] := hS3
  have hx6 := St.boxAt hS3 0 rfl
  have hE7 : Ext w wd2 := hS3.ext
  have hS8 : St wd2 wd2 [] := St.start wd2
  refine WL.val (Value.int .i64 (0 : Int)) _ (op_assign rfl) rfl ?_
  refine WL.val (Value.int .i64 (0 : Int)) _ (op_assign rfl) rfl ?_
  refine WL.nil ?_
  show W _ _ _ _ _ _
  refine W.seq ?_
  refine W.region ?_
  refine WL.val (Value.agg #[v_r_Table]) _ (op_loadBox st_29 rfl (BoxAt.lift hS8.ext hx6) rfl rfl) rfl ?_
  refine WL.val v_labels _ (op_move rfl) rfl ?_
  obtain ⟨x9, hx10, h⟩ := bs h
  refine WL.call _ (op_call fn_42 (args2 rfl rfl)) (c_spec_l15List (Ty.lift _ (Ext.trans hE7 hS8.ext) r_r_Table) (Ty.lift _ (Ext.trans hE7 hS8.ext) r_labels) hx10) rfl ?_
  rintro _ wd12 ⟨rfl, hr11, he13⟩
  have hS15 := St.extend hS8 he13
  replace hS15 : St wd2 wd12 [] := hS15
  refine WL.val (Value.int .i64 x9) _ (op_assign rfl) rfl ?_
  refine WL.nil ?_
  show W _ _ _ _ _ _
  refine W.seq ?_
  refine W.seq ?_
  obtain ⟨x16, hj17, h⟩ := bs h
  refine W.cutCode (fun fq wq => fq 1 = v_labels ∧ fq 2 = v_path ∧ fq 3 = (Value.pointer (some ⟨b1, 0, none⟩)) ∧ fq 8 = (Value.int .i64 x9) ∧ fq 32 = Value.bool x16 ∧ St wd2 wq []) ?_ ?_
  · refine W.region ?_
    refine WL.val (Value.int .i64 x9) _ (op_move rfl) rfl ?_
    refine WL.val (Value.bool (x9 == (0 : Int))) _ (op_eql rfl rfl) rfl ?_
    refine WL.val (Value.bool (x9 == (0 : Int))) _ (op_move rfl) rfl ?_
    rcases Bool.eq_false_or_eq_true (x9 == (0 : Int)) with hc18 | hc18
    · replace hj17 := ip hj17 hc18
      refine WL.grun rfl (bool_of rfl hc18) ?_
      refine WL.val v_path _ (op_move rfl) rfl ?_
      refine WL.grun rfl (bool_of rfl hc18) ?_
      have hr19 := inR_len (Ty.lift _ (Ext.trans hE7 hS15.ext) r_path)
      refine WL.val (Value.int .i64 ((path).length : Int)) _ (op_lenL sl_25 (Ty.lift _ (Ext.trans hE7 hS15.ext) r_path) rfl) rfl ?_
      refine WL.grun rfl (bool_of rfl hc18) ?_
      refine WL.val v_labels _ (op_move rfl) rfl ?_
      refine WL.grun rfl (bool_of rfl hc18) ?_
      have hr20 := inR_len (Ty.lift _ (Ext.trans hE7 hS15.ext) r_labels)
      refine WL.val (Value.int .i64 ((labels).length : Int)) _ (op_lenL sl_25 (Ty.lift _ (Ext.trans hE7 hS15.ext) r_labels) rfl) rfl ?_
      refine WL.grun rfl (bool_of rfl hc18) ?_
      refine WL.val (Value.bool (((path).length : Int) != ((labels).length : Int))) _ (op_neq rfl rfl) rfl ?_
      refine WL.grun rfl (bool_of rfl hc18) ?_
      refine WL.val (Value.bool (((path).length : Int) != ((labels).length : Int))) _ (op_move rfl) rfl ?_
      rcases Bool.eq_false_or_eq_true (((path).length : Int) != ((labels).length : Int)) with hc21 | hc21
      · replace hj17 := ip hj17 hc21
        refine WL.gskip rfl (bool_of rfl hc21) rfl ?_
        refine WL.gskip rfl (bool_of rfl hc21) rfl ?_
        refine WL.gskip rfl (bool_of rfl hc21) rfl ?_
        refine WL.gskip rfl (bool_of rfl hc21) rfl ?_
        refine WL.gskip rfl (bool_of rfl hc21) rfl ?_
        refine WL.gskip rfl (bool_of rfl hc21) rfl ?_
        refine WL.grun rfl (bool_of rfl hc18) ?_
        refine WL.val (Value.bool true) _ (op_pick_t (evb_of rfl hc21) rfl) rfl ?_
        refine WL.val (Value.bool true) _ (op_pick_t (evb_of rfl hc18) rfl) rfl ?_
        refine WL.nil ?_
        obtain rfl := Option.some.inj hj17
        exact ⟨rfl, rfl, rfl, rfl, rfl, hS15⟩
      · replace hj17 := inegb hj17 hc21
        refine WL.grun rfl (bool_of rfl hc21) ?_
        refine WL.val (Value.pointer (some ⟨b1, 0, none⟩)) _ (op_fieldAddr fd_29_0 rfl) rfl ?_
        refine WL.grun rfl (bool_of rfl hc21) ?_
        refine WL.val v_r_Table _ (op_load one_22 rfl (BoxAt.cell (BoxAt.lift hS15.ext hx6) rfl)) rfl ?_
        refine WL.grun rfl (bool_of rfl hc21) ?_
        have hr22 := inR_len (Ty.lift _ (Ext.trans hE7 hS15.ext) r_r_Table)
        refine WL.val (Value.int .i64 ((r_Table).length : Int)) _ (op_lenL sl_22 (Ty.lift _ (Ext.trans hE7 hS15.ext) r_r_Table) rfl) rfl ?_
        refine WL.grun rfl (bool_of rfl hc21) ?_
        refine WL.val v_path _ (op_move rfl) rfl ?_
        refine WL.grun rfl (bool_of rfl hc21) ?_
        obtain ⟨x23, hx24, hj17⟩ := bs hj17
        refine WL.call _ (op_call fn_43 (args2 rfl rfl)) (c_spec_l15Labels hr22 (Ty.lift _ (Ext.trans hE7 hS15.ext) r_path) hx24) rfl ?_
        rintro _ wd25 ⟨rfl, he26⟩
        have hS28 := St.extend hS15 he26
        replace hS28 : St wd2 wd25 [] := hS28
        refine WL.grun rfl (bool_of rfl hc21) ?_
        refine WL.val (Value.bool (!x23)) _ (op_not rfl) rfl ?_
        refine WL.grun rfl (bool_of rfl hc18) ?_
        refine WL.val (Value.bool (!x23)) _ (op_pick_f (evb_of rfl hc21) rfl) rfl ?_
        refine WL.val (Value.bool (!x23)) _ (op_pick_t (evb_of rfl hc18) rfl) rfl ?_
        refine WL.nil ?_
        obtain rfl := Option.some.inj hj17
        exact ⟨rfl, rfl, rfl, rfl, rfl, hS28⟩
    · replace hj17 := inegb hj17 hc18
      refine WL.gskip rfl (bool_of rfl hc18) rfl ?_
      refine WL.gskip rfl (bool_of rfl hc18) rfl ?_
      refine WL.gskip rfl (bool_of rfl hc18) rfl ?_
      refine WL.gskip rfl (bool_of rfl hc18) rfl ?_
      refine WL.gskip rfl (bool_of rfl hc18) rfl ?_
      refine WL.gskip rfl (bool_of rfl hc18) rfl ?_
      refine WL.gskipu rfl rfl rfl ?_
      refine WL.gskipu rfl rfl rfl ?_
      refine WL.gskipu rfl rfl rfl ?_
      refine WL.gskipu rfl rfl rfl ?_
      refine WL.gskipu rfl rfl rfl ?_
      refine WL.gskipu rfl rfl rfl ?_
      refine WL.gskip rfl (bool_of rfl hc18) rfl ?_
      refine WL.val (Value.bool false) _ (op_pick_f (evb_of rfl hc18) rfl) rfl ?_
      refine WL.nil ?_
      obtain rfl := Option.some.inj hj17
      exact ⟨rfl, rfl, rfl, rfl, rfl, hS15⟩
  · intro f29 wd30 hq31
    obtain ⟨hf32, hf33, hf34, hf35, hf36, hS37⟩ := hq31
    show W _ _ _ _ _ _
    obtain ⟨x38, hj39, h⟩ := bs h
    refine W.cutCode (fun fq wq => fq 1 = v_labels ∧ fq 2 = v_path ∧ fq 3 = (Value.pointer (some ⟨b1, 0, none⟩)) ∧ fq 8 = Value.int .i64 x38 ∧ InR .i64 x38 ∧ St wd2 wq []) ?_ ?_
    · refine W.cond x16 hf36 (fun hc40 => ?_) (fun hc40 => ?_)
      · replace hj39 := ip hj39 hc40
        refine W.region ?_
        refine WL.val (Value.int .i64 (2 : Int)) _ (op_assign rfl) rfl ?_
        refine WL.nil ?_
        obtain rfl := Option.some.inj hj39
        exact ⟨hf32, hf33, hf34, rfl, (inR_i64.2 (show (-9223372036854775808 : Int) ≤ 2 ∧ (2 : Int) ≤ 9223372036854775807 from by decide)), hS37⟩
      · replace hj39 := inegb hj39 hc40
        refine W.skip ?_
        obtain rfl := Option.some.inj hj39
        exact ⟨hf32, hf33, hf34, hf35, hr11, hS37⟩
    · intro f41 wd42 hq43
      obtain ⟨hf44, hf45, hf46, hf47, hr48, hS49⟩ := hq43
      show W _ _ _ _ _ _
      refine W.seq ?_
      refine W.seq ?_
      refine W.region ?_
      refine WL.val (Value.int .i64 x38) _ (op_move hf47) rfl ?_
      refine WL.val (Value.bool (x38 != (0 : Int))) _ (op_neq rfl rfl) rfl ?_
      refine WL.nil ?_
      show W _ _ _ _ _ _
      refine W.cond (x38 != (0 : Int)) rfl (fun hc50 => ?_) (fun hc50 => ?_)
      · replace h := ip h hc50
        refine W.seq ?_
        refine W.region ?_
        refine WL.val (Value.int .i64 x38) _ (op_move hf47) rfl ?_
        refine WL.val (Value.int .i64 (0 : Int)) _ (op_assign rfl) rfl ?_
        refine WL.val (Value.int .i64 x38) _ (op_assign rfl) rfl ?_
        refine WL.nil ?_
        show W _ _ _ _ _ _
        refine W.ret ?_
        obtain rfl := Option.some.inj h
        show FinP _ _ _ _ _ _ _
        exact FinP.ret _ (res2 rfl rfl rfl) ⟨rfl, (inR_i64.2 (show (-9223372036854775808 : Int) ≤ 0 ∧ (0 : Int) ≤ 9223372036854775807 from by decide)), hr48, (Ext.trans hE7 hS49.ext)⟩
      · replace h := inegb h hc50
        refine W.skip ?_
        show W _ _ _ _ _ _
        refine W.seq ?_
        refine W.seq ?_
        obtain ⟨x69, hx72, h⟩ := bs h
        obtain ⟨ha70, hb71, hx72⟩ := idx_some hx72
        obtain ⟨u83, hc84, hr85⟩ := repSl.el r_path hx72
        obtain ⟨rfl, hr85⟩ := hr85
        obtain ⟨x103, hx106, h⟩ := bs h
        obtain ⟨ha104, hb105, hx106⟩ := idx_some hx106
        obtain ⟨u117, hc118, hr119⟩ := repSl.el r_labels hx106
        obtain ⟨rfl, hr119⟩ := hr119
        obtain ⟨x146, hj147, h⟩ := bs h
        refine W.cutCode (fun fq wq => fq 1 = v_labels ∧ fq 2 = v_path ∧ fq 3 = (Value.pointer (some ⟨b1, 0, none⟩)) ∧ fq 51 = Value.bool x146 ∧ St wd2 wq []) ?_ ?_
        · rcases Bool.eq_false_or_eq_true (x69 != x103) with hc148 | hc148
          · replace hj147 := ip hj147 hc148
            refine W.drawR mixo 12 [] [fun _ v _ _ => v = v_path, fun _ v _ _ => v = (Value.pointer (some (elA v_path ((0 : Int)).toNat))), fun _ v _ _ => v = (Value.int .i64 x69) ∧ InR .i64 x69, fun _ v _ _ => v = v_labels, fun _ v _ _ => v = (Value.pointer (some (elA v_labels ((0 : Int)).toNat))), fun _ v _ _ => v = (Value.int .i64 x103) ∧ InR .i64 x103, fun _ v _ _ => v = (Value.bool (x69 != x103)), fun _ v _ _ => v = (Value.bool (x69 != x103)), fun _ v _ _ => v = undef, fun _ v _ _ => v = undef, fun _ v _ _ => v = undef, fun _ v _ _ => v = undef] (by kernel_rfl) (by kernel_rfl) ⟨⟨fun _ _ _ _ _ _ h => h, fun _ _ _ _ _ _ h => h⟩, ⟨fun _ _ _ _ _ _ h => h, fun _ _ _ _ _ _ h => h⟩, ⟨fun _ _ _ _ _ _ h => h, fun _ _ _ _ _ _ h => h⟩, ⟨fun _ _ _ _ _ _ h => h, fun _ _ _ _ _ _ h => h⟩, ⟨fun _ _ _ _ _ _ h => h, fun _ _ _ _ _ _ h => h⟩, ⟨fun _ _ _ _ _ _ h => h, fun _ _ _ _ _ _ h => h⟩, ⟨fun _ _ _ _ _ _ h => h, fun _ _ _ _ _ _ h => h⟩, ⟨fun _ _ _ _ _ _ h => h, fun _ _ _ _ _ _ h => h⟩, ⟨fun _ _ _ _ _ _ h => h, fun _ _ _ _ _ _ h => h⟩, ⟨fun _ _ _ _ _ _ h => h, fun _ _ _ _ _ _ h => h⟩, ⟨fun _ _ _ _ _ _ h => h, fun _ _ _ _ _ _ h => h⟩, ⟨fun _ _ _ _ _ _ h => h, fun _ _ _ _ _ _ h => h⟩, trivial⟩ ⟨?_, ?_, ?_, ?_, ?_, ?_, ?_, ?_, ?_, ?_, ?_, ?_, trivial⟩ ?_
            · refine ObX.op rfl ?_
              intro f52 wd53 he54 hout55 hphi56
              have hS57 : St wd2 wd53 [] := St.extend hS49 he54
              have e58 : f52 2 = v_path := (hout55 2 rfl).trans hf45
              exact OpX.val v_path wd53 rfl (op_move e58) (Ext.refl _) rfl
            · refine ObX.op rfl ?_
              intro f59 wd60 he61 hout62 hphi63
              have hS64 : St wd2 wd60 [] := St.extend hS49 he61
              obtain ⟨S65, hS66, hf67⟩ := hphi63 0 36 _ rfl rfl rfl
              have e68 : f59 36 = v_path := hf67
              exact OpX.val (Value.pointer (some (elA v_path ((0 : Int)).toNat))) wd60 rfl (op_idx sl_25 (Ty.lift _ (Ext.trans hE7 hS64.ext) r_path) e68 rfl ha70 hb71) (Ext.refl _) rfl
            · refine ObX.op rfl ?_
              intro f73 wd74 he75 hout76 hphi77
              have hS78 : St wd2 wd74 [] := St.extend hS49 he75
              obtain ⟨S79, hS80, hf81⟩ := hphi77 1 37 _ rfl rfl rfl
              have e82 : f73 37 = (Value.pointer (some (elA v_path ((0 : Int)).toNat))) := hf81
              exact OpX.val (Value.int .i64 x69) wd74 rfl (op_load one_2 e82 (Ext.cell (Ext.trans hE7 hS78.ext) hc84)) (Ext.refl _) ⟨rfl, hr85⟩
            · refine ObX.op rfl ?_
              intro f86 wd87 he88 hout89 hphi90
              have hS91 : St wd2 wd87 [] := St.extend hS49 he88
              have e92 : f86 1 = v_labels := (hout89 1 rfl).trans hf44
              exact OpX.val v_labels wd87 rfl (op_move e92) (Ext.refl _) rfl
            · refine ObX.op rfl ?_
              intro f93 wd94 he95 hout96 hphi97
              have hS98 : St wd2 wd94 [] := St.extend hS49 he95
              obtain ⟨S99, hS100, hf101⟩ := hphi97 3 39 _ rfl rfl rfl
              have e102 : f93 39 = v_labels := hf101
              exact OpX.val (Value.pointer (some (elA v_labels ((0 : Int)).toNat))) wd94 rfl (op_idx sl_25 (Ty.lift _ (Ext.trans hE7 hS98.ext) r_labels) e102 rfl ha104 hb105) (Ext.refl _) rfl
            · refine ObX.op rfl ?_
              intro f107 wd108 he109 hout110 hphi111
              have hS112 : St wd2 wd108 [] := St.extend hS49 he109
              obtain ⟨S113, hS114, hf115⟩ := hphi111 4 40 _ rfl rfl rfl
              have e116 : f107 40 = (Value.pointer (some (elA v_labels ((0 : Int)).toNat))) := hf115
              exact OpX.val (Value.int .i64 x103) wd108 rfl (op_load one_2 e116 (Ext.cell (Ext.trans hE7 hS112.ext) hc118)) (Ext.refl _) ⟨rfl, hr119⟩
            · refine ObX.op rfl ?_
              intro f120 wd121 he122 hout123 hphi124
              have hS125 : St wd2 wd121 [] := St.extend hS49 he122
              obtain ⟨S126, hS127, hf128⟩ := hphi124 2 38 _ rfl rfl rfl
              obtain ⟨e129, hr130⟩ : f120 38 = (Value.int .i64 x69) ∧ InR .i64 x69 := hf128
              obtain ⟨S131, hS132, hf133⟩ := hphi124 5 41 _ rfl rfl rfl
              obtain ⟨e134, hr135⟩ : f120 41 = (Value.int .i64 x103) ∧ InR .i64 x103 := hf133
              exact OpX.val (Value.bool (x69 != x103)) wd121 rfl (op_neq e129 e134) (Ext.refl _) rfl
            · refine ObX.op rfl ?_
              intro f136 wd137 he138 hout139 hphi140
              have hS141 : St wd2 wd137 [] := St.extend hS49 he138
              obtain ⟨S142, hS143, hf144⟩ := hphi140 6 42 _ rfl rfl rfl
              have e145 : f136 42 = (Value.bool (x69 != x103)) := hf144
              exact OpX.val (Value.bool (x69 != x103)) wd137 rfl (op_move e145) (Ext.refl _) rfl
            · refine ObX.op rfl ?_
              intro f149 wd150 he151 hout152 hphi153
              obtain ⟨S154, hS155, hf156⟩ := hphi153 7 43 _ rfl rfl rfl
              have e157 : f149 43 = (Value.bool (x69 != x103)) := hf156
              exact OpX.skip (wanted_skip rfl rfl e157 hc148) rfl
            · refine ObX.op rfl ?_
              intro f158 wd159 he160 hout161 hphi162
              obtain ⟨S163, hS164, hf165⟩ := hphi162 7 43 _ rfl rfl rfl
              have e166 : f158 43 = (Value.bool (x69 != x103)) := hf165
              exact OpX.skip (wanted_skip rfl rfl e166 hc148) rfl
            · refine ObX.op rfl ?_
              intro f167 wd168 he169 hout170 hphi171
              obtain ⟨S172, hS173, hf174⟩ := hphi171 7 43 _ rfl rfl rfl
              have e175 : f167 43 = (Value.bool (x69 != x103)) := hf174
              exact OpX.skip (wanted_skip rfl rfl e175 hc148) rfl
            · refine ObX.op rfl ?_
              intro f176 wd177 he178 hout179 hphi180
              obtain ⟨S181, hS182, hf183⟩ := hphi180 7 43 _ rfl rfl rfl
              have e184 : f176 43 = (Value.bool (x69 != x103)) := hf183
              exact OpX.skip (wanted_skip rfl rfl e184 hc148) rfl
            · intro f185 wd186 Ss187 he188 hout189 hSn190 hSd191 hphi192
              show WL _ _ _ _ _ _ _
              have hS193 : St wd2 wd186 [] := St.extend hS49 he188
              have e194 : f185 43 = (Value.bool (x69 != x103)) := hphi192 7 43 _ (by decide) rfl rfl
              have e195 : f185 44 = undef := hphi192 8 44 _ (by decide) rfl rfl
              have e196 : f185 47 = undef := hphi192 11 47 _ (by decide) rfl rfl
              have e197 : f185 1 = v_labels := (hout189 1 rfl).trans hf44
              have e198 : f185 2 = v_path := (hout189 2 rfl).trans hf45
              have e199 : f185 3 = (Value.pointer (some ⟨b1, 0, none⟩)) := (hout189 3 rfl).trans hf46
              refine WL.gskip rfl (bool_of e194 hc148) rfl ?_
              refine WL.gskip rfl (bool_of e194 hc148) rfl ?_
              refine WL.gskip rfl (bool_of e194 hc148) rfl ?_
              refine WL.val (Value.bool true) _ (op_pick_t (evb_of e194 hc148) rfl) rfl ?_
              refine WL.nil ?_
              obtain rfl := Option.some.inj hj147
              exact ⟨e197, e198, e199, rfl, hS193⟩
          · replace hj147 := inegb hj147 hc148
            refine W.drawR mixo 12 [] [fun _ v _ _ => v = v_path, fun _ v _ _ => v = (Value.pointer (some (elA v_path ((0 : Int)).toNat))), fun _ v _ _ => v = (Value.int .i64 x69) ∧ InR .i64 x69, fun _ v _ _ => v = v_labels, fun _ v _ _ => v = (Value.pointer (some (elA v_labels ((0 : Int)).toNat))), fun _ v _ _ => v = (Value.int .i64 x103) ∧ InR .i64 x103, fun _ v _ _ => v = (Value.bool (x69 != x103)), fun _ v _ _ => v = (Value.bool (x69 != x103)), fun _ v _ _ => v = v_path, fun _ v _ _ => v = v_path, fun _ v _ _ => v = (Value.int .i64 ((path).length : Int)) ∧ InR .i64 ((path).length : Int), fun _ v _ _ => v = (Value.int .i64 (w64 (((path).length : Int) - (1 : Int)))) ∧ InR .i64 (w64 (((path).length : Int) - (1 : Int)))] (by kernel_rfl) (by kernel_rfl) ⟨⟨fun _ _ _ _ _ _ h => h, fun _ _ _ _ _ _ h => h⟩, ⟨fun _ _ _ _ _ _ h => h, fun _ _ _ _ _ _ h => h⟩, ⟨fun _ _ _ _ _ _ h => h, fun _ _ _ _ _ _ h => h⟩, ⟨fun _ _ _ _ _ _ h => h, fun _ _ _ _ _ _ h => h⟩, ⟨fun _ _ _ _ _ _ h => h, fun _ _ _ _ _ _ h => h⟩, ⟨fun _ _ _ _ _ _ h => h, fun _ _ _ _ _ _ h => h⟩, ⟨fun _ _ _ _ _ _ h => h, fun _ _ _ _ _ _ h => h⟩, ⟨fun _ _ _ _ _ _ h => h, fun _ _ _ _ _ _ h => h⟩, ⟨fun _ _ _ _ _ _ h => h, fun _ _ _ _ _ _ h => h⟩, ⟨fun _ _ _ _ _ _ h => h, fun _ _ _ _ _ _ h => h⟩, ⟨fun _ _ _ _ _ _ h => h, fun _ _ _ _ _ _ h => h⟩, ⟨fun _ _ _ _ _ _ h => h, fun _ _ _ _ _ _ h => h⟩, trivial⟩ ⟨?_, ?_, ?_, ?_, ?_, ?_, ?_, ?_, ?_, ?_, ?_, ?_, trivial⟩ ?_
            · refine ObX.op rfl ?_
              intro f52 wd53 he54 hout55 hphi56
              have hS57 : St wd2 wd53 [] := St.extend hS49 he54
              have e58 : f52 2 = v_path := (hout55 2 rfl).trans hf45
              exact OpX.val v_path wd53 rfl (op_move e58) (Ext.refl _) rfl
            · refine ObX.op rfl ?_
              intro f59 wd60 he61 hout62 hphi63
              have hS64 : St wd2 wd60 [] := St.extend hS49 he61
              obtain ⟨S65, hS66, hf67⟩ := hphi63 0 36 _ rfl rfl rfl
              have e68 : f59 36 = v_path := hf67
              exact OpX.val (Value.pointer (some (elA v_path ((0 : Int)).toNat))) wd60 rfl (op_idx sl_25 (Ty.lift _ (Ext.trans hE7 hS64.ext) r_path) e68 rfl ha70 hb71) (Ext.refl _) rfl
            · refine ObX.op rfl ?_
              intro f73 wd74 he75 hout76 hphi77
              have hS78 : St wd2 wd74 [] := St.extend hS49 he75
              obtain ⟨S79, hS80, hf81⟩ := hphi77 1 37 _ rfl rfl rfl
              have e82 : f73 37 = (Value.pointer (some (elA v_path ((0 : Int)).toNat))) := hf81
              exact OpX.val (Value.int .i64 x69) wd74 rfl (op_load one_2 e82 (Ext.cell (Ext.trans hE7 hS78.ext) hc84)) (Ext.refl _) ⟨rfl, hr85⟩
            · refine ObX.op rfl ?_
              intro f86 wd87 he88 hout89 hphi90
              have hS91 : St wd2 wd87 [] := St.extend hS49 he88
              have e92 : f86 1 = v_labels := (hout89 1 rfl).trans hf44
              exact OpX.val v_labels wd87 rfl (op_move e92) (Ext.refl _) rfl
            · refine ObX.op rfl ?_
              intro f93 wd94 he95 hout96 hphi97
              have hS98 : St wd2 wd94 [] := St.extend hS49 he95
              obtain ⟨S99, hS100, hf101⟩ := hphi97 3 39 _ rfl rfl rfl
              have e102 : f93 39 = v_labels := hf101
              exact OpX.val (Value.pointer (some (elA v_labels ((0 : Int)).toNat))) wd94 rfl (op_idx sl_25 (Ty.lift _ (Ext.trans hE7 hS98.ext) r_labels) e102 rfl ha104 hb105) (Ext.refl _) rfl
            · refine ObX.op rfl ?_
              intro f107 wd108 he109 hout110 hphi111
              have hS112 : St wd2 wd108 [] := St.extend hS49 he109
              obtain ⟨S113, hS114, hf115⟩ := hphi111 4 40 _ rfl rfl rfl
              have e116 : f107 40 = (Value.pointer (some (elA v_labels ((0 : Int)).toNat))) := hf115
              exact OpX.val (Value.int .i64 x103) wd108 rfl (op_load one_2 e116 (Ext.cell (Ext.trans hE7 hS112.ext) hc118)) (Ext.refl _) ⟨rfl, hr119⟩
            · refine ObX.op rfl ?_
              intro f120 wd121 he122 hout123 hphi124
              have hS125 : St wd2 wd121 [] := St.extend hS49 he122
              obtain ⟨S126, hS127, hf128⟩ := hphi124 2 38 _ rfl rfl rfl
              obtain ⟨e129, hr130⟩ : f120 38 = (Value.int .i64 x69) ∧ InR .i64 x69 := hf128
              obtain ⟨S131, hS132, hf133⟩ := hphi124 5 41 _ rfl rfl rfl
              obtain ⟨e134, hr135⟩ : f120 41 = (Value.int .i64 x103) ∧ InR .i64 x103 := hf133
              exact OpX.val (Value.bool (x69 != x103)) wd121 rfl (op_neq e129 e134) (Ext.refl _) rfl
            · refine ObX.op rfl ?_
              intro f136 wd137 he138 hout139 hphi140
              have hS141 : St wd2 wd137 [] := St.extend hS49 he138
              obtain ⟨S142, hS143, hf144⟩ := hphi140 6 42 _ rfl rfl rfl
              have e145 : f136 42 = (Value.bool (x69 != x103)) := hf144
              exact OpX.val (Value.bool (x69 != x103)) wd137 rfl (op_move e145) (Ext.refl _) rfl
            · refine ObX.op rfl ?_
              intro f200 wd201 he202 hout203 hphi204
              have hS205 : St wd2 wd201 [] := St.extend hS49 he202
              have e206 : f200 2 = v_path := (hout203 2 rfl).trans hf45
              obtain ⟨S207, hS208, hf209⟩ := hphi204 7 43 _ rfl rfl rfl
              have e210 : f200 43 = (Value.bool (x69 != x103)) := hf209
              exact OpX.val v_path wd201 (wanted_run rfl rfl e210 hc148) (op_move e206) (Ext.refl _) rfl
            · refine ObX.op rfl ?_
              intro f211 wd212 he213 hout214 hphi215
              have hS216 : St wd2 wd212 [] := St.extend hS49 he213
              have e217 : f211 2 = v_path := (hout214 2 rfl).trans hf45
              obtain ⟨S218, hS219, hf220⟩ := hphi215 7 43 _ rfl rfl rfl
              have e221 : f211 43 = (Value.bool (x69 != x103)) := hf220
              exact OpX.val v_path wd212 (wanted_run rfl rfl e221 hc148) (op_move e217) (Ext.refl _) rfl
            · refine ObX.op rfl ?_
              intro f222 wd223 he224 hout225 hphi226
              have hS227 : St wd2 wd223 [] := St.extend hS49 he224
              obtain ⟨S228, hS229, hf230⟩ := hphi226 7 43 _ rfl rfl rfl
              have e231 : f222 43 = (Value.bool (x69 != x103)) := hf230
              obtain ⟨S232, hS233, hf234⟩ := hphi226 9 45 _ rfl rfl rfl
              have e235 : f222 45 = v_path := hf234
              have hr236 := inR_len (Ty.lift _ (Ext.trans hE7 hS227.ext) r_path)
              exact OpX.val (Value.int .i64 ((path).length : Int)) wd223 (wanted_run rfl rfl e231 hc148) (op_lenL sl_25 (Ty.lift _ (Ext.trans hE7 hS227.ext) r_path) e235) (Ext.refl _) ⟨rfl, hr236⟩
            · refine ObX.op rfl ?_
              intro f237 wd238 he239 hout240 hphi241
              have hS242 : St wd2 wd238 [] := St.extend hS49 he239
              obtain ⟨S243, hS244, hf245⟩ := hphi241 7 43 _ rfl rfl rfl
              have e246 : f237 43 = (Value.bool (x69 != x103)) := hf245
              obtain ⟨S247, hS248, hf249⟩ := hphi241 10 46 _ rfl rfl rfl
              obtain ⟨e250, hr251⟩ : f237 46 = (Value.int .i64 ((path).length : Int)) ∧ InR .i64 ((path).length : Int) := hf249
              exact OpX.val (Value.int .i64 (w64 (((path).length : Int) - (1 : Int)))) wd238 (wanted_run rfl rfl e246 hc148) (op_sub e250 rfl) (Ext.refl _) ⟨rfl, (inR_wrap _ _)⟩
            · intro f252 wd253 Ss254 he255 hout256 hSn257 hSd258 hphi259
              show WL _ _ _ _ _ _ _
              have hS260 : St wd2 wd253 [] := St.extend hS49 he255
              have e261 : f252 43 = (Value.bool (x69 != x103)) := hphi259 7 43 _ (by decide) rfl rfl
              have e262 : f252 44 = v_path := hphi259 8 44 _ (by decide) rfl rfl
              obtain ⟨e263, hr264⟩ : f252 47 = (Value.int .i64 (w64 (((path).length : Int) - (1 : Int)))) ∧ InR .i64 (w64 (((path).length : Int) - (1 : Int))) := hphi259 11 47 _ (by decide) rfl rfl
              have e265 : f252 1 = v_labels := (hout256 1 rfl).trans hf44
              have e266 : f252 2 = v_path := (hout256 2 rfl).trans hf45
              have e267 : f252 3 = (Value.pointer (some ⟨b1, 0, none⟩)) := (hout256 3 rfl).trans hf46
              refine WL.grun rfl (bool_of e261 hc148) ?_
              obtain ⟨x268, hx271, hj147⟩ := bs hj147
              obtain ⟨ha269, hb270, hx271⟩ := idx_some hx271
              refine WL.val (Value.pointer (some (elA v_path ((w64 (((path).length : Int) - (1 : Int)))).toNat))) _ (op_idx sl_25 (Ty.lift _ (Ext.trans hE7 hS260.ext) r_path) e262 e263 ha269 hb270) rfl ?_
              refine WL.grun rfl (bool_of e261 hc148) ?_
              obtain ⟨u272, hc273, hr274⟩ := repSl.el r_path hx271
              obtain ⟨rfl, hr274⟩ := hr274
              refine WL.val (Value.int .i64 x268) _ (op_load one_2 rfl (Ext.cell (Ext.trans hE7 hS260.ext) hc273)) rfl ?_
              refine WL.grun rfl (bool_of e261 hc148) ?_
              refine WL.val (Value.bool (x268 != (0 : Int))) _ (op_neq rfl rfl) rfl ?_
              refine WL.val (Value.bool (x268 != (0 : Int))) _ (op_pick_f (evb_of e261 hc148) rfl) rfl ?_
              refine WL.nil ?_
              obtain rfl := Option.some.inj hj147
              exact ⟨e265, e266, e267, rfl, hS260⟩
        · intro f275 wd276 hq277
          obtain ⟨hf278, hf279, hf280, hf281, hS282⟩ := hq277
          show W _ _ _ _ _ _
          refine W.cond x146 hf281 (fun hc283 => ?_) (fun hc283 => ?_)
          · replace h := ip h hc283
            refine W.seq ?_
            refine W.region ?_
            refine WL.val (Value.int .i64 (0 : Int)) _ (op_assign rfl) rfl ?_
            refine WL.val (Value.int .i64 (0 : Int)) _ (op_assign rfl) rfl ?_
            refine WL.nil ?_
            show W _ _ _ _ _ _
            refine W.ret ?_
            obtain rfl := Option.some.inj h
            show FinP _ _ _ _ _ _ _
            exact FinP.ret _ (res2 rfl rfl rfl) ⟨rfl, (inR_i64.2 (show (-9223372036854775808 : Int) ≤ 0 ∧ (0 : Int) ≤ 9223372036854775807 from by decide)), (inR_i64.2 (show (-9223372036854775808 : Int) ≤ 0 ∧ (0 : Int) ≤ 9223372036854775807 from by decide)), (Ext.trans hE7 hS282.ext)⟩
          · replace h := inegb h hc283
            refine W.skip ?_
            show W _ _ _ _ _ _
            refine W.seq ?_
            refine W.seq ?_
            refine W.region ?_
            refine WL.val (Value.int .i64 (1 : Int)) _ (op_assign rfl) rfl ?_
            refine WL.nil ?_
            show W _ _ _ _ _ _
            obtain ⟨res285, hres286, h⟩ := bs h
            refine W.blockLoop (fun fq wq => ∃ s, res285 = Res.fin s ∧ fq 1 = v_labels ∧ fq 2 = v_path ∧ fq 3 = (Value.pointer (some ⟨b1, 0, none⟩)) ∧ St wd2 wq []) ?_ ?_
            · refine W.forN (fun k (s : Unit) fq wq => fq 1 = v_labels ∧ fq 2 = v_path ∧ fq 3 = (Value.pointer (some ⟨b1, 0, none⟩)) ∧ fq 9 = Value.int .i64 ((1 : Int) + (k : Int)) ∧ InR .i64 ((1 : Int) + (k : Int)) ∧ St wd2 wq []) hres286 ⟨hf278, hf279, hf280, rfl, (inR_i64.2 (show (-9223372036854775808 : Int) ≤ 1 ∧ (1 : Int) ≤ 9223372036854775807 from by decide)), hS282⟩ ?_ ?_
              · intro k287 s560 ct288 f289 wd290 hk291 hb292 hI293 hbrk294 hret295
                obtain ⟨⟩ := s560
                replace hI293 : f289 1 = v_labels ∧ f289 2 = v_path ∧ f289 3 = (Value.pointer (some ⟨b1, 0, none⟩)) ∧ f289 9 = Value.int .i64 ((1 : Int) + (k287 : Int)) ∧ InR .i64 ((1 : Int) + (k287 : Int)) ∧ St wd2 wd290 [] := hI293
                replace hb292 : p_spec_PathWeight_L1 path r_Table labels k287  = some ct288 := hb292
                unfold p_spec_PathWeight_L1 at hb292
                obtain ⟨hf296, hf297, hf298, hf299, hr300, hS301⟩ := hI293
                refine W.seq ?_
                refine W.seq ?_
                refine W.region ?_
                refine WL.val (Value.int .i64 ((1 : Int) + (k287 : Int))) _ (op_move hf299) rfl ?_
                refine WL.val v_path _ (op_move hf297) rfl ?_
                have hr302 := inR_len (Ty.lift _ (Ext.trans hE7 hS301.ext) r_path)
                refine WL.val (Value.int .i64 ((path).length : Int)) _ (op_lenL sl_25 (Ty.lift _ (Ext.trans hE7 hS301.ext) r_path) rfl) rfl ?_
                refine WL.val (Value.bool (decide (((1 : Int) + (k287 : Int)) < ((path).length : Int)))) _ (op_lss rfl rfl) rfl ?_
                have hl303 : ((1 : Int) + (k287 : Int)) < ((path).length : Int) := by omega
                refine WL.nil ?_
                show W _ _ _ _ _ _
                refine W.condT (decide (((1 : Int) + (k287 : Int)) < ((path).length : Int))) rfl (decide_eq_true hl303) ?_
                refine W.skip ?_
                show W _ _ _ _ _ _
                refine W.seq ?_
                refine W.block ?_
                refine W.seq ?_
                obtain ⟨x362, hx365, hb292⟩ := bs hb292
                obtain ⟨ha363, hb364, hx365⟩ := idx_some hx365
                obtain ⟨u376, hc377, hr378⟩ := repSl.el r_path hx365
                obtain ⟨rfl, hr378⟩ := hr378
                obtain ⟨x394, hx397, hb292⟩ := bs hb292
                obtain ⟨ha395, hb396, hx397⟩ := idx_some hx397
                obtain ⟨u408, hc409, hr410⟩ := repSl.el r_r_Table hx397
                obtain ⟨x440, hx443, hb292⟩ := bs hb292
                obtain ⟨ha441, hb442, hx443⟩ := idx_some hx443
                obtain ⟨u454, hc455, hr456⟩ := repSl.el r_labels hx443
                obtain ⟨rfl, hr456⟩ := hr456
                obtain ⟨x472, hx475, hb292⟩ := bs hb292
                obtain ⟨ha473, hb474, hx475⟩ := idx_some hx475
                obtain ⟨u486, hc487, hr488⟩ := repSl.el hr410 hx475
                obtain ⟨x518, hx521, hb292⟩ := bs hb292
                obtain ⟨ha519, hb520, hx521⟩ := idx_some hx521
                obtain ⟨u532, hc533, hr534⟩ := repSl.el r_path hx521
                obtain ⟨rfl, hr534⟩ := hr534
                refine W.drawR mixo 19 [] [fun _ v _ _ => v = (Value.pointer (some ⟨b1, 0, none⟩)), fun _ v _ _ => v = v_r_Table, fun _ v _ _ => v = v_path, fun _ v _ _ => v = (Value.int .i64 ((1 : Int) + (k287 : Int))) ∧ InR .i64 ((1 : Int) + (k287 : Int)), fun _ v _ _ => v = (Value.int .i64 (w64 (((1 : Int) + (k287 : Int)) - (1 : Int)))) ∧ InR .i64 (w64 (((1 : Int) + (k287 : Int)) - (1 : Int))), fun _ v _ _ => v = (Value.pointer (some (elA v_path ((w64 (((1 : Int) + (k287 : Int)) - (1 : Int)))).toNat))), fun _ v _ _ => v = (Value.int .i64 x362) ∧ InR .i64 x362, fun _ v _ _ => v = (Value.pointer (some (elA v_r_Table (x362).toNat))), fun _ v _ _ => v = u408, fun _ v _ _ => v = v_labels, fun _ v _ _ => v = (Value.int .i64 ((1 : Int) + (k287 : Int))) ∧ InR .i64 ((1 : Int) + (k287 : Int)), fun _ v _ _ => v = (Value.pointer (some (elA v_labels (((1 : Int) + (k287 : Int))).toNat))), fun _ v _ _ => v = (Value.int .i64 x440) ∧ InR .i64 x440, fun _ v _ _ => v = (Value.pointer (some (elA u408 (x440).toNat))), fun _ v _ _ => v = u486, fun _ v _ _ => v = v_path, fun _ v _ _ => v = (Value.int .i64 ((1 : Int) + (k287 : Int))) ∧ InR .i64 ((1 : Int) + (k287 : Int)), fun _ v _ _ => v = (Value.pointer (some (elA v_path (((1 : Int) + (k287 : Int))).toNat))), fun _ v _ _ => v = (Value.int .i64 x518) ∧ InR .i64 x518] (by kernel_rfl) (by kernel_rfl) ⟨⟨fun _ _ _ _ _ _ h => h, fun _ _ _ _ _ _ h => h⟩, ⟨fun _ _ _ _ _ _ h => h, fun _ _ _ _ _ _ h => h⟩, ⟨fun _ _ _ _ _ _ h => h, fun _ _ _ _ _ _ h => h⟩, ⟨fun _ _ _ _ _ _ h => h, fun _ _ _ _ _ _ h => h⟩, ⟨fun _ _ _ _ _ _ h => h, fun _ _ _ _ _ _ h => h⟩, ⟨fun _ _ _ _ _ _ h => h, fun _ _ _ _ _ _ h => h⟩, ⟨fun _ _ _ _ _ _ h => h, fun _ _ _ _ _ _ h => h⟩, ⟨fun _ _ _ _ _ _ h => h, fun _ _ _ _ _ _ h => h⟩, ⟨fun _ _ _ _ _ _ h => h, fun _ _ _ _ _ _ h => h⟩, ⟨fun _ _ _ _ _ _ h => h, fun _ _ _ _ _ _ h => h⟩, ⟨fun _ _ _ _ _ _ h => h, fun _ _ _ _ _ _ h => h⟩, ⟨fun _ _ _ _ _ _ h => h, fun _ _ _ _ _ _ h => h⟩, ⟨fun _ _ _ _ _ _ h => h, fun _ _ _ _ _ _ h => h⟩, ⟨fun _ _ _ _ _ _ h => h, fun _ _ _ _ _ _ h => h⟩, ⟨fun _ _ _ _ _ _ h => h, fun _ _ _ _ _ _ h => h⟩, ⟨fun _ _ _ _ _ _ h => h, fun _ _ _ _ _ _ h => h⟩, ⟨fun _ _ _ _ _ _ h => h, fun _ _ _ _ _ _ h => h⟩, ⟨fun _ _ _ _ _ _ h => h, fun _ _ _ _ _ _ h => h⟩, ⟨fun _ _ _ _ _ _ h => h, fun _ _ _ _ _ _ h => h⟩, trivial⟩ ⟨?_, ?_, ?_, ?_, ?_, ?_, ?_, ?_, ?_, ?_, ?_, ?_, ?_, ?_, ?_, ?_, ?_, ?_, ?_, trivial⟩ ?_
                · refine ObX.op rfl ?_
                  intro f305 wd306 he307 hout308 hphi309
                  have hS310 : St wd2 wd306 [] := St.extend hS301 he307
                  have e311 : f305 3 = (Value.pointer (some ⟨b1, 0, none⟩)) := (hout308 3 rfl).trans hf298
                  exact OpX.val (Value.pointer (some ⟨b1, 0, none⟩)) wd306 rfl (op_fieldAddr fd_29_0 e311) (Ext.refl _) rfl
                · refine ObX.op rfl ?_
                  intro f312 wd313 he314 hout315 hphi316
                  have hS317 : St wd2 wd313 [] := St.extend hS301 he314
                  obtain ⟨S318, hS319, hf320⟩ := hphi316 0 58 _ rfl rfl rfl
                  have e321 : f312 58 = (Value.pointer (some ⟨b1, 0, none⟩)) := hf320
                  exact OpX.val v_r_Table wd313 rfl (op_load one_22 e321 (BoxAt.cell (BoxAt.lift hS317.ext hx6) rfl)) (Ext.refl _) rfl
                · refine ObX.op rfl ?_
                  intro f322 wd323 he324 hout325 hphi326
                  have hS327 : St wd2 wd323 [] := St.extend hS301 he324
                  have e328 : f322 2 = v_path := (hout325 2 rfl).trans hf297
                  exact OpX.val v_path wd323 rfl (op_move e328) (Ext.refl _) rfl
                · refine ObX.op rfl ?_
                  intro f329 wd330 he331 hout332 hphi333
                  have hS334 : St wd2 wd330 [] := St.extend hS301 he331
                  have e335 : f329 9 = (Value.int .i64 ((1 : Int) + (k287 : Int))) := (hout332 9 rfl).trans hf299
                  exact OpX.val (Value.int .i64 ((1 : Int) + (k287 : Int))) wd330 rfl (op_move e335) (Ext.refl _) ⟨rfl, hr300⟩
                · refine ObX.op rfl ?_
                  intro f336 wd337 he338 hout339 hphi340
                  have hS341 : St wd2 wd337 [] := St.extend hS301 he338
                  obtain ⟨S342, hS343, hf344⟩ := hphi340 3 61 _ rfl rfl rfl
                  obtain ⟨e345, hr346⟩ : f336 61 = (Value.int .i64 ((1 : Int) + (k287 : Int))) ∧ InR .i64 ((1 : Int) + (k287 : Int)) := hf344
                  exact OpX.val (Value.int .i64 (w64 (((1 : Int) + (k287 : Int)) - (1 : Int)))) wd337 rfl (op_sub e345 rfl) (Ext.refl _) ⟨rfl, (inR_wrap _ _)⟩
                · refine ObX.op rfl ?_
                  intro f347 wd348 he349 hout350 hphi351
                  have hS352 : St wd2 wd348 [] := St.extend hS301 he349
                  obtain ⟨S353, hS354, hf355⟩ := hphi351 2 60 _ rfl rfl rfl
                  have e356 : f347 60 = v_path := hf355
                  obtain ⟨S357, hS358, hf359⟩ := hphi351 4 62 _ rfl rfl rfl
                  obtain ⟨e360, hr361⟩ : f347 62 = (Value.int .i64 (w64 (((1 : Int) + (k287 : Int)) - (1 : Int)))) ∧ InR .i64 (w64 (((1 : Int) + (k287 : Int)) - (1 : Int))) := hf359
                  exact OpX.val (Value.pointer (some (elA v_path ((w64 (((1 : Int) + (k287 : Int)) - (1 : Int)))).toNat))) wd348 rfl (op_idx sl_25 (Ty.lift _ (Ext.trans hE7 hS352.ext) r_path) e356 e360 ha363 hb364) (Ext.refl _) rfl
                · refine ObX.op rfl ?_
                  intro f366 wd367 he368 hout369 hphi370
                  have hS371 : St wd2 wd367 [] := St.extend hS301 he368
                  obtain ⟨S372, hS373, hf374⟩ := hphi370 5 63 _ rfl rfl rfl
                  have e375 : f366 63 = (Value.pointer (some (elA v_path ((w64 (((1 : Int) + (k287 : Int)) - (1 : Int)))).toNat))) := hf374
                  exact OpX.val (Value.int .i64 x362) wd367 rfl (op_load one_2 e375 (Ext.cell (Ext.trans hE7 hS371.ext) hc377)) (Ext.refl _) ⟨rfl, hr378⟩
                · refine ObX.op rfl ?_
                  intro f379 wd380 he381 hout382 hphi383
                  have hS384 : St wd2 wd380 [] := St.extend hS301 he381
                  obtain ⟨S385, hS386, hf387⟩ := hphi383 1 59 _ rfl rfl rfl
                  have e388 : f379 59 = v_r_Table := hf387
                  obtain ⟨S389, hS390, hf391⟩ := hphi383 6 64 _ rfl rfl rfl
                  obtain ⟨e392, hr393⟩ : f379 64 = (Value.int .i64 x362) ∧ InR .i64 x362 := hf391
                  exact OpX.val (Value.pointer (some (elA v_r_Table (x362).toNat))) wd380 rfl (op_idx sl_22 (Ty.lift _ (Ext.trans hE7 hS384.ext) r_r_Table) e388 e392 ha395 hb396) (Ext.refl _) rfl
                · refine ObX.op rfl ?_
                  intro f398 wd399 he400 hout401 hphi402
                  have hS403 : St wd2 wd399 [] := St.extend hS301 he400
                  obtain ⟨S404, hS405, hf406⟩ := hphi402 7 65 _ rfl rfl rfl
                  have e407 : f398 65 = (Value.pointer (some (elA v_r_Table (x362).toNat))) := hf406
                  exact OpX.val u408 wd399 rfl (op_load one_65 e407 (Ext.cell (Ext.trans hE7 hS403.ext) hc409)) (Ext.refl _) rfl
                · refine ObX.op rfl ?_
                  intro f411 wd412 he413 hout414 hphi415
                  have hS416 : St wd2 wd412 [] := St.extend hS301 he413
                  have e417 : f411 1 = v_labels := (hout414 1 rfl).trans hf296
                  exact OpX.val v_labels wd412 rfl (op_move e417) (Ext.refl _) rfl
                · refine ObX.op rfl ?_
                  intro f418 wd419 he420 hout421 hphi422
                  have hS423 : St wd2 wd419 [] := St.extend hS301 he420
                  have e424 : f418 9 = (Value.int .i64 ((1 : Int) + (k287 : Int))) := (hout421 9 rfl).trans hf299
                  exact OpX.val (Value.int .i64 ((1 : Int) + (k287 : Int))) wd419 rfl (op_move e424) (Ext.refl _) ⟨rfl, hr300⟩
                · refine ObX.op rfl ?_
                  intro f425 wd426 he427 hout428 hphi429
                  have hS430 : St wd2 wd426 [] := St.extend hS301 he427
                  obtain ⟨S431, hS432, hf433⟩ := hphi429 9 67 _ rfl rfl rfl
                  have e434 : f425 67 = v_labels := hf433
                  obtain ⟨S435, hS436, hf437⟩ := hphi429 10 68 _ rfl rfl rfl
                  obtain ⟨e438, hr439⟩ : f425 68 = (Value.int .i64 ((1 : Int) + (k287 : Int))) ∧ InR .i64 ((1 : Int) + (k287 : Int)) := hf437
                  exact OpX.val (Value.pointer (some (elA v_labels (((1 : Int) + (k287 : Int))).toNat))) wd426 rfl (op_idx sl_25 (Ty.lift _ (Ext.trans hE7 hS430.ext) r_labels) e434 e438 ha441 hb442) (Ext.refl _) rfl
                · refine ObX.op rfl ?_
                  intro f444 wd445 he446 hout447 hphi448
                  have hS449 : St wd2 wd445 [] := St.extend hS301 he446
                  obtain ⟨S450, hS451, hf452⟩ := hphi448 11 69 _ rfl rfl rfl
                  have e453 : f444 69 = (Value.pointer (some (elA v_labels (((1 : Int) + (k287 : Int))).toNat))) := hf452
                  exact OpX.val (Value.int .i64 x440) wd445 rfl (op_load one_2 e453 (Ext.cell (Ext.trans hE7 hS449.ext) hc455)) (Ext.refl _) ⟨rfl, hr456⟩
                · refine ObX.op rfl ?_
                  intro f457 wd458 he459 hout460 hphi461
                  have hS462 : St wd2 wd458 [] := St.extend hS301 he459
                  obtain ⟨S463, hS464, hf465⟩ := hphi461 8 66 _ rfl rfl rfl
                  have e466 : f457 66 = u408 := hf465
                  obtain ⟨S467, hS468, hf469⟩ := hphi461 12 70 _ rfl rfl rfl
                  obtain ⟨e470, hr471⟩ : f457 70 = (Value.int .i64 x440) ∧ InR .i64 x440 := hf469
                  exact OpX.val (Value.pointer (some (elA u408 (x440).toNat))) wd458 rfl (op_idx sl_65 (Ty.lift _ (Ext.trans hE7 hS462.ext) hr410) e466 e470 ha473 hb474) (Ext.refl _) rfl
                · refine ObX.op rfl ?_
                  intro f476 wd477 he478 hout479 hphi480
                  have hS481 : St wd2 wd477 [] := St.extend hS301 he478
                  obtain ⟨S482, hS483, hf484⟩ := hphi480 13 71 _ rfl rfl rfl
                  have e485 : f476 71 = (Value.pointer (some (elA u408 (x440).toNat))) := hf484
                  exact OpX.val u486 wd477 rfl (op_load one_25 e485 (Ext.cell (Ext.trans hE7 hS481.ext) hc487)) (Ext.refl _) rfl
                · refine ObX.op rfl ?_
                  intro f489 wd490 he491 hout492 hphi493
                  have hS494 : St wd2 wd490 [] := St.extend hS301 he491
                  have e495 : f489 2 = v_path := (hout492 2 rfl).trans hf297
                  exact OpX.val v_path wd490 rfl (op_move e495) (Ext.refl _) rfl
                · refine ObX.op rfl ?_
                  intro f496 wd497 he498 hout499 hphi500
                  have hS501 : St wd2 wd497 [] := St.extend hS301 he498
                  have e502 : f496 9 = (Value.int .i64 ((1 : Int) + (k287 : Int))) := (hout499 9 rfl).trans hf299
                  exact OpX.val (Value.int .i64 ((1 : Int) + (k287 : Int))) wd497 rfl (op_move e502) (Ext.refl _) ⟨rfl, hr300⟩
                · refine ObX.op rfl ?_
                  intro f503 wd504 he505 hout506 hphi507
                  have hS508 : St wd2 wd504 [] := St.extend hS301 he505
                  obtain ⟨S509, hS510, hf511⟩ := hphi507 15 73 _ rfl rfl rfl
                  have e512 : f503 73 = v_path := hf511
                  obtain ⟨S513, hS514, hf515⟩ := hphi507 16 74 _ rfl rfl rfl
                  obtain ⟨e516, hr517⟩ : f503 74 = (Value.int .i64 ((1 : Int) + (k287 : Int))) ∧ InR .i64 ((1 : Int) + (k287 : Int)) := hf515
                  exact OpX.val (Value.pointer (some (elA v_path (((1 : Int) + (k287 : Int))).toNat))) wd504 rfl (op_idx sl_25 (Ty.lift _ (Ext.trans hE7 hS508.ext) r_path) e512 e516 ha519 hb520) (Ext.refl _) rfl
                · refine ObX.op rfl ?_
                  intro f522 wd523 he524 hout525 hphi526
                  have hS527 : St wd2 wd523 [] := St.extend hS301 he524
                  obtain ⟨S528, hS529, hf530⟩ := hphi526 17 75 _ rfl rfl rfl
                  have e531 : f522 75 = (Value.pointer (some (elA v_path (((1 : Int) + (k287 : Int))).toNat))) := hf530
                  exact OpX.val (Value.int .i64 x518) wd523 rfl (op_load one_2 e531 (Ext.cell (Ext.trans hE7 hS527.ext) hc533)) (Ext.refl _) ⟨rfl, hr534⟩
                · intro f535 wd536 Ss537 he538 hout539 hSn540 hSd541 hphi542
                  show WL _ _ _ _ _ _ _
                  have hS543 : St wd2 wd536 [] := St.extend hS301 he538
                  have e544 : f535 72 = u486 := hphi542 14 72 _ (by decide) rfl rfl
                  obtain ⟨e545, hr546⟩ : f535 76 = (Value.int .i64 x518) ∧ InR .i64 x518 := hphi542 18 76 _ (by decide) rfl rfl
                  have e547 : f535 1 = v_labels := (hout539 1 rfl).trans hf296
                  have e548 : f535 2 = v_path := (hout539 2 rfl).trans hf297
                  have e549 : f535 3 = (Value.pointer (some ⟨b1, 0, none⟩)) := (hout539 3 rfl).trans hf298
                  have e550 : f535 9 = (Value.int .i64 ((1 : Int) + (k287 : Int))) := (hout539 9 rfl).trans hf299
                  obtain ⟨x551, hx554, hb292⟩ := bs hb292
                  obtain ⟨ha552, hb553, hx554⟩ := idx_some hx554
                  refine WL.val (Value.pointer (some (elA u486 (x518).toNat))) _ (op_idx sl_25 (Ty.lift _ (Ext.trans hE7 hS543.ext) hr488) e544 e545 ha552 hb553) rfl ?_
                  obtain ⟨u555, hc556, hr557⟩ := repSl.el hr488 hx554
                  obtain ⟨rfl, hr557⟩ := hr557
                  refine WL.val (Value.int .i64 x551) _ (op_load one_2 rfl (Ext.cell (Ext.trans hE7 hS543.ext) hc556)) rfl ?_
                  refine WL.val (Value.bool (x551 == (0 : Int))) _ (op_eql rfl rfl) rfl ?_
                  refine WL.nil ?_
                  show W _ _ _ _ _ _
                  refine W.cond (x551 == (0 : Int)) rfl (fun hc558 => ?_) (fun hc558 => ?_)
                  · replace hb292 := ip hb292 hc558
                    refine W.seq ?_
                    refine W.region ?_
                    refine WL.val (Value.int .i64 (0 : Int)) _ (op_assign rfl) rfl ?_
                    refine WL.val (Value.int .i64 (0 : Int)) _ (op_assign rfl) rfl ?_
                    refine WL.nil ?_
                    show W _ _ _ _ _ _
                    refine W.ret ?_
                    obtain rfl := Option.some.inj hb292
                    obtain rfl := hret295 _ rfl
                    replace h := onRes_ret h
                    obtain rfl := Option.some.inj h
                    show FinP _ _ _ _ _ _ _
                    exact FinP.ret _ (res2 rfl rfl rfl) ⟨rfl, (inR_i64.2 (show (-9223372036854775808 : Int) ≤ 0 ∧ (0 : Int) ≤ 9223372036854775807 from by decide)), (inR_i64.2 (show (-9223372036854775808 : Int) ≤ 0 ∧ (0 : Int) ≤ 9223372036854775807 from by decide)), (Ext.trans hE7 hS543.ext)⟩
                  · replace hb292 := inegb hb292 hc558
                    refine W.skip ?_
                    show W _ _ _ _ _ _
                    refine W.region ?_
                    refine WL.val (Value.int .i64 ((1 : Int) + (k287 : Int))) _ (op_move e550) rfl ?_
                    refine WL.val (Value.int .i64 (w64 (((1 : Int) + (k287 : Int)) + (1 : Int)))) _ (op_add rfl rfl) rfl ?_
                    refine WL.val (Value.int .i64 (w64 (((1 : Int) + (k287 : Int)) + (1 : Int)))) _ (op_assign rfl) rfl ?_
                    refine WL.nil ?_
                    obtain rfl := Option.some.inj hb292
                    show ∃ s, _ = Ctl.next s ∧ _
                    exact ⟨_, rfl, e547, e548, e549, (ctrS_next hl303 hr302 (inR_i64.2 (show (-9223372036854775808 : Int) ≤ 1 ∧ (1 : Int) ≤ 9223372036854775807 from by decide))), (ctrS_rng hl303 hr302 (inR_i64.2 (show (-9223372036854775808 : Int) ≤ 1 ∧ (1 : Int) ≤ 9223372036854775807 from by decide))), hS543⟩
              · intro s565 f561 wd562 hs563 hI564
                obtain ⟨⟩ := s565
                replace hI564 : f561 1 = v_labels ∧ f561 2 = v_path ∧ f561 3 = (Value.pointer (some ⟨b1, 0, none⟩)) ∧ f561 9 = Value.int .i64 ((1 : Int) + (((((path).length : Int) - (1 : Int)).toNat : Nat) : Int)) ∧ InR .i64 ((1 : Int) + (((((path).length : Int) - (1 : Int)).toNat : Nat) : Int)) ∧ St wd2 wd562 [] := hI564
                obtain ⟨hf566, hf567, hf568, hf569, hr570, hS571⟩ := hI564
                refine W.seq ?_
                refine W.seq ?_
                refine W.region ?_
                refine WL.val (Value.int .i64 ((1 : Int) + (((((path).length : Int) - (1 : Int)).toNat : Nat) : Int))) _ (op_move hf569) rfl ?_
                refine WL.val v_path _ (op_move hf567) rfl ?_
                have hr572 := inR_len (Ty.lift _ (Ext.trans hE7 hS571.ext) r_path)
                refine WL.val (Value.int .i64 ((path).length : Int)) _ (op_lenL sl_25 (Ty.lift _ (Ext.trans hE7 hS571.ext) r_path) rfl) rfl ?_
                refine WL.val (Value.bool (decide (((1 : Int) + (((((path).length : Int) - (1 : Int)).toNat : Nat) : Int)) < ((path).length : Int)))) _ (op_lss rfl rfl) rfl ?_
                have hl573 : ¬ ((1 : Int) + (((((path).length : Int) - (1 : Int)).toNat : Nat) : Int)) < ((path).length : Int) := by omega
                refine WL.nil ?_
                show W _ _ _ _ _ _
                refine W.condF (decide (((1 : Int) + (((((path).length : Int) - (1 : Int)).toNat : Nat) : Int)) < ((path).length : Int))) rfl (decide_eq_false hl573) ?_
                refine W.exit ?_
                show _ = _ ∧ _
                exact ⟨rfl, _, hs563, hf566, hf567, hf568, hS571⟩
            · rintro f574 wd575 ⟨s577, rfl, hq576⟩
              replace h := onRes_fin h
              obtain ⟨⟩ := s577
              replace hq576 : f574 1 = v_labels ∧ f574 2 = v_path ∧ f574 3 = (Value.pointer (some ⟨b1, 0, none⟩)) ∧ St wd2 wd575 [] := hq576
              obtain ⟨hf578, hf579, hf580, hS581⟩ := hq576
              show W _ _ _ _ _ _
              refine W.seq ?_
              refine W.region ?_
              refine WL.val (Value.int .i64 (1 : Int)) _ (op_assign rfl) rfl ?_
              refine WL.nil ?_
              show W _ _ _ _ _ _
              refine W.seq ?_
              refine W.seq ?_
              refine W.region ?_
              refine WL.val (Value.int .i64 (1 : Int)) _ (op_assign rfl) rfl ?_
              refine WL.nil ?_
              show W _ _ _ _ _ _
              obtain ⟨res582, hres583, h⟩ := bs h
              refine W.blockLoop (fun fq wq => ∃ s, res582 = Res.fin s ∧ fq 10 = Value.int .i64 s ∧ InR .i64 s ∧ St wd2 wq []) ?_ ?_
              · refine W.forN (fun k (s : Int) fq wq => fq 1 = v_labels ∧ fq 2 = v_path ∧ fq 3 = (Value.pointer (some ⟨b1, 0, none⟩)) ∧ fq 10 = Value.int .i64 s ∧ InR .i64 s ∧ fq 11 = Value.int .i64 ((1 : Int) + (k : Int)) ∧ InR .i64 ((1 : Int) + (k : Int)) ∧ St wd2 wq []) hres583 ⟨hf578, hf579, hf580, rfl, (inR_i64.2 (show (-9223372036854775808 : Int) ≤ 1 ∧ (1 : Int) ≤ 9223372036854775807 from by decide)), rfl, (inR_i64.2 (show (-9223372036854775808 : Int) ≤ 1 ∧ (1 : Int) ≤ 9223372036854775807 from by decide)), hS581⟩ ?_ ?_
                · intro k584 x585 ct586 f587 wd588 hk589 hb590 hI591 hbrk592 hret593
                  replace hI591 : f587 1 = v_labels ∧ f587 2 = v_path ∧ f587 3 = (Value.pointer (some ⟨b1, 0, none⟩)) ∧ f587 10 = Value.int .i64 x585 ∧ InR .i64 x585 ∧ f587 11 = Value.int .i64 ((1 : Int) + (k584 : Int)) ∧ InR .i64 ((1 : Int) + (k584 : Int)) ∧ St wd2 wd588 [] := hI591
                  replace hb590 : p_spec_PathWeight_L2 path r_Table labels k584 x585 = some ct586 := hb590
                  unfold p_spec_PathWeight_L2 at hb590
                  obtain ⟨hf594, hf595, hf596, hf597, hr598, hf599, hr600, hS601⟩ := hI591
                  refine W.seq ?_
                  refine W.seq ?_
                  refine W.region ?_
                  refine WL.val (Value.int .i64 ((1 : Int) + (k584 : Int))) _ (op_move hf599) rfl ?_
                  refine WL.val v_path _ (op_move hf595) rfl ?_
                  have hr602 := inR_len (Ty.lift _ (Ext.trans hE7 hS601.ext) r_path)
                  refine WL.val (Value.int .i64 ((path).length : Int)) _ (op_lenL sl_25 (Ty.lift _ (Ext.trans hE7 hS601.ext) r_path) rfl) rfl ?_
                  refine WL.val (Value.bool (decide (((1 : Int) + (k584 : Int)) < ((path).length : Int)))) _ (op_lss rfl rfl) rfl ?_
                  have hl603 : ((1 : Int) + (k584 : Int)) < ((path).length : Int) := by omega
                  refine WL.nil ?_
                  show W _ _ _ _ _ _
                  refine W.condT (decide (((1 : Int) + (k584 : Int)) < ((path).length : Int))) rfl (decide_eq_true hl603) ?_
                  refine W.skip ?_
                  show W _ _ _ _ _ _
                  refine W.seq ?_
                  refine W.block ?_
                  refine W.seq ?_
                  obtain ⟨x662, hx665, hb590⟩ := bs hb590
                  obtain ⟨ha663, hb664, hx665⟩ := idx_some hx665
                  obtain ⟨u676, hc677, hr678⟩ := repSl.el r_path hx665
                  obtain ⟨rfl, hr678⟩ := hr678
                  obtain ⟨x694, hx697, hb590⟩ := bs hb590
                  obtain ⟨ha695, hb696, hx697⟩ := idx_some hx697
                  obtain ⟨u708, hc709, hr710⟩ := repSl.el r_r_Table hx697
                  obtain ⟨x740, hx743, hb590⟩ := bs hb590
                  obtain ⟨ha741, hb742, hx743⟩ := idx_some hx743
                  obtain ⟨u754, hc755, hr756⟩ := repSl.el r_labels hx743
                  obtain ⟨rfl, hr756⟩ := hr756
                  obtain ⟨x772, hx775, hb590⟩ := bs hb590
                  obtain ⟨ha773, hb774, hx775⟩ := idx_some hx775
                  obtain ⟨u786, hc787, hr788⟩ := repSl.el hr710 hx775
                  obtain ⟨x818, hx821, hb590⟩ := bs hb590
                  obtain ⟨ha819, hb820, hx821⟩ := idx_some hx821
                  obtain ⟨u832, hc833, hr834⟩ := repSl.el r_path hx821
                  obtain ⟨rfl, hr834⟩ := hr834
                  refine W.drawR mixo 19 [] [fun _ v _ _ => v = (Value.pointer (some ⟨b1, 0, none⟩)), fun _ v _ _ => v = v_r_Table, fun _ v _ _ => v = v_path, fun _ v _ _ => v = (Value.int .i64 ((1 : Int) + (k584 : Int))) ∧ InR .i64 ((1 : Int) + (k584 : Int)), fun _ v _ _ => v = (Value.int .i64 (w64 (((1 : Int) + (k584 : Int)) - (1 : Int)))) ∧ InR .i64 (w64 (((1 : Int) + (k584 : Int)) - (1 : Int))), fun _ v _ _ => v = (Value.pointer (some (elA v_path ((w64 (((1 : Int) + (k584 : Int)) - (1 : Int)))).toNat))), fun _ v _ _ => v = (Value.int .i64 x662) ∧ InR .i64 x662, fun _ v _ _ => v = (Value.pointer (some (elA v_r_Table (x662).toNat))), fun _ v _ _ => v = u708, fun _ v _ _ => v = v_labels, fun _ v _ _ => v = (Value.int .i64 ((1 : Int) + (k584 : Int))) ∧ InR .i64 ((1 : Int) + (k584 : Int)), fun _ v _ _ => v = (Value.pointer (some (elA v_labels (((1 : Int) + (k584 : Int))).toNat))), fun _ v _ _ => v = (Value.int .i64 x740) ∧ InR .i64 x740, fun _ v _ _ => v = (Value.pointer (some (elA u708 (x740).toNat))), fun _ v _ _ => v = u786, fun _ v _ _ => v = v_path, fun _ v _ _ => v = (Value.int .i64 ((1 : Int) + (k584 : Int))) ∧ InR .i64 ((1 : Int) + (k584 : Int)), fun _ v _ _ => v = (Value.pointer (some (elA v_path (((1 : Int) + (k584 : Int))).toNat))), fun _ v _ _ => v = (Value.int .i64 x818) ∧ InR .i64 x818] (by kernel_rfl) (by kernel_rfl) ⟨⟨fun _ _ _ _ _ _ h => h, fun _ _ _ _ _ _ h => h⟩, ⟨fun _ _ _ _ _ _ h => h, fun _ _ _ _ _ _ h => h⟩, ⟨fun _ _ _ _ _ _ h => h, fun _ _ _ _ _ _ h => h⟩, ⟨fun _ _ _ _ _ _ h => h, fun _ _ _ _ _ _ h => h⟩, ⟨fun _ _ _ _ _ _ h => h, fun _ _ _ _ _ _ h => h⟩, ⟨fun _ _ _ _ _ _ h => h, fun _ _ _ _ _ _ h => h⟩, ⟨fun _ _ _ _ _ _ h => h, fun _ _ _ _ _ _ h => h⟩, ⟨fun _ _ _ _ _ _ h => h, fun _ _ _ _ _ _ h => h⟩, ⟨fun _ _ _ _ _ _ h => h, fun _ _ _ _ _ _ h => h⟩, ⟨fun _ _ _ _ _ _ h => h, fun _ _ _ _ _ _ h => h⟩, ⟨fun _ _ _ _ _ _ h => h, fun _ _ _ _ _ _ h => h⟩, ⟨fun _ _ _ _ _ _ h => h, fun _ _ _ _ _ _ h => h⟩, ⟨fun _ _ _ _ _ _ h => h, fun _ _ _ _ _ _ h => h⟩, ⟨fun _ _ _ _ _ _ h => h, fun _ _ _ _ _ _ h => h⟩, ⟨fun _ _ _ _ _ _ h => h, fun _ _ _ _ _ _ h => h⟩, ⟨fun _ _ _ _ _ _ h => h, fun _ _ _ _ _ _ h => h⟩, ⟨fun _ _ _ _ _ _ h => h, fun _ _ _ _ _ _ h => h⟩, ⟨fun _ _ _ _ _ _ h => h, fun _ _ _ _ _ _ h => h⟩, ⟨fun _ _ _ _ _ _ h => h, fun _ _ _ _ _ _ h => h⟩, trivial⟩ ⟨?_, ?_, ?_, ?_, ?_, ?_, ?_, ?_, ?_, ?_, ?_, ?_, ?_, ?_, ?_, ?_, ?_, ?_, ?_, trivial⟩ ?_
                  · refine ObX.op rfl ?_
                    intro f605 wd606 he607 hout608 hphi609
                    have hS610 : St wd2 wd606 [] := St.extend hS601 he607
                    have e611 : f605 3 = (Value.pointer (some ⟨b1, 0, none⟩)) := (hout608 3 rfl).trans hf596
                    exact OpX.val (Value.pointer (some ⟨b1, 0, none⟩)) wd606 rfl (op_fieldAddr fd_29_0 e611) (Ext.refl _) rfl
                  · refine ObX.op rfl ?_
                    intro f612 wd613 he614 hout615 hphi616
                    have hS617 : St wd2 wd613 [] := St.extend hS601 he614
                    obtain ⟨S618, hS619, hf620⟩ := hphi616 0 86 _ rfl rfl rfl
                    have e621 : f612 86 = (Value.pointer (some ⟨b1, 0, none⟩)) := hf620
                    exact OpX.val v_r_Table wd613 rfl (op_load one_22 e621 (BoxAt.cell (BoxAt.lift hS617.ext hx6) rfl)) (Ext.refl _) rfl
                  · refine ObX.op rfl ?_
                    intro f622 wd623 he624 hout625 hphi626
                    have hS627 : St wd2 wd623 [] := St.extend hS601 he624
                    have e628 : f622 2 = v_path := (hout625 2 rfl).trans hf595
                    exact OpX.val v_path wd623 rfl (op_move e628) (Ext.refl _) rfl
                  · refine ObX.op rfl ?_
                    intro f629 wd630 he631 hout632 hphi633
                    have hS634 : St wd2 wd630 [] := St.extend hS601 he631
                    have e635 : f629 11 = (Value.int .i64 ((1 : Int) + (k584 : Int))) := (hout632 11 rfl).trans hf599
                    exact OpX.val (Value.int .i64 ((1 : Int) + (k584 : Int))) wd630 rfl (op_move e635) (Ext.refl _) ⟨rfl, hr600⟩
                  · refine ObX.op rfl ?_
                    intro f636 wd637 he638 hout639 hphi640
                    have hS641 : St wd2 wd637 [] := St.extend hS601 he638
                    obtain ⟨S642, hS643, hf644⟩ := hphi640 3 89 _ rfl rfl rfl
                    obtain ⟨e645, hr646⟩ : f636 89 = (Value.int .i64 ((1 : Int) + (k584 : Int))) ∧ InR .i64 ((1 : Int) + (k584 : Int)) := hf644
                    exact OpX.val (Value.int .i64 (w64 (((1 : Int) + (k584 : Int)) - (1 : Int)))) wd637 rfl (op_sub e645 rfl) (Ext.refl _) ⟨rfl, (inR_wrap _ _)⟩
                  · refine ObX.op rfl ?_
                    intro f647 wd648 he649 hout650 hphi651
                    have hS652 : St wd2 wd648 [] := St.extend hS601 he649
                    obtain ⟨S653, hS654, hf655⟩ := hphi651 2 88 _ rfl rfl rfl
                    have e656 : f647 88 = v_path := hf655
                    obtain ⟨S657, hS658, hf659⟩ := hphi651 4 90 _ rfl rfl rfl
                    obtain ⟨e660, hr661⟩ : f647 90 = (Value.int .i64 (w64 (((1 : Int) + (k584 : Int)) - (1 : Int)))) ∧ InR .i64 (w64 (((1 : Int) + (k584 : Int)) - (1 : Int))) := hf659
                    exact OpX.val (Value.pointer (some (elA v_path ((w64 (((1 : Int) + (k584 : Int)) - (1 : Int)))).toNat))) wd648 rfl (op_idx sl_25 (Ty.lift _ (Ext.trans hE7 hS652.ext) r_path) e656 e660 ha663 hb664) (Ext.refl _) rfl
                  · refine ObX.op rfl ?_
                    intro f666 wd667 he668 hout669 hphi670
                    have hS671 : St wd2 wd667 [] := St.extend hS601 he668
                    obtain ⟨S672, hS673, hf674⟩ := hphi670 5 91 _ rfl rfl rfl
                    have e675 : f666 91 = (Value.pointer (some (elA v_path ((w64 (((1 : Int) + (k584 : Int)) - (1 : Int)))).toNat))) := hf674
                    exact OpX.val (Value.int .i64 x662) wd667 rfl (op_load one_2 e675 (Ext.cell (Ext.trans hE7 hS671.ext) hc677)) (Ext.refl _) ⟨rfl, hr678⟩
                  · refine ObX.op rfl ?_
                    intro f679 wd680 he681 hout682 hphi683
                    have hS684 : St wd2 wd680 [] := St.extend hS601 he681
                    obtain ⟨S685, hS686, hf687⟩ := hphi683 1 87 _ rfl rfl rfl
                    have e688 : f679 87 = v_r_Table := hf687
                    obtain ⟨S689, hS690, hf691⟩ := hphi683 6 92 _ rfl rfl rfl
                    obtain ⟨e692, hr693⟩ : f679 92 = (Value.int .i64 x662) ∧ InR .i64 x662 := hf691
                    exact OpX.val (Value.pointer (some (elA v_r_Table (x662).toNat))) wd680 rfl (op_idx sl_22 (Ty.lift _ (Ext.trans hE7 hS684.ext) r_r_Table) e688 e692 ha695 hb696) (Ext.refl _) rfl
                  · refine ObX.op rfl ?_
                    intro f698 wd699 he700 hout701 hphi702
                    have hS703 : St wd2 wd699 [] := St.extend hS601 he700
                    obtain ⟨S704, hS705, hf706⟩ := hphi702 7 93 _ rfl rfl rfl
                    have e707 : f698 93 = (Value.pointer (some (elA v_r_Table (x662).toNat))) := hf706
                    exact OpX.val u708 wd699 rfl (op_load one_65 e707 (Ext.cell (Ext.trans hE7 hS703.ext) hc709)) (Ext.refl _) rfl
                  · refine ObX.op rfl ?_
                    intro f711 wd712 he713 hout714 hphi715
                    have hS716 : St wd2 wd712 [] := St.extend hS601 he713
                    have e717 : f711 1 = v_labels := (hout714 1 rfl).trans hf594
                    exact OpX.val v_labels wd712 rfl (op_move e717) (Ext.refl _) rfl
                  · refine ObX.op rfl ?_
                    intro f718 wd719 he720 hout721 hphi722
                    have hS723 : St wd2 wd719 [] := St.extend hS601 he720
                    have e724 : f718 11 = (Value.int .i64 ((1 : Int) + (k584 : Int))) := (hout721 11 rfl).trans hf599
                    exact OpX.val (Value.int .i64 ((1 : Int) + (k584 : Int))) wd719 rfl (op_move e724) (Ext.refl _) ⟨rfl, hr600⟩
                  · refine ObX.op rfl ?_
                    intro f725 wd726 he727 hout728 hphi729
                    have hS730 : St wd2 wd726 [] := St.extend hS601 he727
                    obtain ⟨S731, hS732, hf733⟩ := hphi729 9 95 _ rfl rfl rfl
                    have e734 : f725 95 = v_labels := hf733
                    obtain ⟨S735, hS736, hf737⟩ := hphi729 10 96 _ rfl rfl rfl
                    obtain ⟨e738, hr739⟩ : f725 96 = (Value.int .i64 ((1 : Int) + (k584 : Int))) ∧ InR .i64 ((1 : Int) + (k584 : Int)) := hf737
                    exact OpX.val (Value.pointer (some (elA v_labels (((1 : Int) + (k584 : Int))).toNat))) wd726 rfl (op_idx sl_25 (Ty.lift _ (Ext.trans hE7 hS730.ext) r_labels) e734 e738 ha741 hb742) (Ext.refl _) rfl
                  · refine ObX.op rfl ?_
                    intro f744 wd745 he746 hout747 hphi748
                    have hS749 : St wd2 wd745 [] := St.extend hS601 he746
                    obtain ⟨S750, hS751, hf752⟩ := hphi748 11 97 _ rfl rfl rfl
                    have e753 : f744 97 = (Value.pointer (some (elA v_labels (((1 : Int) + (k584 : Int))).toNat))) := hf752
                    exact OpX.val (Value.int .i64 x740) wd745 rfl (op_load one_2 e753 (Ext.cell (Ext.trans hE7 hS749.ext) hc755)) (Ext.refl _) ⟨rfl, hr756⟩
                  · refine ObX.op rfl ?_
                    intro f757 wd758 he759 hout760 hphi761
                    have hS762 : St wd2 wd758 [] := St.extend hS601 he759
                    obtain ⟨S763, hS764, hf765⟩ := hphi761 8 94 _ rfl rfl rfl
                    have e766 : f757 94 = u708 := hf765
                    obtain ⟨S767, hS768, hf769⟩ := hphi761 12 98 _ rfl rfl rfl
                    obtain ⟨e770, hr771⟩ : f757 98 = (Value.int .i64 x740) ∧ InR .i64 x740 := hf769
                    exact OpX.val (Value.pointer (some (elA u708 (x740).toNat))) wd758 rfl (op_idx sl_65 (Ty.lift _ (Ext.trans hE7 hS762.ext) hr710) e766 e770 ha773 hb774) (Ext.refl _) rfl
                  · refine ObX.op rfl ?_
                    intro f776 wd777 he778 hout779 hphi780
                    have hS781 : St wd2 wd777 [] := St.extend hS601 he778
                    obtain ⟨S782, hS783, hf784⟩ := hphi780 13 99 _ rfl rfl rfl
                    have e785 : f776 99 = (Value.pointer (some (elA u708 (x740).toNat))) := hf784
                    exact OpX.val u786 wd777 rfl (op_load one_25 e785 (Ext.cell (Ext.trans hE7 hS781.ext) hc787)) (Ext.refl _) rfl
                  · refine ObX.op rfl ?_
                    intro f789 wd790 he791 hout792 hphi793
                    have hS794 : St wd2 wd790 [] := St.extend hS601 he791
                    have e795 : f789 2 = v_path := (hout792 2 rfl).trans hf595
                    exact OpX.val v_path wd790 rfl (op_move e795) (Ext.refl _) rfl
                  · refine ObX.op rfl ?_
                    intro f796 wd797 he798 hout799 hphi800
                    have hS801 : St wd2 wd797 [] := St.extend hS601 he798
                    have e802 : f796 11 = (Value.int .i64 ((1 : Int) + (k584 : Int))) := (hout799 11 rfl).trans hf599
                    exact OpX.val (Value.int .i64 ((1 : Int) + (k584 : Int))) wd797 rfl (op_move e802) (Ext.refl _) ⟨rfl, hr600⟩
                  · refine ObX.op rfl ?_
                    intro f803 wd804 he805 hout806 hphi807
                    have hS808 : St wd2 wd804 [] := St.extend hS601 he805
                    obtain ⟨S809, hS810, hf811⟩ := hphi807 15 101 _ rfl rfl rfl
                    have e812 : f803 101 = v_path := hf811
                    obtain ⟨S813, hS814, hf815⟩ := hphi807 16 102 _ rfl rfl rfl
                    obtain ⟨e816, hr817⟩ : f803 102 = (Value.int .i64 ((1 : Int) + (k584 : Int))) ∧ InR .i64 ((1 : Int) + (k584 : Int)) := hf815
                    exact OpX.val (Value.pointer (some (elA v_path (((1 : Int) + (k584 : Int))).toNat))) wd804 rfl (op_idx sl_25 (Ty.lift _ (Ext.trans hE7 hS808.ext) r_path) e812 e816 ha819 hb820) (Ext.refl _) rfl
                  · refine ObX.op rfl ?_
                    intro f822 wd823 he824 hout825 hphi826
                    have hS827 : St wd2 wd823 [] := St.extend hS601 he824
                    obtain ⟨S828, hS829, hf830⟩ := hphi826 17 103 _ rfl rfl rfl
                    have e831 : f822 103 = (Value.pointer (some (elA v_path (((1 : Int) + (k584 : Int))).toNat))) := hf830
                    exact OpX.val (Value.int .i64 x818) wd823 rfl (op_load one_2 e831 (Ext.cell (Ext.trans hE7 hS827.ext) hc833)) (Ext.refl _) ⟨rfl, hr834⟩
                  · intro f835 wd836 Ss837 he838 hout839 hSn840 hSd841 hphi842
                    show WL _ _ _ _ _ _ _
                    have hS843 : St wd2 wd836 [] := St.extend hS601 he838
                    have e844 : f835 100 = u786 := hphi842 14 100 _ (by decide) rfl rfl
                    obtain ⟨e845, hr846⟩ : f835 104 = (Value.int .i64 x818) ∧ InR .i64 x818 := hphi842 18 104 _ (by decide) rfl rfl
                    have e847 : f835 1 = v_labels := (hout839 1 rfl).trans hf594
                    have e848 : f835 2 = v_path := (hout839 2 rfl).trans hf595
                    have e849 : f835 3 = (Value.pointer (some ⟨b1, 0, none⟩)) := (hout839 3 rfl).trans hf596
                    have e850 : f835 10 = (Value.int .i64 x585) := (hout839 10 rfl).trans hf597
                    have e851 : f835 11 = (Value.int .i64 ((1 : Int) + (k584 : Int))) := (hout839 11 rfl).trans hf599
                    obtain ⟨x852, hx855, hb590⟩ := bs hb590
                    obtain ⟨ha853, hb854, hx855⟩ := idx_some hx855
                    refine WL.val (Value.pointer (some (elA u786 (x818).toNat))) _ (op_idx sl_25 (Ty.lift _ (Ext.trans hE7 hS843.ext) hr788) e844 e845 ha853 hb854) rfl ?_
                    obtain ⟨u856, hc857, hr858⟩ := repSl.el hr788 hx855
                    obtain ⟨rfl, hr858⟩ := hr858
                    refine WL.val (Value.int .i64 x852) _ (op_load one_2 rfl (Ext.cell (Ext.trans hE7 hS843.ext) hc857)) rfl ?_
                    refine WL.val (Value.int .i64 x852) _ (op_assign rfl) rfl ?_
                    refine WL.nil ?_
                    show W _ _ _ _ _ _
                    refine W.seq ?_
                    refine W.seq ?_
                    refine W.region ?_
                    refine WL.val (Value.int .i64 x585) _ (op_move e850) rfl ?_
                    refine WL.val (Value.int .i64 x852) _ (op_move rfl) rfl ?_
                    obtain ⟨x859, hz860, hb590⟩ := bs hb590
                    obtain ⟨h0861, hz860⟩ := quoI_some hz860
                    have hr862 : InR .i64 x859 := by rw [hz860]; exact inR_wrap _ _
                    refine WL.val (Value.int .i64 x859) _ (by rw [hz860]; exact op_quo rfl rfl h0861) rfl ?_
                    refine WL.val (Value.bool (decide (x585 > x859))) _ (op_gtr rfl rfl) rfl ?_
                    refine WL.nil ?_
                    show W _ _ _ _ _ _
                    refine W.cond (decide (x585 > x859)) rfl (fun hc863 => ?_) (fun hc863 => ?_)
                    · replace hb590 := ip hb590 hc863
                      refine W.seq ?_
                      refine W.region ?_
                      refine WL.val (Value.int .i64 (0 : Int)) _ (op_assign rfl) rfl ?_
                      refine WL.val (Value.int .i64 (3 : Int)) _ (op_assign rfl) rfl ?_
                      refine WL.nil ?_
                      show W _ _ _ _ _ _
                      refine W.ret ?_
                      obtain rfl := Option.some.inj hb590
                      obtain rfl := hret593 _ rfl
                      replace h := onRes_ret h
                      obtain rfl := Option.some.inj h
                      show FinP _ _ _ _ _ _ _
                      exact FinP.ret _ (res2 rfl rfl rfl) ⟨rfl, (inR_i64.2 (show (-9223372036854775808 : Int) ≤ 0 ∧ (0 : Int) ≤ 9223372036854775807 from by decide)), (inR_i64.2 (show (-9223372036854775808 : Int) ≤ 3 ∧ (3 : Int) ≤ 9223372036854775807 from by decide)), (Ext.trans hE7 hS843.ext)⟩
                    · replace hb590 := inegb hb590 hc863
                      refine W.skip ?_
                      show W _ _ _ _ _ _
                      refine W.region ?_
                      refine WL.val (Value.int .i64 x585) _ (op_move e850) rfl ?_
                      refine WL.val (Value.int .i64 x852) _ (op_move rfl) rfl ?_
                      refine WL.val (Value.int .i64 (w64 (x585 * x852))) _ (op_mul rfl rfl) rfl ?_
                      refine WL.val (Value.int .i64 (w64 (x585 * x852))) _ (op_assign rfl) rfl ?_
                      refine WL.nil ?_
                      show W _ _ _ _ _ _
                      refine W.region ?_
                      refine WL.val (Value.int .i64 ((1 : Int) + (k584 : Int))) _ (op_move e851) rfl ?_
                      refine WL.val (Value.int .i64 (w64 (((1 : Int) + (k584 : Int)) + (1 : Int)))) _ (op_add rfl rfl) rfl ?_
                      refine WL.val (Value.int .i64 (w64 (((1 : Int) + (k584 : Int)) + (1 : Int)))) _ (op_assign rfl) rfl ?_
                      refine WL.nil ?_
                      obtain rfl := Option.some.inj hb590
                      show ∃ s, _ = Ctl.next s ∧ _
                      exact ⟨_, rfl, e847, e848, e849, rfl, (inR_wrap _ _), (ctrS_next hl603 hr602 (inR_i64.2 (show (-9223372036854775808 : Int) ≤ 1 ∧ (1 : Int) ≤ 9223372036854775807 from by decide))), (ctrS_rng hl603 hr602 (inR_i64.2 (show (-9223372036854775808 : Int) ≤ 1 ∧ (1 : Int) ≤ 9223372036854775807 from by decide))), hS843⟩
                · intro x871 f866 wd867 hs868 hI869
                  replace hI869 : f866 1 = v_labels ∧ f866 2 = v_path ∧ f866 3 = (Value.pointer (some ⟨b1, 0, none⟩)) ∧ f866 10 = Value.int .i64 x871 ∧ InR .i64 x871 ∧ f866 11 = Value.int .i64 ((1 : Int) + (((((path).length : Int) - (1 : Int)).toNat : Nat) : Int)) ∧ InR .i64 ((1 : Int) + (((((path).length : Int) - (1 : Int)).toNat : Nat) : Int)) ∧ St wd2 wd867 [] := hI869
                  obtain ⟨hf872, hf873, hf874, hf875, hr876, hf877, hr878, hS879⟩ := hI869
                  refine W.seq ?_
                  refine W.seq ?_
                  refine W.region ?_
                  refine WL.val (Value.int .i64 ((1 : Int) + (((((path).length : Int) - (1 : Int)).toNat : Nat) : Int))) _ (op_move hf877) rfl ?_
                  refine WL.val v_path _ (op_move hf873) rfl ?_
                  have hr880 := inR_len (Ty.lift _ (Ext.trans hE7 hS879.ext) r_path)
                  refine WL.val (Value.int .i64 ((path).length : Int)) _ (op_lenL sl_25 (Ty.lift _ (Ext.trans hE7 hS879.ext) r_path) rfl) rfl ?_
                  refine WL.val (Value.bool (decide (((1 : Int) + (((((path).length : Int) - (1 : Int)).toNat : Nat) : Int)) < ((path).length : Int)))) _ (op_lss rfl rfl) rfl ?_
                  have hl881 : ¬ ((1 : Int) + (((((path).length : Int) - (1 : Int)).toNat : Nat) : Int)) < ((path).length : Int) := by omega
                  refine WL.nil ?_
                  show W _ _ _ _ _ _
                  refine W.condF (decide (((1 : Int) + (((((path).length : Int) - (1 : Int)).toNat : Nat) : Int)) < ((path).length : Int))) rfl (decide_eq_false hl881) ?_
                  refine W.exit ?_
                  show _ = _ ∧ _
                  exact ⟨rfl, _, hs868, hf875, hr876, hS879⟩
              · rintro f882 wd883 ⟨x886, rfl, hq884⟩
                replace h := onRes_fin h
                replace hq884 : f882 10 = Value.int .i64 x886 ∧ InR .i64 x886 ∧ St wd2 wd883 [] := hq884
                obtain ⟨hf887, hr888, hS889⟩ := hq884
                show W _ _ _ _ _ _
                refine W.seq ?_
                refine W.region ?_
                refine WL.val (Value.int .i64 x886) _ (op_move hf887) rfl ?_
                refine WL.val (Value.int .i64 x886) _ (op_assign rfl) rfl ?_
                refine WL.val (Value.int .i64 (0 : Int)) _ (op_assign rfl) rfl ?_
                refine WL.nil ?_
                show W _ _ _ _ _ _
                refine W.ret ?_
                obtain rfl := Option.some.inj h
                show FinP _ _ _ _ _ _ _
                exact FinP.ret _ (res2 rfl rfl rfl) ⟨rfl, hr888, (inR_i64.2 (show (-9223372036854775808 : Int) ≤ 0 ∧ (0 : Int) ≤ 9223372036854775807 from by decide)), (Ext.trans hE7 hS889.ext)⟩

theorem c_impl_Ring_areLabels {w : World} {r_Table : (List (List (List Int)))} {v_r_Table : Value} {list : (List Int)} {v_list : Value} (r_r_Table : (Ty.sl (Ty.sl (Ty.sl (Ty.i .i64)))).rep w v_r_Table r_Table) (r_list : (Ty.sl (Ty.i .i64)).rep w v_list list) {res : Bool} (h : p_impl_Ring_areLabels r_Table list  = some res) :
    Ret Try.prog 45 #[(Value.agg #[v_r_Table]), v_list] w (fun v w' => v = Value.bool res ∧ Ext w w') := by
  unfold p_impl_Ring_areLabels at h
  have hS0 : St w w [] := St.start w
  refine Ret.start (fn := Try.f45) Try.func45 rfl 11 rfl rfl ?_
  refine W.seq ?_
  refine W.region ?_
  refine WL.box hS0 rfl (cs := [v_r_Table]) rfl rfl ?_
  intro b1 wd2 hS3 he4 hx5
  replace hS3 : St w wd2 [bx b1 [v_r_Table]] := hS3
  have hx6 := St.boxAt hS3 0 rfl
  have hE7 : Ext w wd2 := hS3.ext
  have hS8 : St wd2 wd2 [] := St.start wd2
  refine WL.val (Value.bool false) _ (op_assign rfl) rfl ?_
  refine WL.nil ?_
  show W _ _ _ _ _ _
  refine W.seq ?_
  refine W.region ?_
  refine WL.val v_list _ (op_move rfl) rfl ?_
  refine WL.val (Value.pointer (some ⟨b1, 0, none⟩)) _ (op_fieldAddr fd_29_0 rfl) rfl ?_
  refine WL.val v_r_Table _ (op_load one_22 rfl (BoxAt.cell (BoxAt.lift hS8.ext hx6) rfl)) rfl ?_
  have hr9 := inR_len (Ty.lift _ (Ext.trans hE7 hS8.ext) r_r_Table)
  refine WL.val (Value.int .i64 ((r_Table).length : Int)) _ (op_lenL sl_22 (Ty.lift _ (Ext.trans hE7 hS8.ext) r_r_Table) rfl) rfl ?_
  refine WL.val (Value.int .i64 (w64 (((r_Table).length : Int) - (1 : Int)))) _ (op_sub rfl rfl) rfl ?_
  obtain ⟨x10, hx11, h⟩ := bs h
  refine WL.call _ (op_call fn_76 (args3 rfl rfl rfl)) (c_impl_allWithin (Ty.lift _ (Ext.trans hE7 hS8.ext) r_list) (inR_i64.2 (show (-9223372036854775808 : Int) ≤ 0 ∧ (0 : Int) ≤ 9223372036854775807 from by decide)) (inR_wrap _ _) hx11) rfl ?_
  rintro _ wd12 ⟨rfl, he13⟩
  have hS15 := St.extend hS8 he13
  replace hS15 : St wd2 wd12 [] := hS15
  refine WL.val (Value.bool x10) _ (op_assign rfl) rfl ?_
  refine WL.nil ?_
  show W _ _ _ _ _ _
  refine W.ret ?_
  obtain rfl := Option.some.inj h
  show FinP _ _ _ _ _ _ _
  exact FinP.ret _ (res1 rfl rfl) ⟨rfl, (Ext.trans hE7 hS15.ext)⟩

theorem c_impl_pathCode {w : World} {r_Table : (List (List (List Int)))} {v_r_Table : Value} {labels : (List Int)} {v_labels : Value} (r_r_Table : (Ty.sl (Ty.sl (Ty.sl (Ty.i .i64)))).rep w v_r_Table r_Table) (r_labels : (Ty.sl (Ty.i .i64)).rep w v_labels labels) {res : Int} (h : p_impl_pathCode r_Table labels  = some res) :
    Ret Try.prog 44 #[(Value.agg #[v_r_Table]), v_labels] w (fun v w' => v = Value.int .i64 res ∧ InR .i64 res ∧ Ext w w') := by
  unfold p_impl_pathCode at h
  have hS0 : St w w [] := St.start w
  refine Ret.start (fn := Try.f44) Try.func44 rfl 25 rfl rfl ?_
  refine W.seq ?_
  refine W.region ?_
  refine WL.box hS0 rfl (cs := [v_r_Table]) rfl rfl ?_
  intro b1 wd2 hS3 he4 hx5
  replace hS3 : St w wd2 [bx b1 [v_r_Table]] := hS3
  have hx6 := St.boxAt hS3 0 rfl
  have hE7 : Ext w wd2 := hS3.ext
  have hS8 : St wd2 wd2 [] := St.start wd2
  refine WL.val (Value.int .i64 (0 : Int)) _ (op_assign rfl) rfl ?_
  refine WL.nil ?_
  show W _ _ _ _ _ _
  refine W.seq ?_
  refine W.seq ?_
  refine W.region ?_
  refine WL.val (Value.agg #[v_r_Table]) _ (op_loadBox st_29 rfl (BoxAt.lift hS8.ext hx6) rfl rfl) rfl ?_
  obtain ⟨x9, hx10, h⟩ := bs h
  refine WL.call _ (op_call fn_38 (args1 rfl)) (c_impl_commuteCode (Ty.lift _ (Ext.trans hE7 hS8.ext) r_r_Table) hx10) rfl ?_
  rintro _ wd12 ⟨rfl, hr11, he13⟩
  have hS15 := St.extend hS8 he13
  replace hS15 : St wd2 wd12 [] := hS15
  refine WL.val (Value.int .i64 x9) _ (op_assign rfl) rfl ?_
  refine WL.nil ?_
  show W _ _ _ _ _ _
  refine W.seq ?_
  refine W.region ?_
  refine WL.val (Value.int .i64 x9) _ (op_move rfl) rfl ?_
  refine WL.val (Value.bool (x9 != (0 : Int))) _ (op_neq rfl rfl) rfl ?_
  refine WL.nil ?_
  show W _ _ _ _ _ _
  refine W.cond (x9 != (0 : Int)) rfl (fun hc16 => ?_) (fun hc16 => ?_)
  · replace h := ip h hc16
    refine W.seq ?_
    refine W.region ?_
    refine WL.val (Value.int .i64 x9) _ (op_move rfl) rfl ?_
    refine WL.val (Value.int .i64 x9) _ (op_assign rfl) rfl ?_
    refine WL.nil ?_
    show W _ _ _ _ _ _
    refine W.ret ?_
    obtain rfl := Option.some.inj h
    show FinP _ _ _ _ _ _ _
    exact FinP.ret _ (res1 rfl rfl) ⟨rfl, hr11, (Ext.trans hE7 hS15.ext)⟩
  · replace h := inegb h hc16
    refine W.skip ?_
    show W _ _ _ _ _ _
    refine W.seq ?_
    refine W.seq ?_
    refine W.region ?_
    refine WL.val v_labels _ (op_move rfl) rfl ?_
    have hr18 := inR_len (Ty.lift _ (Ext.trans hE7 hS15.ext) r_labels)
    refine WL.val (Value.int .i64 ((labels).length : Int)) _ (op_lenL sl_25 (Ty.lift _ (Ext.trans hE7 hS15.ext) r_labels) rfl) rfl ?_
    refine WL.val (Value.bool (decide (((labels).length : Int) < (1 : Int)))) _ (op_lss rfl rfl) rfl ?_
    refine WL.val (Value.bool (decide (((labels).length : Int) < (1 : Int)))) _ (op_move rfl) rfl ?_
    refine WL.cut 4 (fun fq wq => fq 1 = v_labels ∧ fq 2 = (Value.pointer (some ⟨b1, 0, none⟩)) ∧ fq 18 = (Value.bool ((decide (((labels).length : Int) < (1 : Int))) || (decide (((labels).length : Int) > (8 : Int))))) ∧ St wd2 wq []) ?_ ?_
    · rcases Bool.eq_false_or_eq_true (decide (((labels).length : Int) < (1 : Int))) with hc19 | hc19
      · refine WL.gskip rfl (bool_of rfl hc19) rfl ?_
        refine WL.gskip rfl (bool_of rfl hc19) rfl ?_
        refine WL.gskip rfl (bool_of rfl hc19) rfl ?_
        refine WL.val (Value.bool true) _ (op_pick_t (evb_of rfl hc19) rfl) rfl ?_
        refine WL.nil ?_
        exact ⟨rfl, rfl, rfl, (orT hc19), hS15⟩
      · refine WL.grun rfl (bool_of rfl hc19) ?_
        refine WL.val v_labels _ (op_move rfl) rfl ?_
        refine WL.grun rfl (bool_of rfl hc19) ?_
        have hr23 := inR_len (Ty.lift _ (Ext.trans hE7 hS15.ext) r_labels)
        refine WL.val (Value.int .i64 ((labels).length : Int)) _ (op_lenL sl_25 (Ty.lift _ (Ext.trans hE7 hS15.ext) r_labels) rfl) rfl ?_
        refine WL.grun rfl (bool_of rfl hc19) ?_
        refine WL.val (Value.bool (decide (((labels).length : Int) > (8 : Int)))) _ (op_gtr rfl rfl) rfl ?_
        refine WL.val (Value.bool (decide (((labels).length : Int) > (8 : Int)))) _ (op_pick_f (evb_of rfl hc19) rfl) rfl ?_
        refine WL.nil ?_
        exact ⟨rfl, rfl, rfl, (orF hc19), hS15⟩
    · intro f20 wd21 hq22
      obtain ⟨hf24, hf25, hf26, hS27⟩ := hq22
      refine WL.val (Value.bool ((decide (((labels).length : Int) < (1 : Int))) || (decide (((labels).length : Int) > (8 : Int))))) _ (op_move hf26) rfl ?_
      obtain ⟨x29, hj30, h⟩ := bs h
      refine WL.cut 5 (fun fq wq => fq 24 = Value.bool x29 ∧ St wd2 wq []) ?_ ?_
      · rcases Bool.eq_false_or_eq_true ((decide (((labels).length : Int) < (1 : Int))) || (decide (((labels).length : Int) > (8 : Int)))) with hc28 | hc28
        · replace hj30 := ip hj30 hc28
          refine WL.gskip rfl (bool_of rfl hc28) rfl ?_
          refine WL.gskip rfl (bool_of rfl hc28) rfl ?_
          refine WL.gskip rfl (bool_of rfl hc28) rfl ?_
          refine WL.gskip rfl (bool_of rfl hc28) rfl ?_
          refine WL.val (Value.bool true) _ (op_pick_t (evb_of rfl hc28) rfl) rfl ?_
          refine WL.nil ?_
          obtain rfl := Option.some.inj hj30
          exact ⟨rfl, rfl, hS27⟩
        · replace hj30 := inegb hj30 hc28
          refine WL.grun rfl (bool_of rfl hc28) ?_
          refine WL.val (Value.agg #[v_r_Table]) _ (op_loadBox st_29 hf25 (BoxAt.lift hS27.ext hx6) rfl rfl) rfl ?_
          refine WL.grun rfl (bool_of rfl hc28) ?_
          refine WL.val v_labels _ (op_move hf24) rfl ?_
          refine WL.grun rfl (bool_of rfl hc28) ?_
          obtain ⟨x34, hx35, hj30⟩ := bs hj30
          refine WL.call _ (op_call fn_45 (args2 rfl rfl)) (c_impl_Ring_areLabels (Ty.lift _ (Ext.trans hE7 hS27.ext) r_r_Table) (Ty.lift _ (Ext.trans hE7 hS27.ext) r_labels) hx35) rfl ?_
          rintro _ wd36 ⟨rfl, he37⟩
          have hS39 := St.extend hS27 he37
          replace hS39 : St wd2 wd36 [] := hS39
          refine WL.grun rfl (bool_of rfl hc28) ?_
          refine WL.val (Value.bool (!x34)) _ (op_not rfl) rfl ?_
          refine WL.val (Value.bool (!x34)) _ (op_pick_f (evb_of rfl hc28) rfl) rfl ?_
          refine WL.nil ?_
          obtain rfl := Option.some.inj hj30
          exact ⟨rfl, rfl, hS39⟩
      · intro f31 wd32 hq33
        obtain ⟨hf40, hS41⟩ := hq33
        refine WL.nil ?_
        show W _ _ _ _ _ _
        refine W.cond x29 hf40 (fun hc42 => ?_) (fun hc42 => ?_)
        · replace h := ip h hc42
          refine W.seq ?_
          refine W.region ?_
          refine WL.val (Value.int .i64 (2 : Int)) _ (op_assign rfl) rfl ?_
          refine WL.nil ?_
          show W _ _ _ _ _ _
          refine W.ret ?_
          obtain rfl := Option.some.inj h
          show FinP _ _ _ _ _ _ _
          exact FinP.ret _ (res1 rfl rfl) ⟨rfl, (inR_i64.2 (show (-9223372036854775808 : Int) ≤ 2 ∧ (2 : Int) ≤ 9223372036854775807 from by decide)), (Ext.trans hE7 hS41.ext)⟩
        · replace h := inegb h hc42
          refine W.skip ?_
          show W _ _ _ _ _ _
          refine W.seq ?_
          refine W.region ?_
          refine WL.val (Value.int .i64 (0 : Int)) _ (op_assign rfl) rfl ?_
          refine WL.nil ?_
          show W _ _ _ _ _ _
          refine W.ret ?_
          obtain rfl := Option.some.inj h
          show FinP _ _ _ _ _ _ _
          exact FinP.ret _ (res1 rfl rfl) ⟨rfl, (inR_i64.2 (show (-9223372036854775808 : Int) ≤ 0 ∧ (0 : Int) ≤ 9223372036854775807 from by decide)), (Ext.trans hE7 hS41.ext)⟩

end Go.VG
