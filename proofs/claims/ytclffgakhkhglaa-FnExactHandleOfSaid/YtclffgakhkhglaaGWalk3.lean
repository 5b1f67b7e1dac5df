/- The walks, part 3: each Go function returns what its plain twin returns. No condition beyond what each names. -/
import Derived.Test.YtclffgakhkhglaaGWalk2
set_option linter.all false
namespace Go.VG
open Go.Proofs
attribute [local irreducible] W WL Sep FinP

theorem c_impl_Ring_bracketFault {w : World} {r_Table : (List (List (List Int)))} {v_r_Table : Value} (r_r_Table : (Ty.sl (Ty.sl (Ty.sl (Ty.i .i64)))).rep w v_r_Table r_Table) {res : (List Int)} (h : p_impl_Ring_bracketFault r_Table  = some res) :
    Ret Try.prog 107 #[(Value.agg #[v_r_Table])] w (fun v w' => ∃ (u0 : Value), v = u0 ∧ NilIff u0 res ∧ Ext w w' ∧ Sep w.heap.size w' [(Ty.sl (Ty.i .i64)).at u0 res]) := by
  unfold p_impl_Ring_bracketFault at h
  have hS0 : St w w [] := St.start w
  refine Ret.start (fn := Try.f107) Try.func107 rfl 97 rfl rfl ?_
  refine W.seq (W.region ?_)
  refine WL.box hS0 rfl (cs := [v_r_Table]) rfl rfl ?_
  intro b1 wd2 hS3 he4 hx5
  replace hS3 : St w wd2 [bx b1 [v_r_Table]] := hS3
  have hx6 := St.boxAt hS3 0 rfl
  have hE7 : Ext w wd2 := hS3.ext
  have hS8 : St wd2 wd2 [] := St.start wd2
  refine WL.val (Value.slice none 0 0) _ (op_assign rfl) rfl ?_
  refine WL.nil ?_
  show W _ _ _ _ _ _
  refine W.seq (W.seq (W.region ?_))
  refine WL.val (Value.pointer (some ⟨b1, 0, none⟩)) _ (op_fieldAddr fd_29_0 rfl) rfl ?_
  refine WL.val v_r_Table _ (op_load one_22 rfl (BoxAt.cell (BoxAt.lift hS8.ext hx6) rfl)) rfl ?_
  have hr9 := inR_len (Ty.lift _ (Ext.trans hE7 hS8.ext) r_r_Table)
  refine WL.val (Value.int .i64 ((r_Table).length : Int)) _ (op_lenL sl_22 (Ty.lift _ (Ext.trans hE7 hS8.ext) r_r_Table) rfl) rfl ?_
  refine WL.val (Value.int .i64 (0 : Int)) _ (op_move rfl) rfl ?_
  refine WL.nil ?_
  show W _ _ _ _ _ _
  obtain ⟨res10, hres11, h⟩ := bs h
  refine W.blockLoop (fun fq wq => ∃ s, res10 = Res.fin s ∧ St wd2 wq []) ?_ ?_
  · refine W.forN (fun k (s : Unit) fq wq => fq 1 = (Value.pointer (some ⟨b1, 0, none⟩)) ∧ fq 13 = v_r_Table ∧ fq 14 = (Value.int .i64 ((r_Table).length : Int)) ∧ fq 15 = Value.int .i64 (k : Int) ∧ InR .i64 (k : Int) ∧ St wd2 wq []) hres11 ⟨rfl, rfl, rfl, rfl, (inR_i64.2 (show (-9223372036854775808 : Int) ≤ 0 ∧ (0 : Int) ≤ 9223372036854775807 from by decide)), hS8⟩ ?_ ?_
    · intro k12 s850 ct13 f14 wd15 hk16 hb17 hI18 hbrk19 hret20
      obtain ⟨⟩ := s850
      replace hI18 : f14 1 = (Value.pointer (some ⟨b1, 0, none⟩)) ∧ f14 13 = v_r_Table ∧ f14 14 = (Value.int .i64 ((r_Table).length : Int)) ∧ f14 15 = Value.int .i64 (k12 : Int) ∧ InR .i64 (k12 : Int) ∧ St wd2 wd15 [] := hI18
      replace hb17 : p_impl_Ring_bracketFault_L1 r_Table k12  = some ct13 := hb17
      unfold p_impl_Ring_bracketFault_L1 at hb17
      obtain ⟨hf21, hf22, hf23, hf24, hr25, hS26⟩ := hI18
      refine W.seq (W.region ?_)
      refine WL.val (Value.bool (decide ((k12 : Int) < ((r_Table).length : Int)))) _ (op_lss hf24 hf23) rfl ?_
      have hl27 : (k12 : Int) < ((r_Table).length : Int) := by omega
      refine WL.nil ?_
      show W _ _ _ _ _ _
      refine W.seq ?_
      refine W.condT (decide ((k12 : Int) < ((r_Table).length : Int))) rfl (decide_eq_true hl27) ?_
      refine W.skip ?_
      show W _ _ _ _ _ _
      refine W.seq ?_
      refine W.block ?_
      refine W.seq (W.region ?_)
      refine WL.val (Value.int .i64 (k12 : Int)) _ (op_move hf24) rfl ?_
      obtain ⟨x29, hx32, hb17⟩ := bs hb17
      obtain ⟨ha30, hb31, hx32⟩ := idx_some hx32
      refine WL.val (Value.pointer (some (elA v_r_Table ((k12 : Int)).toNat))) _ (op_idx sl_22 (Ty.lift _ (Ext.trans hE7 hS26.ext) r_r_Table) hf22 hf24 ha30 hb31) rfl ?_
      obtain ⟨u33, hc34, hr35⟩ := repSl.el r_r_Table hx32
      refine WL.val u33 _ (op_load one_65 rfl (Ext.cell (Ext.trans hE7 hS26.ext) hc34)) rfl ?_
      refine WL.val (Value.int .i64 (k12 : Int)) _ (op_assign rfl) rfl ?_
      refine WL.val u33 _ (op_assign rfl) rfl ?_
      refine WL.nil ?_
      show W _ _ _ _ _ _
      refine W.seq (W.region ?_)
      refine WL.val (Value.pointer (some ⟨b1, 0, none⟩)) _ (op_fieldAddr fd_29_0 hf21) rfl ?_
      refine WL.val v_r_Table _ (op_load one_22 rfl (BoxAt.cell (BoxAt.lift hS26.ext hx6) rfl)) rfl ?_
      have hr36 := inR_len (Ty.lift _ (Ext.trans hE7 hS26.ext) r_r_Table)
      refine WL.val (Value.int .i64 ((r_Table).length : Int)) _ (op_lenL sl_22 (Ty.lift _ (Ext.trans hE7 hS26.ext) r_r_Table) rfl) rfl ?_
      refine WL.val (Value.int .i64 (0 : Int)) _ (op_move rfl) rfl ?_
      refine WL.nil ?_
      show W _ _ _ _ _ _
      obtain ⟨res37, hres38, hb17⟩ := bs hb17
      refine W.blockLoop (fun fq wq => ∃ s, res37 = Res.fin s ∧ fq 1 = (Value.pointer (some ⟨b1, 0, none⟩)) ∧ fq 13 = v_r_Table ∧ fq 14 = (Value.int .i64 ((r_Table).length : Int)) ∧ fq 15 = (Value.int .i64 (k12 : Int)) ∧ St wd2 wq []) ?_ ?_
      · refine W.forN (fun k (s : Unit) fq wq => fq 1 = (Value.pointer (some ⟨b1, 0, none⟩)) ∧ fq 3 = (Value.int .i64 (k12 : Int)) ∧ fq 4 = u33 ∧ fq 13 = v_r_Table ∧ fq 14 = (Value.int .i64 ((r_Table).length : Int)) ∧ fq 15 = (Value.int .i64 (k12 : Int)) ∧ fq 21 = v_r_Table ∧ fq 22 = (Value.int .i64 ((r_Table).length : Int)) ∧ fq 23 = Value.int .i64 (k : Int) ∧ InR .i64 (k : Int) ∧ St wd2 wq []) hres38 ⟨hf21, rfl, rfl, hf22, hf23, hf24, rfl, rfl, rfl, (inR_i64.2 (show (-9223372036854775808 : Int) ≤ 0 ∧ (0 : Int) ≤ 9223372036854775807 from by decide)), hS26⟩ ?_ ?_
        · intro k39 s822 ct40 f41 wd42 hk43 hb44 hI45 hbrk46 hret47
          obtain ⟨⟩ := s822
          replace hI45 : f41 1 = (Value.pointer (some ⟨b1, 0, none⟩)) ∧ f41 3 = (Value.int .i64 (k12 : Int)) ∧ f41 4 = u33 ∧ f41 13 = v_r_Table ∧ f41 14 = (Value.int .i64 ((r_Table).length : Int)) ∧ f41 15 = (Value.int .i64 (k12 : Int)) ∧ f41 21 = v_r_Table ∧ f41 22 = (Value.int .i64 ((r_Table).length : Int)) ∧ f41 23 = Value.int .i64 (k39 : Int) ∧ InR .i64 (k39 : Int) ∧ St wd2 wd42 [] := hI45
          replace hb44 : p_impl_Ring_bracketFault_L2 r_Table x29 k12 k39  = some ct40 := hb44
          unfold p_impl_Ring_bracketFault_L2 at hb44
          obtain ⟨hf48, hf49, hf50, hf51, hf52, hf53, hf54, hf55, hf56, hr57, hS58⟩ := hI45
          refine W.seq (W.region ?_)
          refine WL.val (Value.bool (decide ((k39 : Int) < ((r_Table).length : Int)))) _ (op_lss hf56 hf55) rfl ?_
          have hl59 : (k39 : Int) < ((r_Table).length : Int) := by omega
          refine WL.nil ?_
          show W _ _ _ _ _ _
          refine W.seq ?_
          refine W.condT (decide ((k39 : Int) < ((r_Table).length : Int))) rfl (decide_eq_true hl59) ?_
          refine W.skip ?_
          show W _ _ _ _ _ _
          refine W.seq ?_
          refine W.block ?_
          refine W.seq (W.region ?_)
          refine WL.val (Value.int .i64 (k39 : Int)) _ (op_move hf56) rfl ?_
          obtain ⟨x61, hx64, hb44⟩ := bs hb44
          obtain ⟨ha62, hb63, hx64⟩ := idx_some hx64
          refine WL.val (Value.pointer (some (elA v_r_Table ((k39 : Int)).toNat))) _ (op_idx sl_22 (Ty.lift _ (Ext.trans hE7 hS58.ext) r_r_Table) hf54 hf56 ha62 hb63) rfl ?_
          obtain ⟨u65, hc66, hr67⟩ := repSl.el r_r_Table hx64
          refine WL.val u65 _ (op_load one_65 rfl (Ext.cell (Ext.trans hE7 hS58.ext) hc66)) rfl ?_
          refine WL.val (Value.int .i64 (k39 : Int)) _ (op_assign rfl) rfl ?_
          refine WL.val u65 _ (op_assign rfl) rfl ?_
          refine WL.nil ?_
          show W _ _ _ _ _ _
          refine W.seq (W.region ?_)
          refine WL.val (Value.pointer (some ⟨b1, 0, none⟩)) _ (op_fieldAddr fd_29_0 hf48) rfl ?_
          refine WL.val v_r_Table _ (op_load one_22 rfl (BoxAt.cell (BoxAt.lift hS58.ext hx6) rfl)) rfl ?_
          have hr68 := inR_len (Ty.lift _ (Ext.trans hE7 hS58.ext) r_r_Table)
          refine WL.val (Value.int .i64 ((r_Table).length : Int)) _ (op_lenL sl_22 (Ty.lift _ (Ext.trans hE7 hS58.ext) r_r_Table) rfl) rfl ?_
          refine WL.val (Value.int .i64 (0 : Int)) _ (op_move rfl) rfl ?_
          refine WL.nil ?_
          show W _ _ _ _ _ _
          obtain ⟨res69, hres70, hb44⟩ := bs hb44
          refine W.blockLoop (fun fq wq => ∃ s, res69 = Res.fin s ∧ fq 1 = (Value.pointer (some ⟨b1, 0, none⟩)) ∧ fq 3 = (Value.int .i64 (k12 : Int)) ∧ fq 4 = u33 ∧ fq 13 = v_r_Table ∧ fq 14 = (Value.int .i64 ((r_Table).length : Int)) ∧ fq 15 = (Value.int .i64 (k12 : Int)) ∧ fq 21 = v_r_Table ∧ fq 22 = (Value.int .i64 ((r_Table).length : Int)) ∧ fq 23 = (Value.int .i64 (k39 : Int)) ∧ St wd2 wq []) ?_ ?_
          · refine W.forN (fun k (s : Unit) fq wq => fq 1 = (Value.pointer (some ⟨b1, 0, none⟩)) ∧ fq 3 = (Value.int .i64 (k12 : Int)) ∧ fq 4 = u33 ∧ fq 5 = (Value.int .i64 (k39 : Int)) ∧ fq 6 = u65 ∧ fq 13 = v_r_Table ∧ fq 14 = (Value.int .i64 ((r_Table).length : Int)) ∧ fq 15 = (Value.int .i64 (k12 : Int)) ∧ fq 21 = v_r_Table ∧ fq 22 = (Value.int .i64 ((r_Table).length : Int)) ∧ fq 23 = (Value.int .i64 (k39 : Int)) ∧ fq 30 = (Value.int .i64 ((r_Table).length : Int)) ∧ fq 31 = Value.int .i64 (k : Int) ∧ InR .i64 (k : Int) ∧ St wd2 wq []) hres70 ⟨hf48, hf49, hf50, rfl, rfl, hf51, hf52, hf53, hf54, hf55, hf56, rfl, rfl, (inR_i64.2 (show (-9223372036854775808 : Int) ≤ 0 ∧ (0 : Int) ≤ 9223372036854775807 from by decide)), hS58⟩ ?_ ?_
            · intro k71 s785 ct72 f73 wd74 hk75 hb76 hI77 hbrk78 hret79
              obtain ⟨⟩ := s785
              replace hI77 : f73 1 = (Value.pointer (some ⟨b1, 0, none⟩)) ∧ f73 3 = (Value.int .i64 (k12 : Int)) ∧ f73 4 = u33 ∧ f73 5 = (Value.int .i64 (k39 : Int)) ∧ f73 6 = u65 ∧ f73 13 = v_r_Table ∧ f73 14 = (Value.int .i64 ((r_Table).length : Int)) ∧ f73 15 = (Value.int .i64 (k12 : Int)) ∧ f73 21 = v_r_Table ∧ f73 22 = (Value.int .i64 ((r_Table).length : Int)) ∧ f73 23 = (Value.int .i64 (k39 : Int)) ∧ f73 30 = (Value.int .i64 ((r_Table).length : Int)) ∧ f73 31 = Value.int .i64 (k71 : Int) ∧ InR .i64 (k71 : Int) ∧ St wd2 wd74 [] := hI77
              replace hb76 : p_impl_Ring_bracketFault_L3 x29 k39 r_Table x61 k12 k71  = some ct72 := hb76
              unfold p_impl_Ring_bracketFault_L3 at hb76
              obtain ⟨hf80, hf81, hf82, hf83, hf84, hf85, hf86, hf87, hf88, hf89, hf90, hf91, hf92, hr93, hS94⟩ := hI77
              refine W.seq (W.region ?_)
              refine WL.val (Value.bool (decide ((k71 : Int) < ((r_Table).length : Int)))) _ (op_lss hf92 hf91) rfl ?_
              have hl95 : (k71 : Int) < ((r_Table).length : Int) := by omega
              refine WL.nil ?_
              show W _ _ _ _ _ _
              refine W.seq ?_
              refine W.condT (decide ((k71 : Int) < ((r_Table).length : Int))) rfl (decide_eq_true hl95) ?_
              refine W.skip ?_
              show W _ _ _ _ _ _
              refine W.seq ?_
              refine W.block ?_
              refine W.seq (W.region ?_)
              refine WL.val (Value.int .i64 (k71 : Int)) _ (op_move hf92) rfl ?_
              refine WL.val (Value.int .i64 (k71 : Int)) _ (op_assign rfl) rfl ?_
              refine WL.nil ?_
              show W _ _ _ _ _ _
              refine W.seq (W.region ?_)
              refine WL.val (Value.pointer (some ⟨b1, 0, none⟩)) _ (op_fieldAddr fd_29_0 hf80) rfl ?_
              refine WL.val v_r_Table _ (op_load one_22 rfl (BoxAt.cell (BoxAt.lift hS94.ext hx6) rfl)) rfl ?_
              have hr97 := inR_len (Ty.lift _ (Ext.trans hE7 hS94.ext) r_r_Table)
              refine WL.val (Value.int .i64 ((r_Table).length : Int)) _ (op_lenL sl_22 (Ty.lift _ (Ext.trans hE7 hS94.ext) r_r_Table) rfl) rfl ?_
              refine WL.val (Value.int .i64 (0 : Int)) _ (op_move rfl) rfl ?_
              refine WL.nil ?_
              show W _ _ _ _ _ _
              obtain ⟨res98, hres99, hb76⟩ := bs hb76
              refine W.blockLoop (fun fq wq => ∃ s, res98 = Res.fin s ∧ fq 1 = (Value.pointer (some ⟨b1, 0, none⟩)) ∧ fq 3 = (Value.int .i64 (k12 : Int)) ∧ fq 4 = u33 ∧ fq 5 = (Value.int .i64 (k39 : Int)) ∧ fq 6 = u65 ∧ fq 13 = v_r_Table ∧ fq 14 = (Value.int .i64 ((r_Table).length : Int)) ∧ fq 15 = (Value.int .i64 (k12 : Int)) ∧ fq 21 = v_r_Table ∧ fq 22 = (Value.int .i64 ((r_Table).length : Int)) ∧ fq 23 = (Value.int .i64 (k39 : Int)) ∧ fq 30 = (Value.int .i64 ((r_Table).length : Int)) ∧ fq 31 = (Value.int .i64 (k71 : Int)) ∧ St wd2 wq []) ?_ ?_
              · refine W.forN (fun k (s : Unit) fq wq => fq 1 = (Value.pointer (some ⟨b1, 0, none⟩)) ∧ fq 3 = (Value.int .i64 (k12 : Int)) ∧ fq 4 = u33 ∧ fq 5 = (Value.int .i64 (k39 : Int)) ∧ fq 6 = u65 ∧ fq 7 = (Value.int .i64 (k71 : Int)) ∧ fq 13 = v_r_Table ∧ fq 14 = (Value.int .i64 ((r_Table).length : Int)) ∧ fq 15 = (Value.int .i64 (k12 : Int)) ∧ fq 21 = v_r_Table ∧ fq 22 = (Value.int .i64 ((r_Table).length : Int)) ∧ fq 23 = (Value.int .i64 (k39 : Int)) ∧ fq 30 = (Value.int .i64 ((r_Table).length : Int)) ∧ fq 31 = (Value.int .i64 (k71 : Int)) ∧ fq 36 = (Value.int .i64 ((r_Table).length : Int)) ∧ fq 37 = Value.int .i64 (k : Int) ∧ InR .i64 (k : Int) ∧ St wd2 wq []) hres99 ⟨hf80, hf81, hf82, hf83, hf84, rfl, hf85, hf86, hf87, hf88, hf89, hf90, hf91, hf92, rfl, rfl, (inR_i64.2 (show (-9223372036854775808 : Int) ≤ 0 ∧ (0 : Int) ≤ 9223372036854775807 from by decide)), hS94⟩ ?_ ?_
                · intro k100 s741 ct101 f102 wd103 hk104 hb105 hI106 hbrk107 hret108
                  obtain ⟨⟩ := s741
                  replace hI106 : f102 1 = (Value.pointer (some ⟨b1, 0, none⟩)) ∧ f102 3 = (Value.int .i64 (k12 : Int)) ∧ f102 4 = u33 ∧ f102 5 = (Value.int .i64 (k39 : Int)) ∧ f102 6 = u65 ∧ f102 7 = (Value.int .i64 (k71 : Int)) ∧ f102 13 = v_r_Table ∧ f102 14 = (Value.int .i64 ((r_Table).length : Int)) ∧ f102 15 = (Value.int .i64 (k12 : Int)) ∧ f102 21 = v_r_Table ∧ f102 22 = (Value.int .i64 ((r_Table).length : Int)) ∧ f102 23 = (Value.int .i64 (k39 : Int)) ∧ f102 30 = (Value.int .i64 ((r_Table).length : Int)) ∧ f102 31 = (Value.int .i64 (k71 : Int)) ∧ f102 36 = (Value.int .i64 ((r_Table).length : Int)) ∧ f102 37 = Value.int .i64 (k100 : Int) ∧ InR .i64 (k100 : Int) ∧ St wd2 wd103 [] := hI106
                  replace hb105 : p_impl_Ring_bracketFault_L4 x29 k39 r_Table k71 x61 k12 k100  = some ct101 := hb105
                  unfold p_impl_Ring_bracketFault_L4 at hb105
                  obtain ⟨hf109, hf110, hf111, hf112, hf113, hf114, hf115, hf116, hf117, hf118, hf119, hf120, hf121, hf122, hf123, hf124, hr125, hS126⟩ := hI106
                  refine W.seq (W.region ?_)
                  refine WL.val (Value.bool (decide ((k100 : Int) < ((r_Table).length : Int)))) _ (op_lss hf124 hf123) rfl ?_
                  have hl127 : (k100 : Int) < ((r_Table).length : Int) := by omega
                  refine WL.nil ?_
                  show W _ _ _ _ _ _
                  refine W.seq ?_
                  refine W.condT (decide ((k100 : Int) < ((r_Table).length : Int))) rfl (decide_eq_true hl127) ?_
                  refine W.skip ?_
                  show W _ _ _ _ _ _
                  refine W.seq ?_
                  refine W.block ?_
                  refine W.seq (W.region ?_)
                  refine WL.val (Value.int .i64 (k100 : Int)) _ (op_move hf124) rfl ?_
                  refine WL.val (Value.int .i64 (k100 : Int)) _ (op_assign rfl) rfl ?_
                  refine WL.nil ?_
                  show W _ _ _ _ _ _
                  refine W.seq (W.region ?_)
                  refine WL.val (Value.int .i64 (0 : Int)) _ (op_assign rfl) rfl ?_
                  refine WL.val (Value.int .i64 (0 : Int)) _ (op_assign rfl) rfl ?_
                  refine WL.nil ?_
                  show W _ _ _ _ _ _
                  refine W.seq (W.seq (W.region ?_))
                  refine WL.val (Value.pointer (some ⟨b1, 0, none⟩)) _ (op_fieldAddr fd_29_0 hf109) rfl ?_
                  refine WL.val v_r_Table _ (op_load one_22 rfl (BoxAt.cell (BoxAt.lift hS126.ext hx6) rfl)) rfl ?_
                  have hr129 := inR_len (Ty.lift _ (Ext.trans hE7 hS126.ext) r_r_Table)
                  refine WL.val (Value.int .i64 ((r_Table).length : Int)) _ (op_lenL sl_22 (Ty.lift _ (Ext.trans hE7 hS126.ext) r_r_Table) rfl) rfl ?_
                  refine WL.val (Value.int .i64 (0 : Int)) _ (op_move rfl) rfl ?_
                  refine WL.nil ?_
                  show W _ _ _ _ _ _
                  obtain ⟨res130, hres131, hb105⟩ := bs hb105
                  refine W.blockLoop (fun fq wq => ∃ s, res130 = Res.fin s ∧ fq 1 = (Value.pointer (some ⟨b1, 0, none⟩)) ∧ fq 3 = (Value.int .i64 (k12 : Int)) ∧ fq 4 = u33 ∧ fq 5 = (Value.int .i64 (k39 : Int)) ∧ fq 6 = u65 ∧ fq 7 = (Value.int .i64 (k71 : Int)) ∧ fq 8 = (Value.int .i64 (k100 : Int)) ∧ fq 9 = Value.int .i64 s.1 ∧ InR .i64 s.1 ∧ fq 10 = Value.int .i64 s.2 ∧ InR .i64 s.2 ∧ fq 13 = v_r_Table ∧ fq 14 = (Value.int .i64 ((r_Table).length : Int)) ∧ fq 15 = (Value.int .i64 (k12 : Int)) ∧ fq 21 = v_r_Table ∧ fq 22 = (Value.int .i64 ((r_Table).length : Int)) ∧ fq 23 = (Value.int .i64 (k39 : Int)) ∧ fq 30 = (Value.int .i64 ((r_Table).length : Int)) ∧ fq 31 = (Value.int .i64 (k71 : Int)) ∧ fq 36 = (Value.int .i64 ((r_Table).length : Int)) ∧ fq 37 = (Value.int .i64 (k100 : Int)) ∧ St wd2 wq []) ?_ ?_
                  · refine W.forN (fun k (s : Int × Int) fq wq => fq 1 = (Value.pointer (some ⟨b1, 0, none⟩)) ∧ fq 3 = (Value.int .i64 (k12 : Int)) ∧ fq 4 = u33 ∧ fq 5 = (Value.int .i64 (k39 : Int)) ∧ fq 6 = u65 ∧ fq 7 = (Value.int .i64 (k71 : Int)) ∧ fq 8 = (Value.int .i64 (k100 : Int)) ∧ fq 9 = Value.int .i64 s.1 ∧ InR .i64 s.1 ∧ fq 10 = Value.int .i64 s.2 ∧ InR .i64 s.2 ∧ fq 13 = v_r_Table ∧ fq 14 = (Value.int .i64 ((r_Table).length : Int)) ∧ fq 15 = (Value.int .i64 (k12 : Int)) ∧ fq 21 = v_r_Table ∧ fq 22 = (Value.int .i64 ((r_Table).length : Int)) ∧ fq 23 = (Value.int .i64 (k39 : Int)) ∧ fq 30 = (Value.int .i64 ((r_Table).length : Int)) ∧ fq 31 = (Value.int .i64 (k71 : Int)) ∧ fq 36 = (Value.int .i64 ((r_Table).length : Int)) ∧ fq 37 = (Value.int .i64 (k100 : Int)) ∧ fq 42 = (Value.int .i64 ((r_Table).length : Int)) ∧ fq 43 = Value.int .i64 (k : Int) ∧ InR .i64 (k : Int) ∧ St wd2 wq []) hres131 ⟨hf109, hf110, hf111, hf112, hf113, hf114, rfl, rfl, (inR_i64.2 (show (-9223372036854775808 : Int) ≤ 0 ∧ (0 : Int) ≤ 9223372036854775807 from by decide)), rfl, (inR_i64.2 (show (-9223372036854775808 : Int) ≤ 0 ∧ (0 : Int) ≤ 9223372036854775807 from by decide)), hf115, hf116, hf117, hf118, hf119, hf120, hf121, hf122, hf123, hf124, rfl, rfl, (inR_i64.2 (show (-9223372036854775808 : Int) ≤ 0 ∧ (0 : Int) ≤ 9223372036854775807 from by decide)), hS126⟩ ?_ ?_
                    · intro k132 s672 ct135 f136 wd137 hk138 hb139 hI140 hbrk141 hret142
                      obtain ⟨x133, x134⟩ := s672
                      replace hI140 : f136 1 = (Value.pointer (some ⟨b1, 0, none⟩)) ∧ f136 3 = (Value.int .i64 (k12 : Int)) ∧ f136 4 = u33 ∧ f136 5 = (Value.int .i64 (k39 : Int)) ∧ f136 6 = u65 ∧ f136 7 = (Value.int .i64 (k71 : Int)) ∧ f136 8 = (Value.int .i64 (k100 : Int)) ∧ f136 9 = Value.int .i64 x133 ∧ InR .i64 x133 ∧ f136 10 = Value.int .i64 x134 ∧ InR .i64 x134 ∧ f136 13 = v_r_Table ∧ f136 14 = (Value.int .i64 ((r_Table).length : Int)) ∧ f136 15 = (Value.int .i64 (k12 : Int)) ∧ f136 21 = v_r_Table ∧ f136 22 = (Value.int .i64 ((r_Table).length : Int)) ∧ f136 23 = (Value.int .i64 (k39 : Int)) ∧ f136 30 = (Value.int .i64 ((r_Table).length : Int)) ∧ f136 31 = (Value.int .i64 (k71 : Int)) ∧ f136 36 = (Value.int .i64 ((r_Table).length : Int)) ∧ f136 37 = (Value.int .i64 (k100 : Int)) ∧ f136 42 = (Value.int .i64 ((r_Table).length : Int)) ∧ f136 43 = Value.int .i64 (k132 : Int) ∧ InR .i64 (k132 : Int) ∧ St wd2 wd137 [] := hI140
                      replace hb139 : p_impl_Ring_bracketFault_L5 x29 k39 r_Table k71 k100 x61 k132 x133 x134 = some ct135 := hb139
                      unfold p_impl_Ring_bracketFault_L5 at hb139
                      obtain ⟨hf143, hf144, hf145, hf146, hf147, hf148, hf149, hf150, hr151, hf152, hr153, hf154, hf155, hf156, hf157, hf158, hf159, hf160, hf161, hf162, hf163, hf164, hf165, hr166, hS167⟩ := hI140
                      refine W.seq (W.region ?_)
                      refine WL.val (Value.bool (decide ((k132 : Int) < ((r_Table).length : Int)))) _ (op_lss hf165 hf164) rfl ?_
                      have hl168 : (k132 : Int) < ((r_Table).length : Int) := by omega
                      refine WL.nil ?_
                      show W _ _ _ _ _ _
                      refine W.seq ?_
                      refine W.condT (decide ((k132 : Int) < ((r_Table).length : Int))) rfl (decide_eq_true hl168) ?_
                      refine W.skip ?_
                      show W _ _ _ _ _ _
                      refine W.seq ?_
                      refine W.block ?_
                      refine W.seq (W.region ?_)
                      refine WL.val (Value.int .i64 (k132 : Int)) _ (op_move hf165) rfl ?_
                      refine WL.val (Value.int .i64 (k132 : Int)) _ (op_assign rfl) rfl ?_
                      refine WL.nil ?_
                      show W _ _ _ _ _ _
                      refine W.seq ?_
                      obtain ⟨x206, hx209, hb139⟩ := bs hb139
                      obtain ⟨ha207, hb208, hx209⟩ := idx_some hx209
                      obtain ⟨u220, hc221, hr222⟩ := repSl.el hr35 hx209
                      obtain ⟨x245, hx248, hb139⟩ := bs hb139
                      obtain ⟨ha246, hb247, hx248⟩ := idx_some hx248
                      obtain ⟨u259, hc260, hr261⟩ := repSl.el hr222 hx248
                      obtain ⟨rfl, hr261⟩ := hr261
                      obtain ⟨x301, hx304, hb139⟩ := bs hb139
                      obtain ⟨ha302, hb303, hx304⟩ := idx_some hx304
                      obtain ⟨u315, hc316, hr317⟩ := repSl.el r_r_Table hx304
                      obtain ⟨x340, hx343, hb139⟩ := bs hb139
                      obtain ⟨ha341, hb342, hx343⟩ := idx_some hx343
                      obtain ⟨u354, hc355, hr356⟩ := repSl.el hr317 hx343
                      obtain ⟨x379, hx382, hb139⟩ := bs hb139
                      obtain ⟨ha380, hb381, hx382⟩ := idx_some hx382
                      obtain ⟨u393, hc394, hr395⟩ := repSl.el hr356 hx382
                      obtain ⟨rfl, hr395⟩ := hr395
                      refine W.drawR mixo 20 [] [fun _ v _ _ => v = (Value.int .i64 x133) ∧ InR .i64 x133, fun _ v _ _ => v = u33, fun _ v _ _ => v = (Value.int .i64 (k39 : Int)) ∧ InR .i64 (k39 : Int), fun _ v _ _ => v = (Value.pointer (some (elA u33 ((k39 : Int)).toNat))), fun _ v _ _ => v = u220, fun _ v _ _ => v = (Value.int .i64 (k132 : Int)) ∧ InR .i64 (k132 : Int), fun _ v _ _ => v = (Value.pointer (some (elA u220 ((k132 : Int)).toNat))), fun _ v _ _ => v = (Value.int .i64 x245) ∧ InR .i64 x245, fun _ v _ _ => v = (Value.pointer (some ⟨b1, 0, none⟩)), fun _ v _ _ => v = v_r_Table, fun _ v _ _ => v = (Value.int .i64 (k132 : Int)) ∧ InR .i64 (k132 : Int), fun _ v _ _ => v = (Value.pointer (some (elA v_r_Table ((k132 : Int)).toNat))), fun _ v _ _ => v = u315, fun _ v _ _ => v = (Value.int .i64 (k71 : Int)) ∧ InR .i64 (k71 : Int), fun _ v _ _ => v = (Value.pointer (some (elA u315 ((k71 : Int)).toNat))), fun _ v _ _ => v = u354, fun _ v _ _ => v = (Value.int .i64 (k100 : Int)) ∧ InR .i64 (k100 : Int), fun _ v _ _ => v = (Value.pointer (some (elA u354 ((k100 : Int)).toNat))), fun _ v _ _ => v = (Value.int .i64 x379) ∧ InR .i64 x379, fun _ v _ _ => v = (Value.int .i64 (w64 (x245 * x379))) ∧ InR .i64 (w64 (x245 * x379))] (by kernel_rfl) (by kernel_rfl) ⟨⟨fun _ _ _ _ _ _ h => h, fun _ _ _ _ _ _ h => h⟩, ⟨fun _ _ _ _ _ _ h => h, fun _ _ _ _ _ _ h => h⟩, ⟨fun _ _ _ _ _ _ h => h, fun _ _ _ _ _ _ h => h⟩, ⟨fun _ _ _ _ _ _ h => h, fun _ _ _ _ _ _ h => h⟩, ⟨fun _ _ _ _ _ _ h => h, fun _ _ _ _ _ _ h => h⟩, ⟨fun _ _ _ _ _ _ h => h, fun _ _ _ _ _ _ h => h⟩, ⟨fun _ _ _ _ _ _ h => h, fun _ _ _ _ _ _ h => h⟩, ⟨fun _ _ _ _ _ _ h => h, fun _ _ _ _ _ _ h => h⟩, ⟨fun _ _ _ _ _ _ h => h, fun _ _ _ _ _ _ h => h⟩, ⟨fun _ _ _ _ _ _ h => h, fun _ _ _ _ _ _ h => h⟩, ⟨fun _ _ _ _ _ _ h => h, fun _ _ _ _ _ _ h => h⟩, ⟨fun _ _ _ _ _ _ h => h, fun _ _ _ _ _ _ h => h⟩, ⟨fun _ _ _ _ _ _ h => h, fun _ _ _ _ _ _ h => h⟩, ⟨fun _ _ _ _ _ _ h => h, fun _ _ _ _ _ _ h => h⟩, ⟨fun _ _ _ _ _ _ h => h, fun _ _ _ _ _ _ h => h⟩, ⟨fun _ _ _ _ _ _ h => h, fun _ _ _ _ _ _ h => h⟩, ⟨fun _ _ _ _ _ _ h => h, fun _ _ _ _ _ _ h => h⟩, ⟨fun _ _ _ _ _ _ h => h, fun _ _ _ _ _ _ h => h⟩, ⟨fun _ _ _ _ _ _ h => h, fun _ _ _ _ _ _ h => h⟩, ⟨fun _ _ _ _ _ _ h => h, fun _ _ _ _ _ _ h => h⟩, trivial⟩ ⟨?_, ?_, ?_, ?_, ?_, ?_, ?_, ?_, ?_, ?_, ?_, ?_, ?_, ?_, ?_, ?_, ?_, ?_, ?_, ?_, trivial⟩ ?_
                      · refine ObX.op rfl ?_
                        intro f170 wd171 he172 hout173 hphi174
                        have hS175 : St wd2 wd171 [] := St.extend hS167 he172
                        have e176 : f170 9 = (Value.int .i64 x133) := (hout173 9 rfl).trans hf150
                        exact OpX.val (Value.int .i64 x133) wd171 rfl (op_move e176) (Ext.refl _) ⟨rfl, hr151⟩
                      · refine ObX.op rfl ?_
                        intro f177 wd178 he179 hout180 hphi181
                        have hS182 : St wd2 wd178 [] := St.extend hS167 he179
                        have e183 : f177 4 = u33 := (hout180 4 rfl).trans hf145
                        exact OpX.val u33 wd178 rfl (op_move e183) (Ext.refl _) rfl
                      · refine ObX.op rfl ?_
                        intro f184 wd185 he186 hout187 hphi188
                        have hS189 : St wd2 wd185 [] := St.extend hS167 he186
                        have e190 : f184 5 = (Value.int .i64 (k39 : Int)) := (hout187 5 rfl).trans hf146
                        exact OpX.val (Value.int .i64 (k39 : Int)) wd185 rfl (op_move e190) (Ext.refl _) ⟨rfl, hr57⟩
                      · refine ObX.op rfl ?_
                        intro f191 wd192 he193 hout194 hphi195
                        have hS196 : St wd2 wd192 [] := St.extend hS167 he193
                        obtain ⟨S197, hS198, hf199⟩ := hphi195 1 47 _ rfl rfl rfl
                        have e200 : f191 47 = u33 := hf199
                        obtain ⟨S201, hS202, hf203⟩ := hphi195 2 48 _ rfl rfl rfl
                        obtain ⟨e204, hr205⟩ : f191 48 = (Value.int .i64 (k39 : Int)) ∧ InR .i64 (k39 : Int) := hf203
                        exact OpX.val (Value.pointer (some (elA u33 ((k39 : Int)).toNat))) wd192 rfl (op_idx sl_65 (Ty.lift _ (Ext.trans hE7 hS196.ext) hr35) e200 e204 ha207 hb208) (Ext.refl _) rfl
                      · refine ObX.op rfl ?_
                        intro f210 wd211 he212 hout213 hphi214
                        have hS215 : St wd2 wd211 [] := St.extend hS167 he212
                        obtain ⟨S216, hS217, hf218⟩ := hphi214 3 49 _ rfl rfl rfl
                        have e219 : f210 49 = (Value.pointer (some (elA u33 ((k39 : Int)).toNat))) := hf218
                        exact OpX.val u220 wd211 rfl (op_load one_25 e219 (Ext.cell (Ext.trans hE7 hS215.ext) hc221)) (Ext.refl _) rfl
                      · refine ObX.op rfl ?_
                        intro f223 wd224 he225 hout226 hphi227
                        have hS228 : St wd2 wd224 [] := St.extend hS167 he225
                        have e229 : f223 11 = (Value.int .i64 (k132 : Int)) := (hout226 11 rfl).trans rfl
                        exact OpX.val (Value.int .i64 (k132 : Int)) wd224 rfl (op_move e229) (Ext.refl _) ⟨rfl, hr166⟩
                      · refine ObX.op rfl ?_
                        intro f230 wd231 he232 hout233 hphi234
                        have hS235 : St wd2 wd231 [] := St.extend hS167 he232
                        obtain ⟨S236, hS237, hf238⟩ := hphi234 4 50 _ rfl rfl rfl
                        have e239 : f230 50 = u220 := hf238
                        obtain ⟨S240, hS241, hf242⟩ := hphi234 5 51 _ rfl rfl rfl
                        obtain ⟨e243, hr244⟩ : f230 51 = (Value.int .i64 (k132 : Int)) ∧ InR .i64 (k132 : Int) := hf242
                        exact OpX.val (Value.pointer (some (elA u220 ((k132 : Int)).toNat))) wd231 rfl (op_idx sl_25 (Ty.lift _ (Ext.trans hE7 hS235.ext) hr222) e239 e243 ha246 hb247) (Ext.refl _) rfl
                      · refine ObX.op rfl ?_
                        intro f249 wd250 he251 hout252 hphi253
                        have hS254 : St wd2 wd250 [] := St.extend hS167 he251
                        obtain ⟨S255, hS256, hf257⟩ := hphi253 6 52 _ rfl rfl rfl
                        have e258 : f249 52 = (Value.pointer (some (elA u220 ((k132 : Int)).toNat))) := hf257
                        exact OpX.val (Value.int .i64 x245) wd250 rfl (op_load one_2 e258 (Ext.cell (Ext.trans hE7 hS254.ext) hc260)) (Ext.refl _) ⟨rfl, hr261⟩
                      · refine ObX.op rfl ?_
                        intro f262 wd263 he264 hout265 hphi266
                        have hS267 : St wd2 wd263 [] := St.extend hS167 he264
                        have e268 : f262 1 = (Value.pointer (some ⟨b1, 0, none⟩)) := (hout265 1 rfl).trans hf143
                        exact OpX.val (Value.pointer (some ⟨b1, 0, none⟩)) wd263 rfl (op_fieldAddr fd_29_0 e268) (Ext.refl _) rfl
                      · refine ObX.op rfl ?_
                        intro f269 wd270 he271 hout272 hphi273
                        have hS274 : St wd2 wd270 [] := St.extend hS167 he271
                        obtain ⟨S275, hS276, hf277⟩ := hphi273 8 54 _ rfl rfl rfl
                        have e278 : f269 54 = (Value.pointer (some ⟨b1, 0, none⟩)) := hf277
                        exact OpX.val v_r_Table wd270 rfl (op_load one_22 e278 (BoxAt.cell (BoxAt.lift hS274.ext hx6) rfl)) (Ext.refl _) rfl
                      · refine ObX.op rfl ?_
                        intro f279 wd280 he281 hout282 hphi283
                        have hS284 : St wd2 wd280 [] := St.extend hS167 he281
                        have e285 : f279 11 = (Value.int .i64 (k132 : Int)) := (hout282 11 rfl).trans rfl
                        exact OpX.val (Value.int .i64 (k132 : Int)) wd280 rfl (op_move e285) (Ext.refl _) ⟨rfl, hr166⟩
                      · refine ObX.op rfl ?_
                        intro f286 wd287 he288 hout289 hphi290
                        have hS291 : St wd2 wd287 [] := St.extend hS167 he288
                        obtain ⟨S292, hS293, hf294⟩ := hphi290 9 55 _ rfl rfl rfl
                        have e295 : f286 55 = v_r_Table := hf294
                        obtain ⟨S296, hS297, hf298⟩ := hphi290 10 56 _ rfl rfl rfl
                        obtain ⟨e299, hr300⟩ : f286 56 = (Value.int .i64 (k132 : Int)) ∧ InR .i64 (k132 : Int) := hf298
                        exact OpX.val (Value.pointer (some (elA v_r_Table ((k132 : Int)).toNat))) wd287 rfl (op_idx sl_22 (Ty.lift _ (Ext.trans hE7 hS291.ext) r_r_Table) e295 e299 ha302 hb303) (Ext.refl _) rfl
                      · refine ObX.op rfl ?_
                        intro f305 wd306 he307 hout308 hphi309
                        have hS310 : St wd2 wd306 [] := St.extend hS167 he307
                        obtain ⟨S311, hS312, hf313⟩ := hphi309 11 57 _ rfl rfl rfl
                        have e314 : f305 57 = (Value.pointer (some (elA v_r_Table ((k132 : Int)).toNat))) := hf313
                        exact OpX.val u315 wd306 rfl (op_load one_65 e314 (Ext.cell (Ext.trans hE7 hS310.ext) hc316)) (Ext.refl _) rfl
                      · refine ObX.op rfl ?_
                        intro f318 wd319 he320 hout321 hphi322
                        have hS323 : St wd2 wd319 [] := St.extend hS167 he320
                        have e324 : f318 7 = (Value.int .i64 (k71 : Int)) := (hout321 7 rfl).trans hf148
                        exact OpX.val (Value.int .i64 (k71 : Int)) wd319 rfl (op_move e324) (Ext.refl _) ⟨rfl, hr93⟩
                      · refine ObX.op rfl ?_
                        intro f325 wd326 he327 hout328 hphi329
                        have hS330 : St wd2 wd326 [] := St.extend hS167 he327
                        obtain ⟨S331, hS332, hf333⟩ := hphi329 12 58 _ rfl rfl rfl
                        have e334 : f325 58 = u315 := hf333
                        obtain ⟨S335, hS336, hf337⟩ := hphi329 13 59 _ rfl rfl rfl
                        obtain ⟨e338, hr339⟩ : f325 59 = (Value.int .i64 (k71 : Int)) ∧ InR .i64 (k71 : Int) := hf337
                        exact OpX.val (Value.pointer (some (elA u315 ((k71 : Int)).toNat))) wd326 rfl (op_idx sl_65 (Ty.lift _ (Ext.trans hE7 hS330.ext) hr317) e334 e338 ha341 hb342) (Ext.refl _) rfl
                      · refine ObX.op rfl ?_
                        intro f344 wd345 he346 hout347 hphi348
                        have hS349 : St wd2 wd345 [] := St.extend hS167 he346
                        obtain ⟨S350, hS351, hf352⟩ := hphi348 14 60 _ rfl rfl rfl
                        have e353 : f344 60 = (Value.pointer (some (elA u315 ((k71 : Int)).toNat))) := hf352
                        exact OpX.val u354 wd345 rfl (op_load one_25 e353 (Ext.cell (Ext.trans hE7 hS349.ext) hc355)) (Ext.refl _) rfl
                      · refine ObX.op rfl ?_
                        intro f357 wd358 he359 hout360 hphi361
                        have hS362 : St wd2 wd358 [] := St.extend hS167 he359
                        have e363 : f357 8 = (Value.int .i64 (k100 : Int)) := (hout360 8 rfl).trans hf149
                        exact OpX.val (Value.int .i64 (k100 : Int)) wd358 rfl (op_move e363) (Ext.refl _) ⟨rfl, hr125⟩
                      · refine ObX.op rfl ?_
                        intro f364 wd365 he366 hout367 hphi368
                        have hS369 : St wd2 wd365 [] := St.extend hS167 he366
                        obtain ⟨S370, hS371, hf372⟩ := hphi368 15 61 _ rfl rfl rfl
                        have e373 : f364 61 = u354 := hf372
                        obtain ⟨S374, hS375, hf376⟩ := hphi368 16 62 _ rfl rfl rfl
                        obtain ⟨e377, hr378⟩ : f364 62 = (Value.int .i64 (k100 : Int)) ∧ InR .i64 (k100 : Int) := hf376
                        exact OpX.val (Value.pointer (some (elA u354 ((k100 : Int)).toNat))) wd365 rfl (op_idx sl_25 (Ty.lift _ (Ext.trans hE7 hS369.ext) hr356) e373 e377 ha380 hb381) (Ext.refl _) rfl
                      · refine ObX.op rfl ?_
                        intro f383 wd384 he385 hout386 hphi387
                        have hS388 : St wd2 wd384 [] := St.extend hS167 he385
                        obtain ⟨S389, hS390, hf391⟩ := hphi387 17 63 _ rfl rfl rfl
                        have e392 : f383 63 = (Value.pointer (some (elA u354 ((k100 : Int)).toNat))) := hf391
                        exact OpX.val (Value.int .i64 x379) wd384 rfl (op_load one_2 e392 (Ext.cell (Ext.trans hE7 hS388.ext) hc394)) (Ext.refl _) ⟨rfl, hr395⟩
                      · refine ObX.op rfl ?_
                        intro f396 wd397 he398 hout399 hphi400
                        have hS401 : St wd2 wd397 [] := St.extend hS167 he398
                        obtain ⟨S402, hS403, hf404⟩ := hphi400 7 53 _ rfl rfl rfl
                        obtain ⟨e405, hr406⟩ : f396 53 = (Value.int .i64 x245) ∧ InR .i64 x245 := hf404
                        obtain ⟨S407, hS408, hf409⟩ := hphi400 18 64 _ rfl rfl rfl
                        obtain ⟨e410, hr411⟩ : f396 64 = (Value.int .i64 x379) ∧ InR .i64 x379 := hf409
                        exact OpX.val (Value.int .i64 (w64 (x245 * x379))) wd397 rfl (op_mul e405 e410) (Ext.refl _) ⟨rfl, (inR_wrap _ _)⟩
                      · intro f412 wd413 Ss414 he415 hout416 hSn417 hSd418 hphi419
                        show WL _ _ _ _ _ _ _
                        have hS420 : St wd2 wd413 [] := St.extend hS167 he415
                        obtain ⟨e421, hr422⟩ : f412 46 = (Value.int .i64 x133) ∧ InR .i64 x133 := hphi419 0 46 _ (by decide) rfl rfl
                        obtain ⟨e423, hr424⟩ : f412 65 = (Value.int .i64 (w64 (x245 * x379))) ∧ InR .i64 (w64 (x245 * x379)) := hphi419 19 65 _ (by decide) rfl rfl
                        have e425 : f412 1 = (Value.pointer (some ⟨b1, 0, none⟩)) := (hout416 1 rfl).trans hf143
                        have e426 : f412 3 = (Value.int .i64 (k12 : Int)) := (hout416 3 rfl).trans hf144
                        have e427 : f412 4 = u33 := (hout416 4 rfl).trans hf145
                        have e428 : f412 5 = (Value.int .i64 (k39 : Int)) := (hout416 5 rfl).trans hf146
                        have e429 : f412 6 = u65 := (hout416 6 rfl).trans hf147
                        have e430 : f412 7 = (Value.int .i64 (k71 : Int)) := (hout416 7 rfl).trans hf148
                        have e431 : f412 8 = (Value.int .i64 (k100 : Int)) := (hout416 8 rfl).trans hf149
                        have e432 : f412 10 = (Value.int .i64 x134) := (hout416 10 rfl).trans hf152
                        have e433 : f412 11 = (Value.int .i64 (k132 : Int)) := (hout416 11 rfl).trans rfl
                        have e434 : f412 13 = v_r_Table := (hout416 13 rfl).trans hf154
                        have e435 : f412 14 = (Value.int .i64 ((r_Table).length : Int)) := (hout416 14 rfl).trans hf155
                        have e436 : f412 15 = (Value.int .i64 (k12 : Int)) := (hout416 15 rfl).trans hf156
                        have e437 : f412 21 = v_r_Table := (hout416 21 rfl).trans hf157
                        have e438 : f412 22 = (Value.int .i64 ((r_Table).length : Int)) := (hout416 22 rfl).trans hf158
                        have e439 : f412 23 = (Value.int .i64 (k39 : Int)) := (hout416 23 rfl).trans hf159
                        have e440 : f412 30 = (Value.int .i64 ((r_Table).length : Int)) := (hout416 30 rfl).trans hf160
                        have e441 : f412 31 = (Value.int .i64 (k71 : Int)) := (hout416 31 rfl).trans hf161
                        have e442 : f412 36 = (Value.int .i64 ((r_Table).length : Int)) := (hout416 36 rfl).trans hf162
                        have e443 : f412 37 = (Value.int .i64 (k100 : Int)) := (hout416 37 rfl).trans hf163
                        have e444 : f412 42 = (Value.int .i64 ((r_Table).length : Int)) := (hout416 42 rfl).trans hf164
                        have e445 : f412 43 = (Value.int .i64 (k132 : Int)) := (hout416 43 rfl).trans hf165
                        refine WL.val (Value.int .i64 (w64 (x133 + (w64 (x245 * x379))))) _ (op_add e421 e423) rfl ?_
                        refine WL.val (Value.int .i64 (w64 (x133 + (w64 (x245 * x379))))) _ (op_assign rfl) rfl ?_
                        refine WL.nil ?_
                        show W _ _ _ _ _ _
                        obtain ⟨x482, hx485, hb139⟩ := bs hb139
                        obtain ⟨ha483, hb484, hx485⟩ := idx_some hx485
                        obtain ⟨u496, hc497, hr498⟩ := repSl.el hr67 hx485
                        obtain ⟨x521, hx524, hb139⟩ := bs hb139
                        obtain ⟨ha522, hb523, hx524⟩ := idx_some hx524
                        obtain ⟨u535, hc536, hr537⟩ := repSl.el hr498 hx524
                        obtain ⟨rfl, hr537⟩ := hr537
                        obtain ⟨x567, hx570, hb139⟩ := bs hb139
                        obtain ⟨ha568, hb569, hx570⟩ := idx_some hx570
                        obtain ⟨u581, hc582, hr583⟩ := repSl.el hr35 hx570
                        obtain ⟨x606, hx609, hb139⟩ := bs hb139
                        obtain ⟨ha607, hb608, hx609⟩ := idx_some hx609
                        obtain ⟨u620, hc621, hr622⟩ := repSl.el hr583 hx609
                        obtain ⟨rfl, hr622⟩ := hr622
                        refine W.drawR mixo 16 [] [fun _ v _ _ => v = (Value.int .i64 x134) ∧ InR .i64 x134, fun _ v _ _ => v = u65, fun _ v _ _ => v = (Value.int .i64 (k71 : Int)) ∧ InR .i64 (k71 : Int), fun _ v _ _ => v = (Value.pointer (some (elA u65 ((k71 : Int)).toNat))), fun _ v _ _ => v = u496, fun _ v _ _ => v = (Value.int .i64 (k132 : Int)) ∧ InR .i64 (k132 : Int), fun _ v _ _ => v = (Value.pointer (some (elA u496 ((k132 : Int)).toNat))), fun _ v _ _ => v = (Value.int .i64 x521) ∧ InR .i64 x521, fun _ v _ _ => v = u33, fun _ v _ _ => v = (Value.int .i64 (k132 : Int)) ∧ InR .i64 (k132 : Int), fun _ v _ _ => v = (Value.pointer (some (elA u33 ((k132 : Int)).toNat))), fun _ v _ _ => v = u581, fun _ v _ _ => v = (Value.int .i64 (k100 : Int)) ∧ InR .i64 (k100 : Int), fun _ v _ _ => v = (Value.pointer (some (elA u581 ((k100 : Int)).toNat))), fun _ v _ _ => v = (Value.int .i64 x606) ∧ InR .i64 x606, fun _ v _ _ => v = (Value.int .i64 (w64 (x521 * x606))) ∧ InR .i64 (w64 (x521 * x606))] (by kernel_rfl) (by kernel_rfl) ⟨⟨fun _ _ _ _ _ _ h => h, fun _ _ _ _ _ _ h => h⟩, ⟨fun _ _ _ _ _ _ h => h, fun _ _ _ _ _ _ h => h⟩, ⟨fun _ _ _ _ _ _ h => h, fun _ _ _ _ _ _ h => h⟩, ⟨fun _ _ _ _ _ _ h => h, fun _ _ _ _ _ _ h => h⟩, ⟨fun _ _ _ _ _ _ h => h, fun _ _ _ _ _ _ h => h⟩, ⟨fun _ _ _ _ _ _ h => h, fun _ _ _ _ _ _ h => h⟩, ⟨fun _ _ _ _ _ _ h => h, fun _ _ _ _ _ _ h => h⟩, ⟨fun _ _ _ _ _ _ h => h, fun _ _ _ _ _ _ h => h⟩, ⟨fun _ _ _ _ _ _ h => h, fun _ _ _ _ _ _ h => h⟩, ⟨fun _ _ _ _ _ _ h => h, fun _ _ _ _ _ _ h => h⟩, ⟨fun _ _ _ _ _ _ h => h, fun _ _ _ _ _ _ h => h⟩, ⟨fun _ _ _ _ _ _ h => h, fun _ _ _ _ _ _ h => h⟩, ⟨fun _ _ _ _ _ _ h => h, fun _ _ _ _ _ _ h => h⟩, ⟨fun _ _ _ _ _ _ h => h, fun _ _ _ _ _ _ h => h⟩, ⟨fun _ _ _ _ _ _ h => h, fun _ _ _ _ _ _ h => h⟩, ⟨fun _ _ _ _ _ _ h => h, fun _ _ _ _ _ _ h => h⟩, trivial⟩ ⟨?_, ?_, ?_, ?_, ?_, ?_, ?_, ?_, ?_, ?_, ?_, ?_, ?_, ?_, ?_, ?_, trivial⟩ ?_
                        · refine ObX.op rfl ?_
                          intro f446 wd447 he448 hout449 hphi450
                          have hS451 : St wd2 wd447 [] := St.extend hS420 he448
                          have e452 : f446 10 = (Value.int .i64 x134) := (hout449 10 rfl).trans e432
                          exact OpX.val (Value.int .i64 x134) wd447 rfl (op_move e452) (Ext.refl _) ⟨rfl, hr153⟩
                        · refine ObX.op rfl ?_
                          intro f453 wd454 he455 hout456 hphi457
                          have hS458 : St wd2 wd454 [] := St.extend hS420 he455
                          have e459 : f453 6 = u65 := (hout456 6 rfl).trans e429
                          exact OpX.val u65 wd454 rfl (op_move e459) (Ext.refl _) rfl
                        · refine ObX.op rfl ?_
                          intro f460 wd461 he462 hout463 hphi464
                          have hS465 : St wd2 wd461 [] := St.extend hS420 he462
                          have e466 : f460 7 = (Value.int .i64 (k71 : Int)) := (hout463 7 rfl).trans e430
                          exact OpX.val (Value.int .i64 (k71 : Int)) wd461 rfl (op_move e466) (Ext.refl _) ⟨rfl, hr93⟩
                        · refine ObX.op rfl ?_
                          intro f467 wd468 he469 hout470 hphi471
                          have hS472 : St wd2 wd468 [] := St.extend hS420 he469
                          obtain ⟨S473, hS474, hf475⟩ := hphi471 1 68 _ rfl rfl rfl
                          have e476 : f467 68 = u65 := hf475
                          obtain ⟨S477, hS478, hf479⟩ := hphi471 2 69 _ rfl rfl rfl
                          obtain ⟨e480, hr481⟩ : f467 69 = (Value.int .i64 (k71 : Int)) ∧ InR .i64 (k71 : Int) := hf479
                          exact OpX.val (Value.pointer (some (elA u65 ((k71 : Int)).toNat))) wd468 rfl (op_idx sl_65 (Ty.lift _ (Ext.trans hE7 hS472.ext) hr67) e476 e480 ha483 hb484) (Ext.refl _) rfl
                        · refine ObX.op rfl ?_
                          intro f486 wd487 he488 hout489 hphi490
                          have hS491 : St wd2 wd487 [] := St.extend hS420 he488
                          obtain ⟨S492, hS493, hf494⟩ := hphi490 3 70 _ rfl rfl rfl
                          have e495 : f486 70 = (Value.pointer (some (elA u65 ((k71 : Int)).toNat))) := hf494
                          exact OpX.val u496 wd487 rfl (op_load one_25 e495 (Ext.cell (Ext.trans hE7 hS491.ext) hc497)) (Ext.refl _) rfl
                        · refine ObX.op rfl ?_
                          intro f499 wd500 he501 hout502 hphi503
                          have hS504 : St wd2 wd500 [] := St.extend hS420 he501
                          have e505 : f499 11 = (Value.int .i64 (k132 : Int)) := (hout502 11 rfl).trans e433
                          exact OpX.val (Value.int .i64 (k132 : Int)) wd500 rfl (op_move e505) (Ext.refl _) ⟨rfl, hr166⟩
                        · refine ObX.op rfl ?_
                          intro f506 wd507 he508 hout509 hphi510
                          have hS511 : St wd2 wd507 [] := St.extend hS420 he508
                          obtain ⟨S512, hS513, hf514⟩ := hphi510 4 71 _ rfl rfl rfl
                          have e515 : f506 71 = u496 := hf514
                          obtain ⟨S516, hS517, hf518⟩ := hphi510 5 72 _ rfl rfl rfl
                          obtain ⟨e519, hr520⟩ : f506 72 = (Value.int .i64 (k132 : Int)) ∧ InR .i64 (k132 : Int) := hf518
                          exact OpX.val (Value.pointer (some (elA u496 ((k132 : Int)).toNat))) wd507 rfl (op_idx sl_25 (Ty.lift _ (Ext.trans hE7 hS511.ext) hr498) e515 e519 ha522 hb523) (Ext.refl _) rfl
                        · refine ObX.op rfl ?_
                          intro f525 wd526 he527 hout528 hphi529
                          have hS530 : St wd2 wd526 [] := St.extend hS420 he527
                          obtain ⟨S531, hS532, hf533⟩ := hphi529 6 73 _ rfl rfl rfl
                          have e534 : f525 73 = (Value.pointer (some (elA u496 ((k132 : Int)).toNat))) := hf533
                          exact OpX.val (Value.int .i64 x521) wd526 rfl (op_load one_2 e534 (Ext.cell (Ext.trans hE7 hS530.ext) hc536)) (Ext.refl _) ⟨rfl, hr537⟩
                        · refine ObX.op rfl ?_
                          intro f538 wd539 he540 hout541 hphi542
                          have hS543 : St wd2 wd539 [] := St.extend hS420 he540
                          have e544 : f538 4 = u33 := (hout541 4 rfl).trans e427
                          exact OpX.val u33 wd539 rfl (op_move e544) (Ext.refl _) rfl
                        · refine ObX.op rfl ?_
                          intro f545 wd546 he547 hout548 hphi549
                          have hS550 : St wd2 wd546 [] := St.extend hS420 he547
                          have e551 : f545 11 = (Value.int .i64 (k132 : Int)) := (hout548 11 rfl).trans e433
                          exact OpX.val (Value.int .i64 (k132 : Int)) wd546 rfl (op_move e551) (Ext.refl _) ⟨rfl, hr166⟩
                        · refine ObX.op rfl ?_
                          intro f552 wd553 he554 hout555 hphi556
                          have hS557 : St wd2 wd553 [] := St.extend hS420 he554
                          obtain ⟨S558, hS559, hf560⟩ := hphi556 8 75 _ rfl rfl rfl
                          have e561 : f552 75 = u33 := hf560
                          obtain ⟨S562, hS563, hf564⟩ := hphi556 9 76 _ rfl rfl rfl
                          obtain ⟨e565, hr566⟩ : f552 76 = (Value.int .i64 (k132 : Int)) ∧ InR .i64 (k132 : Int) := hf564
                          exact OpX.val (Value.pointer (some (elA u33 ((k132 : Int)).toNat))) wd553 rfl (op_idx sl_65 (Ty.lift _ (Ext.trans hE7 hS557.ext) hr35) e561 e565 ha568 hb569) (Ext.refl _) rfl
                        · refine ObX.op rfl ?_
                          intro f571 wd572 he573 hout574 hphi575
                          have hS576 : St wd2 wd572 [] := St.extend hS420 he573
                          obtain ⟨S577, hS578, hf579⟩ := hphi575 10 77 _ rfl rfl rfl
                          have e580 : f571 77 = (Value.pointer (some (elA u33 ((k132 : Int)).toNat))) := hf579
                          exact OpX.val u581 wd572 rfl (op_load one_25 e580 (Ext.cell (Ext.trans hE7 hS576.ext) hc582)) (Ext.refl _) rfl
                        · refine ObX.op rfl ?_
                          intro f584 wd585 he586 hout587 hphi588
                          have hS589 : St wd2 wd585 [] := St.extend hS420 he586
                          have e590 : f584 8 = (Value.int .i64 (k100 : Int)) := (hout587 8 rfl).trans e431
                          exact OpX.val (Value.int .i64 (k100 : Int)) wd585 rfl (op_move e590) (Ext.refl _) ⟨rfl, hr125⟩
                        · refine ObX.op rfl ?_
                          intro f591 wd592 he593 hout594 hphi595
                          have hS596 : St wd2 wd592 [] := St.extend hS420 he593
                          obtain ⟨S597, hS598, hf599⟩ := hphi595 11 78 _ rfl rfl rfl
                          have e600 : f591 78 = u581 := hf599
                          obtain ⟨S601, hS602, hf603⟩ := hphi595 12 79 _ rfl rfl rfl
                          obtain ⟨e604, hr605⟩ : f591 79 = (Value.int .i64 (k100 : Int)) ∧ InR .i64 (k100 : Int) := hf603
                          exact OpX.val (Value.pointer (some (elA u581 ((k100 : Int)).toNat))) wd592 rfl (op_idx sl_25 (Ty.lift _ (Ext.trans hE7 hS596.ext) hr583) e600 e604 ha607 hb608) (Ext.refl _) rfl
                        · refine ObX.op rfl ?_
                          intro f610 wd611 he612 hout613 hphi614
                          have hS615 : St wd2 wd611 [] := St.extend hS420 he612
                          obtain ⟨S616, hS617, hf618⟩ := hphi614 13 80 _ rfl rfl rfl
                          have e619 : f610 80 = (Value.pointer (some (elA u581 ((k100 : Int)).toNat))) := hf618
                          exact OpX.val (Value.int .i64 x606) wd611 rfl (op_load one_2 e619 (Ext.cell (Ext.trans hE7 hS615.ext) hc621)) (Ext.refl _) ⟨rfl, hr622⟩
                        · refine ObX.op rfl ?_
                          intro f623 wd624 he625 hout626 hphi627
                          have hS628 : St wd2 wd624 [] := St.extend hS420 he625
                          obtain ⟨S629, hS630, hf631⟩ := hphi627 7 74 _ rfl rfl rfl
                          obtain ⟨e632, hr633⟩ : f623 74 = (Value.int .i64 x521) ∧ InR .i64 x521 := hf631
                          obtain ⟨S634, hS635, hf636⟩ := hphi627 14 81 _ rfl rfl rfl
                          obtain ⟨e637, hr638⟩ : f623 81 = (Value.int .i64 x606) ∧ InR .i64 x606 := hf636
                          exact OpX.val (Value.int .i64 (w64 (x521 * x606))) wd624 rfl (op_mul e632 e637) (Ext.refl _) ⟨rfl, (inR_wrap _ _)⟩
                        · intro f639 wd640 Ss641 he642 hout643 hSn644 hSd645 hphi646
                          show WL _ _ _ _ _ _ _
                          have hS647 : St wd2 wd640 [] := St.extend hS420 he642
                          obtain ⟨e648, hr649⟩ : f639 67 = (Value.int .i64 x134) ∧ InR .i64 x134 := hphi646 0 67 _ (by decide) rfl rfl
                          obtain ⟨e650, hr651⟩ : f639 82 = (Value.int .i64 (w64 (x521 * x606))) ∧ InR .i64 (w64 (x521 * x606)) := hphi646 15 82 _ (by decide) rfl rfl
                          have e652 : f639 1 = (Value.pointer (some ⟨b1, 0, none⟩)) := (hout643 1 rfl).trans e425
                          have e653 : f639 3 = (Value.int .i64 (k12 : Int)) := (hout643 3 rfl).trans e426
                          have e654 : f639 4 = u33 := (hout643 4 rfl).trans e427
                          have e655 : f639 5 = (Value.int .i64 (k39 : Int)) := (hout643 5 rfl).trans e428
                          have e656 : f639 6 = u65 := (hout643 6 rfl).trans e429
                          have e657 : f639 7 = (Value.int .i64 (k71 : Int)) := (hout643 7 rfl).trans e430
                          have e658 : f639 8 = (Value.int .i64 (k100 : Int)) := (hout643 8 rfl).trans e431
                          have e659 : f639 9 = (Value.int .i64 (w64 (x133 + (w64 (x245 * x379))))) := (hout643 9 rfl).trans rfl
                          have e660 : f639 13 = v_r_Table := (hout643 13 rfl).trans e434
                          have e661 : f639 14 = (Value.int .i64 ((r_Table).length : Int)) := (hout643 14 rfl).trans e435
                          have e662 : f639 15 = (Value.int .i64 (k12 : Int)) := (hout643 15 rfl).trans e436
                          have e663 : f639 21 = v_r_Table := (hout643 21 rfl).trans e437
                          have e664 : f639 22 = (Value.int .i64 ((r_Table).length : Int)) := (hout643 22 rfl).trans e438
                          have e665 : f639 23 = (Value.int .i64 (k39 : Int)) := (hout643 23 rfl).trans e439
                          have e666 : f639 30 = (Value.int .i64 ((r_Table).length : Int)) := (hout643 30 rfl).trans e440
                          have e667 : f639 31 = (Value.int .i64 (k71 : Int)) := (hout643 31 rfl).trans e441
                          have e668 : f639 36 = (Value.int .i64 ((r_Table).length : Int)) := (hout643 36 rfl).trans e442
                          have e669 : f639 37 = (Value.int .i64 (k100 : Int)) := (hout643 37 rfl).trans e443
                          have e670 : f639 42 = (Value.int .i64 ((r_Table).length : Int)) := (hout643 42 rfl).trans e444
                          have e671 : f639 43 = (Value.int .i64 (k132 : Int)) := (hout643 43 rfl).trans e445
                          refine WL.val (Value.int .i64 (w64 (x134 + (w64 (x521 * x606))))) _ (op_add e648 e650) rfl ?_
                          refine WL.val (Value.int .i64 (w64 (x134 + (w64 (x521 * x606))))) _ (op_assign rfl) rfl ?_
                          refine WL.nil ?_
                          show W _ _ _ _ _ _
                          refine W.region ?_
                          refine WL.val (Value.int .i64 (w64 ((k132 : Int) + (1 : Int)))) _ (op_add e671 rfl) rfl ?_
                          refine WL.val (Value.int .i64 (w64 ((k132 : Int) + (1 : Int)))) _ (op_move rfl) rfl ?_
                          refine WL.nil ?_
                          obtain rfl := Option.some.inj hb139
                          show ∃ s, _ = Ctl.next s ∧ _
                          exact ⟨_, rfl, e652, e653, e654, e655, e656, e657, e658, e659, (inR_wrap _ _), rfl, (inR_wrap _ _), e660, e661, e662, e663, e664, e665, e666, e667, e668, e669, e670, (ctr_next hl168 hr129), (ctr_rng hl168 hr129), hS647⟩
                    · intro s677 f673 wd674 hs675 hI676
                      obtain ⟨x678, x679⟩ := s677
                      replace hI676 : f673 1 = (Value.pointer (some ⟨b1, 0, none⟩)) ∧ f673 3 = (Value.int .i64 (k12 : Int)) ∧ f673 4 = u33 ∧ f673 5 = (Value.int .i64 (k39 : Int)) ∧ f673 6 = u65 ∧ f673 7 = (Value.int .i64 (k71 : Int)) ∧ f673 8 = (Value.int .i64 (k100 : Int)) ∧ f673 9 = Value.int .i64 x678 ∧ InR .i64 x678 ∧ f673 10 = Value.int .i64 x679 ∧ InR .i64 x679 ∧ f673 13 = v_r_Table ∧ f673 14 = (Value.int .i64 ((r_Table).length : Int)) ∧ f673 15 = (Value.int .i64 (k12 : Int)) ∧ f673 21 = v_r_Table ∧ f673 22 = (Value.int .i64 ((r_Table).length : Int)) ∧ f673 23 = (Value.int .i64 (k39 : Int)) ∧ f673 30 = (Value.int .i64 ((r_Table).length : Int)) ∧ f673 31 = (Value.int .i64 (k71 : Int)) ∧ f673 36 = (Value.int .i64 ((r_Table).length : Int)) ∧ f673 37 = (Value.int .i64 (k100 : Int)) ∧ f673 42 = (Value.int .i64 ((r_Table).length : Int)) ∧ f673 43 = Value.int .i64 (((r_Table).length : Nat) : Int) ∧ InR .i64 (((r_Table).length : Nat) : Int) ∧ St wd2 wd674 [] := hI676
                      obtain ⟨hf680, hf681, hf682, hf683, hf684, hf685, hf686, hf687, hr688, hf689, hr690, hf691, hf692, hf693, hf694, hf695, hf696, hf697, hf698, hf699, hf700, hf701, hf702, hr703, hS704⟩ := hI676
                      refine W.seq (W.region ?_)
                      refine WL.val (Value.bool (decide ((((r_Table).length : Nat) : Int) < ((r_Table).length : Int)))) _ (op_lss hf702 hf701) rfl ?_
                      have hl705 : ¬ (((r_Table).length : Nat) : Int) < ((r_Table).length : Int) := by omega
                      refine WL.nil ?_
                      show W _ _ _ _ _ _
                      refine W.seq ?_
                      refine W.condF (decide ((((r_Table).length : Nat) : Int) < ((r_Table).length : Int))) rfl (decide_eq_false hl705) ?_
                      refine W.exit ?_
                      show _ = _ ∧ _
                      exact ⟨rfl, _, hs675, hf680, hf681, hf682, hf683, hf684, hf685, hf686, hf687, hr688, hf689, hr690, hf691, hf692, hf693, hf694, hf695, hf696, hf697, hf698, hf699, hf700, hS704⟩
                  · rintro f706 wd707 ⟨s709, rfl, hq708⟩
                    replace hb105 := onRes_fin hb105
                    obtain ⟨x710, x711⟩ := s709
                    replace hq708 : f706 1 = (Value.pointer (some ⟨b1, 0, none⟩)) ∧ f706 3 = (Value.int .i64 (k12 : Int)) ∧ f706 4 = u33 ∧ f706 5 = (Value.int .i64 (k39 : Int)) ∧ f706 6 = u65 ∧ f706 7 = (Value.int .i64 (k71 : Int)) ∧ f706 8 = (Value.int .i64 (k100 : Int)) ∧ f706 9 = Value.int .i64 x710 ∧ InR .i64 x710 ∧ f706 10 = Value.int .i64 x711 ∧ InR .i64 x711 ∧ f706 13 = v_r_Table ∧ f706 14 = (Value.int .i64 ((r_Table).length : Int)) ∧ f706 15 = (Value.int .i64 (k12 : Int)) ∧ f706 21 = v_r_Table ∧ f706 22 = (Value.int .i64 ((r_Table).length : Int)) ∧ f706 23 = (Value.int .i64 (k39 : Int)) ∧ f706 30 = (Value.int .i64 ((r_Table).length : Int)) ∧ f706 31 = (Value.int .i64 (k71 : Int)) ∧ f706 36 = (Value.int .i64 ((r_Table).length : Int)) ∧ f706 37 = (Value.int .i64 (k100 : Int)) ∧ St wd2 wd707 [] := hq708
                    replace hb105 : (_ : Option _) = _ := hb105
                    dsimp only at hb105
                    obtain ⟨hf712, hf713, hf714, hf715, hf716, hf717, hf718, hf719, hr720, hf721, hr722, hf723, hf724, hf725, hf726, hf727, hf728, hf729, hf730, hf731, hf732, hS733⟩ := hq708
                    show W _ _ _ _ _ _
                    refine W.seq (W.region ?_)
                    refine WL.val (Value.int .i64 x710) _ (op_move hf719) rfl ?_
                    refine WL.val (Value.int .i64 x711) _ (op_move hf721) rfl ?_
                    refine WL.val (Value.bool (x710 != x711)) _ (op_neq rfl rfl) rfl ?_
                    refine WL.nil ?_
                    show W _ _ _ _ _ _
                    refine W.cond (x710 != x711) rfl (fun hc734 => ?_) (fun hc734 => ?_)
                    · replace hb105 := ip hb105 hc734
                      refine W.seq (W.region ?_)
                      refine WL.val (Value.int .i64 (k12 : Int)) _ (op_move hf713) rfl ?_
                      refine WL.val (Value.int .i64 (k39 : Int)) _ (op_move hf715) rfl ?_
                      refine WL.val (Value.int .i64 (k71 : Int)) _ (op_move hf717) rfl ?_
                      refine WL.val (Value.int .i64 (k100 : Int)) _ (op_move hf718) rfl ?_
                      refine WL.litFlat (t := (Ty.i .i64)) (flat_i .i64) [(Value.int .i64 (3 : Int)), (Value.int .i64 (k12 : Int)), (Value.int .i64 (k39 : Int)), (Value.int .i64 (k71 : Int)), (Value.int .i64 (k100 : Int))] [(3 : Int), (k12 : Int), (k39 : Int), (k71 : Int), (k100 : Int)] hS733 sl_25 rfl rfl (fillL rfl ⟨rfl, rfl, rfl, rfl, rfl, rfl, rfl, rfl, rfl, rfl, rfl, rfl, rfl, rfl, rfl, trivial⟩) rfl rfl (litL ⟨⟨rfl, (inR_i64.2 (show (-9223372036854775808 : Int) ≤ 3 ∧ (3 : Int) ≤ 9223372036854775807 from by decide))⟩, ⟨rfl, hr25⟩, ⟨rfl, hr57⟩, ⟨rfl, hr93⟩, ⟨rfl, hr125⟩, trivial⟩) rfl ?_
                      intro u736 wd737 hS738 he739
                      replace hS738 : St wd2 wd737 [(Ty.sl (Ty.i .i64)).at u736 ([(3 : Int), (k12 : Int), (k39 : Int), (k71 : Int), (k100 : Int)] : (List Int))] := hS738
                      refine WL.val u736 _ (op_assign rfl) rfl ?_
                      refine WL.nil ?_
                      show W _ _ _ _ _ _
                      refine W.ret ?_
                      obtain rfl := Option.some.inj hb105
                      obtain rfl := hret108 _ rfl
                      replace hb76 := onRes_ret hb76
                      obtain rfl := Option.some.inj hb76
                      obtain rfl := hret79 _ rfl
                      replace hb44 := onRes_ret hb44
                      obtain rfl := Option.some.inj hb44
                      obtain rfl := hret47 _ rfl
                      replace hb17 := onRes_ret hb17
                      obtain rfl := Option.some.inj hb17
                      obtain rfl := hret20 _ rfl
                      replace h := onRes_ret h
                      obtain rfl := Option.some.inj h
                      show FinP _ _ _ _ _ _ _
                      exact FinP.ret _ (res1 rfl rfl) ⟨u736, rfl, (nil_cons), (Ext.trans hE7 hS738.ext), (St.out (St.pick hS738 [0] rfl) (hE7))⟩
                    · replace hb105 := inegb hb105 hc734
                      refine W.skip ?_
                      show W _ _ _ _ _ _
                      refine W.region ?_
                      refine WL.val (Value.int .i64 (w64 ((k100 : Int) + (1 : Int)))) _ (op_add hf732 rfl) rfl ?_
                      refine WL.val (Value.int .i64 (w64 ((k100 : Int) + (1 : Int)))) _ (op_move rfl) rfl ?_
                      refine WL.nil ?_
                      obtain rfl := Option.some.inj hb105
                      show ∃ s, _ = Ctl.next s ∧ _
                      exact ⟨_, rfl, hf712, hf713, hf714, hf715, hf716, hf717, hf723, hf724, hf725, hf726, hf727, hf728, hf729, hf730, hf731, (ctr_next hl127 hr97), (ctr_rng hl127 hr97), hS733⟩
                · intro s746 f742 wd743 hs744 hI745
                  obtain ⟨⟩ := s746
                  replace hI745 : f742 1 = (Value.pointer (some ⟨b1, 0, none⟩)) ∧ f742 3 = (Value.int .i64 (k12 : Int)) ∧ f742 4 = u33 ∧ f742 5 = (Value.int .i64 (k39 : Int)) ∧ f742 6 = u65 ∧ f742 7 = (Value.int .i64 (k71 : Int)) ∧ f742 13 = v_r_Table ∧ f742 14 = (Value.int .i64 ((r_Table).length : Int)) ∧ f742 15 = (Value.int .i64 (k12 : Int)) ∧ f742 21 = v_r_Table ∧ f742 22 = (Value.int .i64 ((r_Table).length : Int)) ∧ f742 23 = (Value.int .i64 (k39 : Int)) ∧ f742 30 = (Value.int .i64 ((r_Table).length : Int)) ∧ f742 31 = (Value.int .i64 (k71 : Int)) ∧ f742 36 = (Value.int .i64 ((r_Table).length : Int)) ∧ f742 37 = Value.int .i64 (((r_Table).length : Nat) : Int) ∧ InR .i64 (((r_Table).length : Nat) : Int) ∧ St wd2 wd743 [] := hI745
                  obtain ⟨hf747, hf748, hf749, hf750, hf751, hf752, hf753, hf754, hf755, hf756, hf757, hf758, hf759, hf760, hf761, hf762, hr763, hS764⟩ := hI745
                  refine W.seq (W.region ?_)
                  refine WL.val (Value.bool (decide ((((r_Table).length : Nat) : Int) < ((r_Table).length : Int)))) _ (op_lss hf762 hf761) rfl ?_
                  have hl765 : ¬ (((r_Table).length : Nat) : Int) < ((r_Table).length : Int) := by omega
                  refine WL.nil ?_
                  show W _ _ _ _ _ _
                  refine W.seq ?_
                  refine W.condF (decide ((((r_Table).length : Nat) : Int) < ((r_Table).length : Int))) rfl (decide_eq_false hl765) ?_
                  refine W.exit ?_
                  show _ = _ ∧ _
                  exact ⟨rfl, _, hs744, hf747, hf748, hf749, hf750, hf751, hf753, hf754, hf755, hf756, hf757, hf758, hf759, hf760, hS764⟩
              · rintro f766 wd767 ⟨s769, rfl, hq768⟩
                replace hb76 := onRes_fin hb76
                obtain ⟨⟩ := s769
                replace hq768 : f766 1 = (Value.pointer (some ⟨b1, 0, none⟩)) ∧ f766 3 = (Value.int .i64 (k12 : Int)) ∧ f766 4 = u33 ∧ f766 5 = (Value.int .i64 (k39 : Int)) ∧ f766 6 = u65 ∧ f766 13 = v_r_Table ∧ f766 14 = (Value.int .i64 ((r_Table).length : Int)) ∧ f766 15 = (Value.int .i64 (k12 : Int)) ∧ f766 21 = v_r_Table ∧ f766 22 = (Value.int .i64 ((r_Table).length : Int)) ∧ f766 23 = (Value.int .i64 (k39 : Int)) ∧ f766 30 = (Value.int .i64 ((r_Table).length : Int)) ∧ f766 31 = (Value.int .i64 (k71 : Int)) ∧ St wd2 wd767 [] := hq768
                obtain ⟨hf770, hf771, hf772, hf773, hf774, hf775, hf776, hf777, hf778, hf779, hf780, hf781, hf782, hS783⟩ := hq768
                show W _ _ _ _ _ _
                refine W.region ?_
                refine WL.val (Value.int .i64 (w64 ((k71 : Int) + (1 : Int)))) _ (op_add hf782 rfl) rfl ?_
                refine WL.val (Value.int .i64 (w64 ((k71 : Int) + (1 : Int)))) _ (op_move rfl) rfl ?_
                refine WL.nil ?_
                obtain rfl := Option.some.inj hb76
                show ∃ s, _ = Ctl.next s ∧ _
                exact ⟨_, rfl, hf770, hf771, hf772, hf773, hf774, hf775, hf776, hf777, hf778, hf779, hf780, hf781, (ctr_next hl95 hr68), (ctr_rng hl95 hr68), hS783⟩
            · intro s790 f786 wd787 hs788 hI789
              obtain ⟨⟩ := s790
              replace hI789 : f786 1 = (Value.pointer (some ⟨b1, 0, none⟩)) ∧ f786 3 = (Value.int .i64 (k12 : Int)) ∧ f786 4 = u33 ∧ f786 5 = (Value.int .i64 (k39 : Int)) ∧ f786 6 = u65 ∧ f786 13 = v_r_Table ∧ f786 14 = (Value.int .i64 ((r_Table).length : Int)) ∧ f786 15 = (Value.int .i64 (k12 : Int)) ∧ f786 21 = v_r_Table ∧ f786 22 = (Value.int .i64 ((r_Table).length : Int)) ∧ f786 23 = (Value.int .i64 (k39 : Int)) ∧ f786 30 = (Value.int .i64 ((r_Table).length : Int)) ∧ f786 31 = Value.int .i64 (((r_Table).length : Nat) : Int) ∧ InR .i64 (((r_Table).length : Nat) : Int) ∧ St wd2 wd787 [] := hI789
              obtain ⟨hf791, hf792, hf793, hf794, hf795, hf796, hf797, hf798, hf799, hf800, hf801, hf802, hf803, hr804, hS805⟩ := hI789
              refine W.seq (W.region ?_)
              refine WL.val (Value.bool (decide ((((r_Table).length : Nat) : Int) < ((r_Table).length : Int)))) _ (op_lss hf803 hf802) rfl ?_
              have hl806 : ¬ (((r_Table).length : Nat) : Int) < ((r_Table).length : Int) := by omega
              refine WL.nil ?_
              show W _ _ _ _ _ _
              refine W.seq ?_
              refine W.condF (decide ((((r_Table).length : Nat) : Int) < ((r_Table).length : Int))) rfl (decide_eq_false hl806) ?_
              refine W.exit ?_
              show _ = _ ∧ _
              exact ⟨rfl, _, hs788, hf791, hf792, hf793, hf796, hf797, hf798, hf799, hf800, hf801, hS805⟩
          · rintro f807 wd808 ⟨s810, rfl, hq809⟩
            replace hb44 := onRes_fin hb44
            obtain ⟨⟩ := s810
            replace hq809 : f807 1 = (Value.pointer (some ⟨b1, 0, none⟩)) ∧ f807 3 = (Value.int .i64 (k12 : Int)) ∧ f807 4 = u33 ∧ f807 13 = v_r_Table ∧ f807 14 = (Value.int .i64 ((r_Table).length : Int)) ∧ f807 15 = (Value.int .i64 (k12 : Int)) ∧ f807 21 = v_r_Table ∧ f807 22 = (Value.int .i64 ((r_Table).length : Int)) ∧ f807 23 = (Value.int .i64 (k39 : Int)) ∧ St wd2 wd808 [] := hq809
            obtain ⟨hf811, hf812, hf813, hf814, hf815, hf816, hf817, hf818, hf819, hS820⟩ := hq809
            show W _ _ _ _ _ _
            refine W.region ?_
            refine WL.val (Value.int .i64 (w64 ((k39 : Int) + (1 : Int)))) _ (op_add hf819 rfl) rfl ?_
            refine WL.val (Value.int .i64 (w64 ((k39 : Int) + (1 : Int)))) _ (op_move rfl) rfl ?_
            refine WL.nil ?_
            obtain rfl := Option.some.inj hb44
            show ∃ s, _ = Ctl.next s ∧ _
            exact ⟨_, rfl, hf811, hf812, hf813, hf814, hf815, hf816, hf817, hf818, (ctr_next hl59 hr36), (ctr_rng hl59 hr36), hS820⟩
        · intro s827 f823 wd824 hs825 hI826
          obtain ⟨⟩ := s827
          replace hI826 : f823 1 = (Value.pointer (some ⟨b1, 0, none⟩)) ∧ f823 3 = (Value.int .i64 (k12 : Int)) ∧ f823 4 = u33 ∧ f823 13 = v_r_Table ∧ f823 14 = (Value.int .i64 ((r_Table).length : Int)) ∧ f823 15 = (Value.int .i64 (k12 : Int)) ∧ f823 21 = v_r_Table ∧ f823 22 = (Value.int .i64 ((r_Table).length : Int)) ∧ f823 23 = Value.int .i64 (((r_Table).length : Nat) : Int) ∧ InR .i64 (((r_Table).length : Nat) : Int) ∧ St wd2 wd824 [] := hI826
          obtain ⟨hf828, hf829, hf830, hf831, hf832, hf833, hf834, hf835, hf836, hr837, hS838⟩ := hI826
          refine W.seq (W.region ?_)
          refine WL.val (Value.bool (decide ((((r_Table).length : Nat) : Int) < ((r_Table).length : Int)))) _ (op_lss hf836 hf835) rfl ?_
          have hl839 : ¬ (((r_Table).length : Nat) : Int) < ((r_Table).length : Int) := by omega
          refine WL.nil ?_
          show W _ _ _ _ _ _
          refine W.seq ?_
          refine W.condF (decide ((((r_Table).length : Nat) : Int) < ((r_Table).length : Int))) rfl (decide_eq_false hl839) ?_
          refine W.exit ?_
          show _ = _ ∧ _
          exact ⟨rfl, _, hs825, hf828, hf831, hf832, hf833, hS838⟩
      · rintro f840 wd841 ⟨s843, rfl, hq842⟩
        replace hb17 := onRes_fin hb17
        obtain ⟨⟩ := s843
        replace hq842 : f840 1 = (Value.pointer (some ⟨b1, 0, none⟩)) ∧ f840 13 = v_r_Table ∧ f840 14 = (Value.int .i64 ((r_Table).length : Int)) ∧ f840 15 = (Value.int .i64 (k12 : Int)) ∧ St wd2 wd841 [] := hq842
        obtain ⟨hf844, hf845, hf846, hf847, hS848⟩ := hq842
        show W _ _ _ _ _ _
        refine W.region ?_
        refine WL.val (Value.int .i64 (w64 ((k12 : Int) + (1 : Int)))) _ (op_add hf847 rfl) rfl ?_
        refine WL.val (Value.int .i64 (w64 ((k12 : Int) + (1 : Int)))) _ (op_move rfl) rfl ?_
        refine WL.nil ?_
        obtain rfl := Option.some.inj hb17
        show ∃ s, _ = Ctl.next s ∧ _
        exact ⟨_, rfl, hf844, hf845, hf846, (ctr_next hl27 hr9), (ctr_rng hl27 hr9), hS848⟩
    · intro s855 f851 wd852 hs853 hI854
      obtain ⟨⟩ := s855
      replace hI854 : f851 1 = (Value.pointer (some ⟨b1, 0, none⟩)) ∧ f851 13 = v_r_Table ∧ f851 14 = (Value.int .i64 ((r_Table).length : Int)) ∧ f851 15 = Value.int .i64 (((r_Table).length : Nat) : Int) ∧ InR .i64 (((r_Table).length : Nat) : Int) ∧ St wd2 wd852 [] := hI854
      obtain ⟨hf856, hf857, hf858, hf859, hr860, hS861⟩ := hI854
      refine W.seq (W.region ?_)
      refine WL.val (Value.bool (decide ((((r_Table).length : Nat) : Int) < ((r_Table).length : Int)))) _ (op_lss hf859 hf858) rfl ?_
      have hl862 : ¬ (((r_Table).length : Nat) : Int) < ((r_Table).length : Int) := by omega
      refine WL.nil ?_
      show W _ _ _ _ _ _
      refine W.seq ?_
      refine W.condF (decide ((((r_Table).length : Nat) : Int) < ((r_Table).length : Int))) rfl (decide_eq_false hl862) ?_
      refine W.exit ?_
      show _ = _ ∧ _
      exact ⟨rfl, _, hs853, hS861⟩
  · rintro f863 wd864 ⟨s866, rfl, hq865⟩
    replace h := onRes_fin h
    obtain ⟨⟩ := s866
    replace hq865 : St wd2 wd864 [] := hq865
    have hS867 := hq865
    show W _ _ _ _ _ _
    refine W.seq (W.region ?_)
    refine WL.val (Value.slice none 0 0) _ (op_assign rfl) rfl ?_
    refine WL.nil ?_
    show W _ _ _ _ _ _
    refine W.ret ?_
    obtain rfl := Option.some.inj h
    show FinP _ _ _ _ _ _ _
    exact FinP.ret _ (res1 rfl rfl) ⟨(Value.slice none 0 0), rfl, (fun _ => ⟨0, 0, rfl⟩), (Ext.trans hE7 hS867.ext), (St.out (St.pick (St.addNil (Ty.i .i64) hS867) [0] rfl) (hE7))⟩

theorem c_impl_Ring_fault {w : World} {r_Table : (List (List (List Int)))} {v_r_Table : Value} (r_r_Table : (Ty.sl (Ty.sl (Ty.sl (Ty.i .i64)))).rep w v_r_Table r_Table) {res : (List Int)} (h : p_impl_Ring_fault r_Table  = some res) :
    Ret Try.prog 82 #[(Value.agg #[v_r_Table])] w (fun v w' => ∃ (u0 : Value), v = u0 ∧ NilIff u0 res ∧ Ext w w' ∧ Sep w.heap.size w' [(Ty.sl (Ty.i .i64)).at u0 res]) := by
  unfold p_impl_Ring_fault at h
  have hS0 : St w w [] := St.start w
  refine Ret.start (fn := Try.f82) Try.func82 rfl 24 rfl rfl ?_
  refine W.seq (W.region ?_)
  refine WL.box hS0 rfl (cs := [v_r_Table]) rfl rfl ?_
  intro b1 wd2 hS3 he4 hx5
  replace hS3 : St w wd2 [bx b1 [v_r_Table]] := hS3
  have hx6 := St.boxAt hS3 0 rfl
  have hE7 : Ext w wd2 := hS3.ext
  have hS8 : St wd2 wd2 [] := St.start wd2
  refine WL.val (Value.slice none 0 0) _ (op_assign rfl) rfl ?_
  refine WL.nil ?_
  show W _ _ _ _ _ _
  refine W.seq (W.seq (W.region ?_))
  refine WL.val (Value.agg #[v_r_Table]) _ (op_loadBox st_29 rfl (BoxAt.lift hS8.ext hx6) rfl rfl) rfl ?_
  obtain ⟨x9, hx10, h⟩ := bs h
  refine WL.call _ (op_call fn_104 (args1 rfl)) (c_impl_Ring_unitFault (Ty.lift _ (Ext.trans hE7 hS8.ext) r_r_Table) hx10) rfl ?_
  rintro u11 wd13 ⟨_, rfl, hn12, he14, hs15⟩
  have hS16 := St.join hS8 he14 hs15
  replace hS16 : St wd2 wd13 [(Ty.sl (Ty.i .i64)).at u11 x9] := hS16
  refine WL.val u11 _ (op_assign rfl) rfl ?_
  refine WL.nil ?_
  show W _ _ _ _ _ _
  refine W.seq (W.region ?_)
  refine WL.val u11 _ (op_move rfl) rfl ?_
  refine WL.val (Value.bool (!(x9).isEmpty)) _ (op_neqNilL sl_25 (St.rep (t := (Ty.sl (Ty.i .i64))) hS16 0 rfl) hn12 rfl rfl) rfl ?_
  refine WL.nil ?_
  show W _ _ _ _ _ _
  refine W.cond (!(x9).isEmpty) rfl (fun hc17 => ?_) (fun hc17 => ?_)
  · replace h := ip h hc17
    refine W.seq (W.region ?_)
    refine WL.val u11 _ (op_move rfl) rfl ?_
    refine WL.val u11 _ (op_assign rfl) rfl ?_
    refine WL.nil ?_
    show W _ _ _ _ _ _
    refine W.ret ?_
    obtain rfl := Option.some.inj h
    show FinP _ _ _ _ _ _ _
    exact FinP.ret _ (res1 rfl rfl) ⟨u11, rfl, hn12, (Ext.trans hE7 hS16.ext), (St.out (St.pick hS16 [0] rfl) (hE7))⟩
  · replace h := inegb h hc17
    refine W.skip ?_
    show W _ _ _ _ _ _
    refine W.seq (W.seq (W.region ?_))
    refine WL.val (Value.agg #[v_r_Table]) _ (op_loadBox st_29 rfl (BoxAt.lift hS16.ext hx6) rfl rfl) rfl ?_
    obtain ⟨x19, hx20, h⟩ := bs h
    refine WL.call _ (op_call fn_105 (args1 rfl)) (c_impl_Ring_dualFault (Ty.lift _ (Ext.trans hE7 hS16.ext) r_r_Table) hx20) rfl ?_
    rintro _ wd22 ⟨rfl, hr21, he23⟩
    have hS25 := St.extend hS16 he23
    replace hS25 : St wd2 wd22 [(Ty.sl (Ty.i .i64)).at u11 x9] := hS25
    refine WL.val (Value.int .i64 x19) _ (op_assign rfl) rfl ?_
    refine WL.nil ?_
    show W _ _ _ _ _ _
    refine W.seq (W.region ?_)
    refine WL.val (Value.int .i64 x19) _ (op_move rfl) rfl ?_
    refine WL.val (Value.bool (decide (x19 ≥ (0 : Int)))) _ (op_geq rfl rfl) rfl ?_
    refine WL.nil ?_
    show W _ _ _ _ _ _
    refine W.cond (decide (x19 ≥ (0 : Int))) rfl (fun hc26 => ?_) (fun hc26 => ?_)
    · replace h := ip h hc26
      refine W.seq (W.region ?_)
      refine WL.val (Value.int .i64 x19) _ (op_move rfl) rfl ?_
      refine WL.litFlat (t := (Ty.i .i64)) (flat_i .i64) [(Value.int .i64 (1 : Int)), (Value.int .i64 x19)] [(1 : Int), x19] hS25 sl_25 rfl rfl (fillL rfl ⟨rfl, rfl, rfl, rfl, rfl, rfl, trivial⟩) rfl rfl (litL ⟨⟨rfl, (inR_i64.2 (show (-9223372036854775808 : Int) ≤ 1 ∧ (1 : Int) ≤ 9223372036854775807 from by decide))⟩, ⟨rfl, hr21⟩, trivial⟩) rfl ?_
      intro u28 wd29 hS30 he31
      replace hS30 : St wd2 wd29 [(Ty.sl (Ty.i .i64)).at u11 x9, (Ty.sl (Ty.i .i64)).at u28 ([(1 : Int), x19] : (List Int))] := hS30
      refine WL.val u28 _ (op_assign rfl) rfl ?_
      refine WL.nil ?_
      show W _ _ _ _ _ _
      refine W.ret ?_
      obtain rfl := Option.some.inj h
      show FinP _ _ _ _ _ _ _
      exact FinP.ret _ (res1 rfl rfl) ⟨u28, rfl, (nil_cons), (Ext.trans hE7 hS30.ext), (St.out (St.pick hS30 [1] rfl) (hE7))⟩
    · replace h := inegb h hc26
      refine W.skip ?_
      show W _ _ _ _ _ _
      refine W.seq (W.seq (W.region ?_))
      refine WL.val (Value.agg #[v_r_Table]) _ (op_loadBox st_29 rfl (BoxAt.lift hS25.ext hx6) rfl rfl) rfl ?_
      obtain ⟨x32, hx33, h⟩ := bs h
      refine WL.call _ (op_call fn_106 (args1 rfl)) (c_impl_Ring_turnFault (Ty.lift _ (Ext.trans hE7 hS25.ext) r_r_Table) hx33) rfl ?_
      rintro u34 wd36 ⟨_, rfl, hn35, he37, hs38⟩
      have hS39 := St.join hS25 he37 hs38
      replace hS39 : St wd2 wd36 [(Ty.sl (Ty.i .i64)).at u11 x9, (Ty.sl (Ty.i .i64)).at u34 x32] := hS39
      refine WL.val u34 _ (op_assign rfl) rfl ?_
      refine WL.nil ?_
      show W _ _ _ _ _ _
      refine W.seq (W.region ?_)
      refine WL.val u34 _ (op_move rfl) rfl ?_
      refine WL.val (Value.bool (!(x32).isEmpty)) _ (op_neqNilL sl_25 (St.rep (t := (Ty.sl (Ty.i .i64))) hS39 1 rfl) hn35 rfl rfl) rfl ?_
      refine WL.nil ?_
      show W _ _ _ _ _ _
      refine W.cond (!(x32).isEmpty) rfl (fun hc40 => ?_) (fun hc40 => ?_)
      · replace h := ip h hc40
        refine W.seq (W.region ?_)
        refine WL.val u34 _ (op_move rfl) rfl ?_
        refine WL.val u34 _ (op_assign rfl) rfl ?_
        refine WL.nil ?_
        show W _ _ _ _ _ _
        refine W.ret ?_
        obtain rfl := Option.some.inj h
        show FinP _ _ _ _ _ _ _
        exact FinP.ret _ (res1 rfl rfl) ⟨u34, rfl, hn35, (Ext.trans hE7 hS39.ext), (St.out (St.pick hS39 [1] rfl) (hE7))⟩
      · replace h := inegb h hc40
        refine W.skip ?_
        show W _ _ _ _ _ _
        refine W.seq (W.region ?_)
        refine WL.val (Value.agg #[v_r_Table]) _ (op_loadBox st_29 rfl (BoxAt.lift hS39.ext hx6) rfl rfl) rfl ?_
        obtain ⟨x42, hx43, h⟩ := bs h
        refine WL.call _ (op_call fn_107 (args1 rfl)) (c_impl_Ring_bracketFault (Ty.lift _ (Ext.trans hE7 hS39.ext) r_r_Table) hx43) rfl ?_
        rintro u44 wd46 ⟨_, rfl, hn45, he47, hs48⟩
        have hS49 := St.join hS39 he47 hs48
        replace hS49 : St wd2 wd46 [(Ty.sl (Ty.i .i64)).at u11 x9, (Ty.sl (Ty.i .i64)).at u34 x32, (Ty.sl (Ty.i .i64)).at u44 x42] := hS49
        refine WL.val u44 _ (op_assign rfl) rfl ?_
        refine WL.nil ?_
        show W _ _ _ _ _ _
        refine W.ret ?_
        obtain rfl := Option.some.inj h
        show FinP _ _ _ _ _ _ _
        exact FinP.ret _ (res1 rfl rfl) ⟨u44, rfl, hn45, (Ext.trans hE7 hS49.ext), (St.out (St.pick hS49 [2] rfl) (hE7))⟩

theorem c_impl_IsRing {w : World} {r_Table : (List (List (List Int)))} {v_r_Table : Value} (r_r_Table : (Ty.sl (Ty.sl (Ty.sl (Ty.i .i64)))).rep w v_r_Table r_Table) {res : Bool} (h : p_impl_IsRing r_Table  = some res) :
    Ret Try.prog 57 #[(Value.agg #[v_r_Table])] w (fun v w' => v = Value.bool res ∧ Ext w w') := by
  unfold p_impl_IsRing at h
  have hS0 : St w w [] := St.start w
  refine Ret.start (fn := Try.f57) Try.func57 rfl 10 rfl rfl ?_
  refine W.seq (W.region ?_)
  refine WL.box hS0 rfl (cs := [v_r_Table]) rfl rfl ?_
  intro b1 wd2 hS3 he4 hx5
  replace hS3 : St w wd2 [bx b1 [v_r_Table]] := hS3
  have hx6 := St.boxAt hS3 0 rfl
  have hE7 : Ext w wd2 := hS3.ext
  have hS8 : St wd2 wd2 [] := St.start wd2
  refine WL.val (Value.bool false) _ (op_assign rfl) rfl ?_
  refine WL.nil ?_
  show W _ _ _ _ _ _
  refine W.seq (W.region ?_)
  refine WL.val (Value.agg #[v_r_Table]) _ (op_loadBox st_29 rfl (BoxAt.lift hS8.ext hx6) rfl rfl) rfl ?_
  obtain ⟨x9, hx10, h⟩ := bs h
  refine WL.call _ (op_call fn_81 (args1 rfl)) (c_impl_isCube (Ty.lift _ (Ext.trans hE7 hS8.ext) r_r_Table) hx10) rfl ?_
  rintro _ wd11 ⟨rfl, he12⟩
  have hS14 := St.extend hS8 he12
  replace hS14 : St wd2 wd11 [] := hS14
  refine WL.val (Value.bool x9) _ (op_move rfl) rfl ?_
  obtain ⟨x16, hj17, h⟩ := bs h
  refine WL.cut 4 (fun fq wq => fq 9 = Value.bool x16 ∧ St wd2 wq []) ?_ ?_
  · rcases Bool.eq_false_or_eq_true x9 with hc15 | hc15
    · replace hj17 := ip hj17 hc15
      refine WL.grun rfl (bool_of rfl hc15) ?_
      refine WL.val (Value.agg #[v_r_Table]) _ (op_loadBox st_29 rfl (BoxAt.lift hS14.ext hx6) rfl rfl) rfl ?_
      refine WL.grun rfl (bool_of rfl hc15) ?_
      obtain ⟨x21, hx22, hj17⟩ := bs hj17
      refine WL.call _ (op_call fn_82 (args1 rfl)) (c_impl_Ring_fault (Ty.lift _ (Ext.trans hE7 hS14.ext) r_r_Table) hx22) rfl ?_
      rintro u23 wd25 ⟨_, rfl, hn24, he26, hs27⟩
      have hS28 := St.join hS14 he26 hs27
      replace hS28 : St wd2 wd25 [(Ty.sl (Ty.i .i64)).at u23 x21] := hS28
      refine WL.grun rfl (bool_of rfl hc15) ?_
      refine WL.val (Value.bool (x21).isEmpty) _ (op_eqlNilL sl_25 (St.rep (t := (Ty.sl (Ty.i .i64))) hS28 0 rfl) hn24 rfl rfl) rfl ?_
      refine WL.val (Value.bool (x21).isEmpty) _ (op_pick_t (evb_of rfl hc15) rfl) rfl ?_
      refine WL.nil ?_
      obtain rfl := Option.some.inj hj17
      exact ⟨rfl, rfl, (St.pick hS28 [] rfl)⟩
    · replace hj17 := inegb hj17 hc15
      refine WL.gskip rfl (bool_of rfl hc15) rfl ?_
      refine WL.gskip rfl (bool_of rfl hc15) rfl ?_
      refine WL.gskip rfl (bool_of rfl hc15) rfl ?_
      refine WL.val (Value.bool false) _ (op_pick_f (evb_of rfl hc15) rfl) rfl ?_
      refine WL.nil ?_
      obtain rfl := Option.some.inj hj17
      exact ⟨rfl, rfl, hS14⟩
  · intro f18 wd19 hq20
    obtain ⟨hf29, hS30⟩ := hq20
    refine WL.val (Value.bool x16) _ (op_assign hf29) rfl ?_
    refine WL.nil ?_
    show W _ _ _ _ _ _
    refine W.ret ?_
    obtain rfl := Option.some.inj h
    show FinP _ _ _ _ _ _ _
    exact FinP.ret _ (res1 rfl rfl) ⟨rfl, (Ext.trans hE7 hS30.ext)⟩

theorem c_slices_Clone_Lint64_int64 {w : World} {s1 : (List Int)} {v_s1 : Value} (r_s1 : (Ty.sl (Ty.i .i64)).rep w v_s1 s1) {res : (List Int)} (h : p_slices_Clone_Lint64_int64 s1  = some res) :
    Ret Try.prog 114 #[v_s1] w (fun v w' => ∃ (u0 : Value), v = u0 ∧ Ext w w' ∧ Sep w.heap.size w' [(Ty.sl (Ty.i .i64)).at u0 res]) := by
  unfold p_slices_Clone_Lint64_int64 at h
  have hS0 : St w w [] := St.start w
  obtain ⟨p0, c0, hv0, hl10, hl20, hp0, hel0⟩ := id r_s1
  refine Ret.start (fn := Try.f114) Try.func114 rfl 8 rfl rfl ?_
  refine W.seq (W.region ?_)
  refine WL.val (Value.slice none 0 0) _ (op_assign rfl) rfl ?_
  refine WL.nil ?_
  show W _ _ _ _ _ _
  refine W.seq (W.seq (W.region ?_))
  refine WL.val v_s1 _ (op_move rfl) rfl ?_
  refine WL.val (Value.bool p0.isNone) _ (op_eqlNil (Eq.trans rfl hv0) rfl sl_25.1) rfl ?_
  refine WL.nil ?_
  show W _ _ _ _ _ _
  refine W.cond p0.isNone rfl (fun hc1 => ?_) (fun hc1 => ?_)
  · obtain rfl : p0 = none := by cases p0 <;> simp_all
    obtain rfl : s1 = [] := Classical.byContradiction fun hn => hp0 hn rfl
    simp [appL] at h
    subst h
    refine W.seq (W.region ?_)
    refine WL.val (Value.slice none 0 0) _ (op_assign rfl) rfl ?_
    refine WL.nil ?_
    show W _ _ _ _ _ _
    refine W.ret ?_
    show FinP _ _ _ _ _ _ _
    exact FinP.ret _ (res1 rfl rfl) ⟨(Value.slice none 0 0), rfl, hS0.ext, (St.out (St.pick (St.addNil (Ty.i .i64) hS0) [0] rfl) (Ext.refl _))⟩
  · refine W.skip ?_
    show W _ _ _ _ _ _
    refine W.seq (W.region ?_)
    refine WL.lit0 (t := (Ty.i .i64)) hS0 sl_25 rfl rfl ?_
    intro u2 wd3 hS4 he5
    replace hS4 : St w wd3 [(Ty.sl (Ty.i .i64)).at u2 ([] : (List Int))] := hS4
    refine WL.val v_s1 _ (op_move rfl) rfl ?_
    obtain ⟨x6, hx7, h⟩ := bs h
    refine WL.append (flat_i .i64) hS4 (k := 0) rfl sl_25 rfl rfl rfl rfl (Ty.lift _ hS4.ext r_s1) hx7 rfl ?_
    intro u8 wd9 hS10 hz11
    replace hS10 : St w wd9 [(Ty.sl (Ty.i .i64)).at u8 x6] := hS10
    refine WL.val u8 _ (op_assign rfl) rfl ?_
    refine WL.nil ?_
    show W _ _ _ _ _ _
    refine W.ret ?_
    obtain rfl := Option.some.inj h
    show FinP _ _ _ _ _ _ _
    exact FinP.ret _ (res1 rfl rfl) ⟨u8, rfl, hS10.ext, (St.out (St.pick hS10 [0] rfl) (Ext.refl _))⟩

theorem c_impl_Ring_opposite {w : World} {r_Table : (List (List (List Int)))} {v_r_Table : Value} (r_r_Table : (Ty.sl (Ty.sl (Ty.sl (Ty.i .i64)))).rep w v_r_Table r_Table) {res : (List (List (List Int)))} (h : p_impl_Ring_opposite r_Table  = some res) :
    Ret Try.prog 98 #[(Value.agg #[v_r_Table])] w (fun v w' => ∃ (u0 : Value), v = (Value.agg #[u0]) ∧ Ext w w' ∧ Sep w.heap.size w' [(Ty.sl (Ty.sl (Ty.sl (Ty.i .i64)))).at u0 res]) := by
  unfold p_impl_Ring_opposite at h
  have hS0 : St w w [] := St.start w
  refine Ret.start (fn := Try.f98) Try.func98 rfl 42 rfl rfl ?_
  refine W.seq (W.region ?_)
  refine WL.box hS0 rfl (cs := [v_r_Table]) rfl rfl ?_
  intro b1 wd2 hS3 he4 hx5
  replace hS3 : St w wd2 [bx b1 [v_r_Table]] := hS3
  have hx6 := St.boxAt hS3 0 rfl
  have hE7 : Ext w wd2 := hS3.ext
  have hS8 : St wd2 wd2 [] := St.start wd2
  refine WL.alloc hS8 ze_29 (cs := [(Value.slice none 0 0)]) rfl rfl ?_
  intro b9 wd10 hS11 he12
  replace hS11 : St wd2 wd10 [bx b9 [(Value.slice none 0 0)]] := hS11
  refine WL.nil ?_
  show W _ _ _ _ _ _
  refine W.seq (W.region ?_)
  refine WL.val (Value.agg #[(Value.slice none 0 0)]) _ (op_build bd_29 (parts := []) (partsL trivial) trivial rfl) rfl ?_
  refine WL.alloc hS11 ze_29 (cs := [(Value.slice none 0 0)]) rfl rfl ?_
  intro b13 wd14 hS15 he16
  replace hS15 : St wd2 wd14 [bx b9 [(Value.slice none 0 0)], bx b13 [(Value.slice none 0 0)]] := hS15
  have hS19 := St.addNil (Ty.sl (Ty.sl (Ty.i .i64))) hS15
  replace hS19 : St wd2 wd14 [bx b9 [(Value.slice none 0 0)], bx b13 [(Value.slice none 0 0)], (Ty.sl (Ty.sl (Ty.sl (Ty.i .i64)))).at (Value.slice none 0 0) ([] : (List (List (List Int))))] := hS19
  refine WL.storeBox [(Value.slice none 0 0)] hS19 (k := 1) rfl rfl rfl (us := [(Value.slice none 0 0)]) rfl sz_29 rfl rfl (all_rep (St.rep (t := (Ty.sl (Ty.sl (Ty.sl (Ty.i .i64))))) hS19 2 rfl) all_nil) rfl ?_
  intro wd17 hS18
  replace hS18 : St wd2 wd17 [bx b9 [(Value.slice none 0 0)], bx b13 [(Value.slice none 0 0)], (Ty.sl (Ty.sl (Ty.sl (Ty.i .i64)))).at (Value.slice none 0 0) ([] : (List (List (List Int))))] := hS18
  refine WL.nil ?_
  show W _ _ _ _ _ _
  refine W.seq (W.seq (W.region ?_))
  refine WL.val (Value.pointer (some ⟨b1, 0, none⟩)) _ (op_fieldAddr fd_29_0 rfl) rfl ?_
  refine WL.val v_r_Table _ (op_load one_22 rfl (BoxAt.cell (BoxAt.lift hS18.ext hx6) rfl)) rfl ?_
  have hr20 := inR_len (Ty.lift _ (Ext.trans hE7 hS18.ext) r_r_Table)
  refine WL.val (Value.int .i64 ((r_Table).length : Int)) _ (op_lenL sl_22 (Ty.lift _ (Ext.trans hE7 hS18.ext) r_r_Table) rfl) rfl ?_
  refine WL.val (Value.int .i64 (0 : Int)) _ (op_move rfl) rfl ?_
  refine WL.nil ?_
  show W _ _ _ _ _ _
  obtain ⟨res21, hres22, h⟩ := bs h
  refine W.blockLoop (fun fq wq => ∃ s, res21 = Res.fin s ∧ ∃ (uu0 : Value), fq 2 = (Value.pointer (some ⟨b9, 0, none⟩)) ∧ fq 3 = (Value.pointer (some ⟨b13, 0, none⟩)) ∧ St wd2 wq [bx b9 [(Value.slice none 0 0)], bx b13 [uu0], (Ty.sl (Ty.sl (Ty.sl (Ty.i .i64)))).at uu0 s]) ?_ ?_
  · refine W.forN (fun k (s : (List (List (List Int)))) fq wq => ∃ (uu0 : Value), fq 1 = (Value.pointer (some ⟨b1, 0, none⟩)) ∧ fq 2 = (Value.pointer (some ⟨b9, 0, none⟩)) ∧ fq 3 = (Value.pointer (some ⟨b13, 0, none⟩)) ∧ fq 10 = (Value.int .i64 ((r_Table).length : Int)) ∧ fq 11 = Value.int .i64 (k : Int) ∧ InR .i64 (k : Int) ∧ St wd2 wq [bx b9 [(Value.slice none 0 0)], bx b13 [uu0], (Ty.sl (Ty.sl (Ty.sl (Ty.i .i64)))).at uu0 s]) hres22 ⟨(Value.slice none 0 0), rfl, rfl, rfl, rfl, rfl, (inR_i64.2 (show (-9223372036854775808 : Int) ≤ 0 ∧ (0 : Int) ≤ 9223372036854775807 from by decide)), hS18⟩ ?_ ?_
    · intro k23 x24 ct25 f26 wd27 hk28 hb29 hI30 hbrk31 hret32
      replace hI30 : ∃ (uu0 : Value), f26 1 = (Value.pointer (some ⟨b1, 0, none⟩)) ∧ f26 2 = (Value.pointer (some ⟨b9, 0, none⟩)) ∧ f26 3 = (Value.pointer (some ⟨b13, 0, none⟩)) ∧ f26 10 = (Value.int .i64 ((r_Table).length : Int)) ∧ f26 11 = Value.int .i64 (k23 : Int) ∧ InR .i64 (k23 : Int) ∧ St wd2 wd27 [bx b9 [(Value.slice none 0 0)], bx b13 [uu0], (Ty.sl (Ty.sl (Ty.sl (Ty.i .i64)))).at uu0 x24] := hI30
      replace hb29 : p_impl_Ring_opposite_L1 r_Table k23 x24 = some ct25 := hb29
      unfold p_impl_Ring_opposite_L1 at hb29
      obtain ⟨u33, hf34, hf35, hf36, hf37, hf38, hr39, hS40⟩ := hI30
      refine W.seq (W.region ?_)
      refine WL.val (Value.bool (decide ((k23 : Int) < ((r_Table).length : Int)))) _ (op_lss hf38 hf37) rfl ?_
      have hl41 : (k23 : Int) < ((r_Table).length : Int) := by omega
      refine WL.nil ?_
      show W _ _ _ _ _ _
      refine W.seq ?_
      refine W.condT (decide ((k23 : Int) < ((r_Table).length : Int))) rfl (decide_eq_true hl41) ?_
      refine W.skip ?_
      show W _ _ _ _ _ _
      refine W.seq ?_
      refine W.block ?_
      refine W.seq (W.region ?_)
      refine WL.val (Value.int .i64 (k23 : Int)) _ (op_move hf38) rfl ?_
      refine WL.val (Value.int .i64 (k23 : Int)) _ (op_assign rfl) rfl ?_
      refine WL.nil ?_
      show W _ _ _ _ _ _
      refine W.seq (W.region ?_)
      refine WL.lit0 (t := (Ty.sl (Ty.i .i64))) hS40 sl_65 rfl rfl ?_
      intro u43 wd44 hS45 he46
      replace hS45 : St wd2 wd44 [bx b9 [(Value.slice none 0 0)], bx b13 [u33], (Ty.sl (Ty.sl (Ty.sl (Ty.i .i64)))).at u33 x24, (Ty.sl (Ty.sl (Ty.i .i64))).at u43 ([] : (List (List Int)))] := hS45
      refine WL.val u43 _ (op_assign rfl) rfl ?_
      refine WL.nil ?_
      show W _ _ _ _ _ _
      refine W.seq (W.seq (W.region ?_))
      refine WL.val (Value.pointer (some ⟨b1, 0, none⟩)) _ (op_fieldAddr fd_29_0 hf34) rfl ?_
      refine WL.val v_r_Table _ (op_load one_22 rfl (BoxAt.cell (BoxAt.lift hS45.ext hx6) rfl)) rfl ?_
      have hr47 := inR_len (Ty.lift _ (Ext.trans hE7 hS45.ext) r_r_Table)
      refine WL.val (Value.int .i64 ((r_Table).length : Int)) _ (op_lenL sl_22 (Ty.lift _ (Ext.trans hE7 hS45.ext) r_r_Table) rfl) rfl ?_
      refine WL.val (Value.int .i64 (0 : Int)) _ (op_move rfl) rfl ?_
      refine WL.nil ?_
      show W _ _ _ _ _ _
      obtain ⟨res48, hres49, hb29⟩ := bs hb29
      refine W.blockLoop (fun fq wq => ∃ s, res48 = Res.fin s ∧ ∃ (uu0 : Value), fq 1 = (Value.pointer (some ⟨b1, 0, none⟩)) ∧ fq 2 = (Value.pointer (some ⟨b9, 0, none⟩)) ∧ fq 3 = (Value.pointer (some ⟨b13, 0, none⟩)) ∧ fq 5 = uu0 ∧ fq 10 = (Value.int .i64 ((r_Table).length : Int)) ∧ fq 11 = (Value.int .i64 (k23 : Int)) ∧ St wd2 wq [bx b9 [(Value.slice none 0 0)], bx b13 [u33], (Ty.sl (Ty.sl (Ty.sl (Ty.i .i64)))).at u33 x24, (Ty.sl (Ty.sl (Ty.i .i64))).at uu0 s]) ?_ ?_
      · refine W.forN (fun k (s : (List (List Int))) fq wq => ∃ (uu0 : Value), fq 1 = (Value.pointer (some ⟨b1, 0, none⟩)) ∧ fq 2 = (Value.pointer (some ⟨b9, 0, none⟩)) ∧ fq 3 = (Value.pointer (some ⟨b13, 0, none⟩)) ∧ fq 4 = (Value.int .i64 (k23 : Int)) ∧ fq 5 = uu0 ∧ fq 10 = (Value.int .i64 ((r_Table).length : Int)) ∧ fq 11 = (Value.int .i64 (k23 : Int)) ∧ fq 17 = (Value.int .i64 ((r_Table).length : Int)) ∧ fq 18 = Value.int .i64 (k : Int) ∧ InR .i64 (k : Int) ∧ St wd2 wq [bx b9 [(Value.slice none 0 0)], bx b13 [u33], (Ty.sl (Ty.sl (Ty.sl (Ty.i .i64)))).at u33 x24, (Ty.sl (Ty.sl (Ty.i .i64))).at uu0 s]) hres49 ⟨u43, hf34, hf35, hf36, rfl, rfl, hf37, hf38, rfl, rfl, (inR_i64.2 (show (-9223372036854775808 : Int) ≤ 0 ∧ (0 : Int) ≤ 9223372036854775807 from by decide)), hS45⟩ ?_ ?_
        · intro k50 x51 ct52 f53 wd54 hk55 hb56 hI57 hbrk58 hret59
          replace hI57 : ∃ (uu0 : Value), f53 1 = (Value.pointer (some ⟨b1, 0, none⟩)) ∧ f53 2 = (Value.pointer (some ⟨b9, 0, none⟩)) ∧ f53 3 = (Value.pointer (some ⟨b13, 0, none⟩)) ∧ f53 4 = (Value.int .i64 (k23 : Int)) ∧ f53 5 = uu0 ∧ f53 10 = (Value.int .i64 ((r_Table).length : Int)) ∧ f53 11 = (Value.int .i64 (k23 : Int)) ∧ f53 17 = (Value.int .i64 ((r_Table).length : Int)) ∧ f53 18 = Value.int .i64 (k50 : Int) ∧ InR .i64 (k50 : Int) ∧ St wd2 wd54 [bx b9 [(Value.slice none 0 0)], bx b13 [u33], (Ty.sl (Ty.sl (Ty.sl (Ty.i .i64)))).at u33 x24, (Ty.sl (Ty.sl (Ty.i .i64))).at uu0 x51] := hI57
          replace hb56 : p_impl_Ring_opposite_L2 r_Table k23 k50 x51 = some ct52 := hb56
          unfold p_impl_Ring_opposite_L2 at hb56
          obtain ⟨u60, hf61, hf62, hf63, hf64, hf65, hf66, hf67, hf68, hf69, hr70, hS71⟩ := hI57
          refine W.seq (W.region ?_)
          refine WL.val (Value.bool (decide ((k50 : Int) < ((r_Table).length : Int)))) _ (op_lss hf69 hf68) rfl ?_
          have hl72 : (k50 : Int) < ((r_Table).length : Int) := by omega
          refine WL.nil ?_
          show W _ _ _ _ _ _
          refine W.seq ?_
          refine W.condT (decide ((k50 : Int) < ((r_Table).length : Int))) rfl (decide_eq_true hl72) ?_
          refine W.skip ?_
          show W _ _ _ _ _ _
          refine W.seq ?_
          refine W.block ?_
          refine W.seq (W.region ?_)
          refine WL.val (Value.int .i64 (k50 : Int)) _ (op_move hf69) rfl ?_
          refine WL.val (Value.int .i64 (k50 : Int)) _ (op_assign rfl) rfl ?_
          refine WL.nil ?_
          show W _ _ _ _ _ _
          refine W.region ?_
          refine WL.val u60 _ (op_move hf65) rfl ?_
          refine WL.val (Value.pointer (some ⟨b1, 0, none⟩)) _ (op_fieldAddr fd_29_0 hf61) rfl ?_
          refine WL.val v_r_Table _ (op_load one_22 rfl (BoxAt.cell (BoxAt.lift hS71.ext hx6) rfl)) rfl ?_
          refine WL.val (Value.int .i64 (k50 : Int)) _ (op_move rfl) rfl ?_
          obtain ⟨x74, hx77, hb56⟩ := bs hb56
          obtain ⟨ha75, hb76, hx77⟩ := idx_some hx77
          refine WL.val (Value.pointer (some (elA v_r_Table ((k50 : Int)).toNat))) _ (op_idx sl_22 (Ty.lift _ (Ext.trans hE7 hS71.ext) r_r_Table) rfl rfl ha75 hb76) rfl ?_
          obtain ⟨u78, hc79, hr80⟩ := repSl.el r_r_Table hx77
          refine WL.val u78 _ (op_load one_65 rfl (Ext.cell (Ext.trans hE7 hS71.ext) hc79)) rfl ?_
          refine WL.val (Value.int .i64 (k23 : Int)) _ (op_move hf64) rfl ?_
          obtain ⟨x81, hx84, hb56⟩ := bs hb56
          obtain ⟨ha82, hb83, hx84⟩ := idx_some hx84
          refine WL.val (Value.pointer (some (elA u78 ((k23 : Int)).toNat))) _ (op_idx sl_65 (Ty.lift _ (Ext.trans hE7 hS71.ext) hr80) rfl rfl ha82 hb83) rfl ?_
          obtain ⟨u85, hc86, hr87⟩ := repSl.el hr80 hx84
          refine WL.val u85 _ (op_load one_25 rfl (Ext.cell (Ext.trans hE7 hS71.ext) hc86)) rfl ?_
          obtain ⟨x88, hx89, hb56⟩ := bs hb56
          refine WL.call _ (op_call fn_114 (args1 rfl)) (c_slices_Clone_Lint64_int64 (Ty.lift _ (Ext.trans hE7 hS71.ext) hr87) hx89) rfl ?_
          rintro u90 wd91 ⟨_, rfl, he92, hs93⟩
          have hS94 := St.join hS71 he92 hs93
          replace hS94 : St wd2 wd91 [bx b9 [(Value.slice none 0 0)], bx b13 [u33], (Ty.sl (Ty.sl (Ty.sl (Ty.i .i64)))).at u33 x24, (Ty.sl (Ty.sl (Ty.i .i64))).at u60 x51, (Ty.sl (Ty.i .i64)).at u90 x88] := hS94
          refine WL.lit [u90] hS94 sl_65 rfl rfl (fillL rfl ⟨rfl, rfl, (cells_rep (St.rep (t := (Ty.sl (Ty.i .i64))) hS94 4 rfl)), trivial⟩) rfl rfl ?_
          intro b99 wd96 hS97 he98 hx100
          replace hS97 : St wd2 wd96 [bx b9 [(Value.slice none 0 0)], bx b13 [u33], (Ty.sl (Ty.sl (Ty.sl (Ty.i .i64)))).at u33 x24, (Ty.sl (Ty.sl (Ty.i .i64))).at u60 x51, (Ty.sl (Ty.i .i64)).at u90 x88, bx b99 [u90]] := hS97
          obtain ⟨x101, hx102, hb56⟩ := bs hb56
          refine WL.appendRow hS97 (k := 3) (k2 := 4) (k3 := 5) rfl rfl rfl rfl sl_65 rfl rfl rfl rfl hx102 rfl ?_
          intro u103 wd104 hS105 hz106
          replace hS105 : St wd2 wd104 [bx b9 [(Value.slice none 0 0)], bx b13 [u33], (Ty.sl (Ty.sl (Ty.sl (Ty.i .i64)))).at u33 x24, (Ty.sl (Ty.sl (Ty.i .i64))).at u103 x101, emp, bx b99 [u90]] := hS105
          refine WL.val u103 _ (op_assign rfl) rfl ?_
          refine WL.nil ?_
          show W _ _ _ _ _ _
          refine W.region ?_
          refine WL.val (Value.int .i64 (w64 ((k50 : Int) + (1 : Int)))) _ (op_add hf69 rfl) rfl ?_
          refine WL.val (Value.int .i64 (w64 ((k50 : Int) + (1 : Int)))) _ (op_move rfl) rfl ?_
          refine WL.nil ?_
          obtain rfl := Option.some.inj hb56
          show ∃ s, _ = Ctl.next s ∧ _
          exact ⟨_, rfl, u103, hf61, hf62, hf63, hf64, rfl, hf66, hf67, hf68, (ctr_next hl72 hr47), (ctr_rng hl72 hr47), (St.pick hS105 [0, 1, 2, 3] rfl)⟩
        · intro x113 f108 wd109 hs110 hI111
          replace hI111 : ∃ (uu0 : Value), f108 1 = (Value.pointer (some ⟨b1, 0, none⟩)) ∧ f108 2 = (Value.pointer (some ⟨b9, 0, none⟩)) ∧ f108 3 = (Value.pointer (some ⟨b13, 0, none⟩)) ∧ f108 4 = (Value.int .i64 (k23 : Int)) ∧ f108 5 = uu0 ∧ f108 10 = (Value.int .i64 ((r_Table).length : Int)) ∧ f108 11 = (Value.int .i64 (k23 : Int)) ∧ f108 17 = (Value.int .i64 ((r_Table).length : Int)) ∧ f108 18 = Value.int .i64 (((r_Table).length : Nat) : Int) ∧ InR .i64 (((r_Table).length : Nat) : Int) ∧ St wd2 wd109 [bx b9 [(Value.slice none 0 0)], bx b13 [u33], (Ty.sl (Ty.sl (Ty.sl (Ty.i .i64)))).at u33 x24, (Ty.sl (Ty.sl (Ty.i .i64))).at uu0 x113] := hI111
          obtain ⟨u114, hf115, hf116, hf117, hf118, hf119, hf120, hf121, hf122, hf123, hr124, hS125⟩ := hI111
          refine W.seq (W.region ?_)
          refine WL.val (Value.bool (decide ((((r_Table).length : Nat) : Int) < ((r_Table).length : Int)))) _ (op_lss hf123 hf122) rfl ?_
          have hl126 : ¬ (((r_Table).length : Nat) : Int) < ((r_Table).length : Int) := by omega
          refine WL.nil ?_
          show W _ _ _ _ _ _
          refine W.seq ?_
          refine W.condF (decide ((((r_Table).length : Nat) : Int) < ((r_Table).length : Int))) rfl (decide_eq_false hl126) ?_
          refine W.exit ?_
          show _ = _ ∧ _
          exact ⟨rfl, _, hs110, u114, hf115, hf116, hf117, hf119, hf120, hf121, hS125⟩
      · rintro f127 wd128 ⟨x131, rfl, hq129⟩
        replace hb29 := onRes_fin hb29
        replace hq129 : ∃ (uu0 : Value), f127 1 = (Value.pointer (some ⟨b1, 0, none⟩)) ∧ f127 2 = (Value.pointer (some ⟨b9, 0, none⟩)) ∧ f127 3 = (Value.pointer (some ⟨b13, 0, none⟩)) ∧ f127 5 = uu0 ∧ f127 10 = (Value.int .i64 ((r_Table).length : Int)) ∧ f127 11 = (Value.int .i64 (k23 : Int)) ∧ St wd2 wd128 [bx b9 [(Value.slice none 0 0)], bx b13 [u33], (Ty.sl (Ty.sl (Ty.sl (Ty.i .i64)))).at u33 x24, (Ty.sl (Ty.sl (Ty.i .i64))).at uu0 x131] := hq129
        obtain ⟨u132, hf133, hf134, hf135, hf136, hf137, hf138, hS139⟩ := hq129
        show W _ _ _ _ _ _
        refine W.region ?_
        refine WL.val (Value.pointer (some ⟨b13, 0, none⟩)) _ (op_fieldAddr fd_29_0 hf135) rfl ?_
        refine WL.val u33 _ (op_load one_22 rfl (BoxAt.cell (St.boxAt hS139 1 rfl) rfl)) rfl ?_
        refine WL.val u132 _ (op_move hf136) rfl ?_
        refine WL.lit [u132] hS139 sl_22 rfl rfl (fillL rfl ⟨rfl, rfl, (cells_rep (St.rep (t := (Ty.sl (Ty.sl (Ty.i .i64)))) hS139 3 rfl)), trivial⟩) rfl rfl ?_
        intro b144 wd141 hS142 he143 hx145
        replace hS142 : St wd2 wd141 [bx b9 [(Value.slice none 0 0)], bx b13 [u33], (Ty.sl (Ty.sl (Ty.sl (Ty.i .i64)))).at u33 x24, (Ty.sl (Ty.sl (Ty.i .i64))).at u132 x131, bx b144 [u132]] := hS142
        obtain ⟨x146, hx147, hb29⟩ := bs hb29
        refine WL.appendRow hS142 (k := 2) (k2 := 3) (k3 := 4) rfl rfl rfl rfl sl_22 rfl rfl rfl rfl hx147 rfl ?_
        intro u148 wd149 hS150 hz151
        replace hS150 : St wd2 wd149 [bx b9 [(Value.slice none 0 0)], bx b13 [u33], (Ty.sl (Ty.sl (Ty.sl (Ty.i .i64)))).at u148 x146, emp, bx b144 [u132]] := hS150
        refine WL.val (Value.pointer (some ⟨b13, 0, none⟩)) _ (op_fieldAddr fd_29_0 hf135) rfl ?_
        refine WL.storeBox [u148] hS150 (k := 1) rfl rfl rfl (us := [u148]) (cells_rep (St.rep (t := (Ty.sl (Ty.sl (Ty.sl (Ty.i .i64))))) hS150 2 rfl)) sz_22 rfl rfl (all_rep (St.rep (t := (Ty.sl (Ty.sl (Ty.sl (Ty.i .i64))))) hS150 2 rfl) all_nil) rfl ?_
        intro wd152 hS153
        replace hS153 : St wd2 wd152 [bx b9 [(Value.slice none 0 0)], bx b13 [u148], (Ty.sl (Ty.sl (Ty.sl (Ty.i .i64)))).at u148 x146, emp, bx b144 [u132]] := hS153
        refine WL.nil ?_
        show W _ _ _ _ _ _
        refine W.region ?_
        refine WL.val (Value.int .i64 (w64 ((k23 : Int) + (1 : Int)))) _ (op_add hf138 rfl) rfl ?_
        refine WL.val (Value.int .i64 (w64 ((k23 : Int) + (1 : Int)))) _ (op_move rfl) rfl ?_
        refine WL.nil ?_
        obtain rfl := Option.some.inj hb29
        show ∃ s, _ = Ctl.next s ∧ _
        exact ⟨_, rfl, u148, hf133, hf134, hf135, hf137, (ctr_next hl41 hr20), (ctr_rng hl41 hr20), (St.pick hS153 [0, 1, 2] rfl)⟩
    · intro x161 f156 wd157 hs158 hI159
      replace hI159 : ∃ (uu0 : Value), f156 1 = (Value.pointer (some ⟨b1, 0, none⟩)) ∧ f156 2 = (Value.pointer (some ⟨b9, 0, none⟩)) ∧ f156 3 = (Value.pointer (some ⟨b13, 0, none⟩)) ∧ f156 10 = (Value.int .i64 ((r_Table).length : Int)) ∧ f156 11 = Value.int .i64 (((r_Table).length : Nat) : Int) ∧ InR .i64 (((r_Table).length : Nat) : Int) ∧ St wd2 wd157 [bx b9 [(Value.slice none 0 0)], bx b13 [uu0], (Ty.sl (Ty.sl (Ty.sl (Ty.i .i64)))).at uu0 x161] := hI159
      obtain ⟨u162, hf163, hf164, hf165, hf166, hf167, hr168, hS169⟩ := hI159
      refine W.seq (W.region ?_)
      refine WL.val (Value.bool (decide ((((r_Table).length : Nat) : Int) < ((r_Table).length : Int)))) _ (op_lss hf167 hf166) rfl ?_
      have hl170 : ¬ (((r_Table).length : Nat) : Int) < ((r_Table).length : Int) := by omega
      refine WL.nil ?_
      show W _ _ _ _ _ _
      refine W.seq ?_
      refine W.condF (decide ((((r_Table).length : Nat) : Int) < ((r_Table).length : Int))) rfl (decide_eq_false hl170) ?_
      refine W.exit ?_
      show _ = _ ∧ _
      exact ⟨rfl, _, hs158, u162, hf164, hf165, hS169⟩
  · rintro f171 wd172 ⟨x175, rfl, hq173⟩
    replace h := onRes_fin h
    replace hq173 : ∃ (uu0 : Value), f171 2 = (Value.pointer (some ⟨b9, 0, none⟩)) ∧ f171 3 = (Value.pointer (some ⟨b13, 0, none⟩)) ∧ St wd2 wd172 [bx b9 [(Value.slice none 0 0)], bx b13 [uu0], (Ty.sl (Ty.sl (Ty.sl (Ty.i .i64)))).at uu0 x175] := hq173
    obtain ⟨u176, hf177, hf178, hS179⟩ := hq173
    show W _ _ _ _ _ _
    refine W.seq (W.region ?_)
    refine WL.val (Value.agg #[u176]) _ (op_loadBox st_29 hf178 (St.boxAt hS179 1 rfl) rfl rfl) rfl ?_
    refine WL.storeBox [u176] hS179 (k := 0) rfl hf177 rfl (us := [u176]) rfl sz_29 rfl rfl (all_rep (St.rep (t := (Ty.sl (Ty.sl (Ty.sl (Ty.i .i64))))) hS179 2 rfl) all_nil) rfl ?_
    intro wd180 hS181
    replace hS181 : St wd2 wd180 [bx b9 [u176], bx b13 [u176], (Ty.sl (Ty.sl (Ty.sl (Ty.i .i64)))).at u176 x175] := hS181
    refine WL.nil ?_
    show W _ _ _ _ _ _
    refine W.ret ?_
    obtain rfl := Option.some.inj h
    show FinP _ _ _ _ _ _ _
    exact FinP.ret _ (resC rfl hf177 st_29 (St.boxAt hS181 0 rfl) rfl) ⟨u176, rfl, (Ext.trans hE7 hS181.ext), (St.out (St.pick hS181 [2] rfl) (hE7))⟩

theorem c_slices_EqualFunc_LLLint64_LLLint64_LLint64_LLint64 {w : World} {s1 : (List (List (List Int)))} {v_s1 : Value} {s2 : (List (List (List Int)))} {v_s2 : Value} {eq : (List (List Int)) → (List (List Int)) → Option Bool} {v_eq : Value} (r_s1 : (Ty.sl (Ty.sl (Ty.sl (Ty.i .i64)))).rep w v_s1 s1) (r_s2 : (Ty.sl (Ty.sl (Ty.sl (Ty.i .i64)))).rep w v_s2 s2) (r_eq : FnT_lli_lli_to_b Try.prog v_eq w eq) {res : Bool} (h : p_slices_EqualFunc_LLLint64_LLLint64_LLint64_LLint64 s1 s2 eq  = some res) :
    Ret Try.prog 112 #[v_s1, v_s2, v_eq] w (fun v w' => v = Value.bool res ∧ Ext w w') := by
  unfold p_slices_EqualFunc_LLLint64_LLLint64_LLint64_LLint64 at h
  have hS0 : St w w [] := St.start w
  have q_eq := r_eq
  obtain ⟨g_eq, fst_eq, cap_eq, eq_eq, ok_eq, call_eq⟩ := q_eq
  subst eq_eq
  refine Ret.start (fn := Try.f112) Try.func112 rfl 32 rfl rfl ?_
  refine W.seq (W.region ?_)
  refine WL.val (Value.bool false) _ (op_assign rfl) rfl ?_
  refine WL.nil ?_
  show W _ _ _ _ _ _
  refine W.seq (W.seq (W.region ?_))
  refine WL.val v_s1 _ (op_move rfl) rfl ?_
  have hr1 := inR_len (Ty.lift _ hS0.ext r_s1)
  refine WL.val (Value.int .i64 ((s1).length : Int)) _ (op_lenL sl_22 (Ty.lift _ hS0.ext r_s1) rfl) rfl ?_
  refine WL.val v_s2 _ (op_move rfl) rfl ?_
  have hr2 := inR_len (Ty.lift _ hS0.ext r_s2)
  refine WL.val (Value.int .i64 ((s2).length : Int)) _ (op_lenL sl_22 (Ty.lift _ hS0.ext r_s2) rfl) rfl ?_
  refine WL.val (Value.bool (((s1).length : Int) != ((s2).length : Int))) _ (op_neq rfl rfl) rfl ?_
  refine WL.nil ?_
  show W _ _ _ _ _ _
  refine W.cond (((s1).length : Int) != ((s2).length : Int)) rfl (fun hc3 => ?_) (fun hc3 => ?_)
  · replace h := ip h hc3
    refine W.seq (W.region ?_)
    refine WL.val (Value.bool false) _ (op_assign rfl) rfl ?_
    refine WL.nil ?_
    show W _ _ _ _ _ _
    refine W.ret ?_
    obtain rfl := Option.some.inj h
    show FinP _ _ _ _ _ _ _
    exact FinP.ret _ (res1 rfl rfl) ⟨rfl, hS0.ext⟩
  · replace h := inegb h hc3
    refine W.skip ?_
    show W _ _ _ _ _ _
    refine W.seq (W.seq (W.region ?_))
    refine WL.val v_s1 _ (op_move rfl) rfl ?_
    have hr5 := inR_len (Ty.lift _ hS0.ext r_s1)
    refine WL.val (Value.int .i64 ((s1).length : Int)) _ (op_lenL sl_22 (Ty.lift _ hS0.ext r_s1) rfl) rfl ?_
    refine WL.val (Value.int .i64 (0 : Int)) _ (op_move rfl) rfl ?_
    refine WL.nil ?_
    show W _ _ _ _ _ _
    obtain ⟨res6, hres7, h⟩ := bs h
    refine W.blockLoop (fun fq wq => ∃ s, res6 = Res.fin s ∧ St w wq []) ?_ ?_
    · refine W.forN (fun k (s : Unit) fq wq => fq 1 = v_s2 ∧ fq 2 = (Value.func (.func g_eq) fst_eq cap_eq) ∧ fq 15 = v_s1 ∧ fq 16 = (Value.int .i64 ((s1).length : Int)) ∧ fq 17 = Value.int .i64 (k : Int) ∧ InR .i64 (k : Int) ∧ St w wq []) hres7 ⟨rfl, rfl, rfl, rfl, rfl, (inR_i64.2 (show (-9223372036854775808 : Int) ≤ 0 ∧ (0 : Int) ≤ 9223372036854775807 from by decide)), hS0⟩ ?_ ?_
      · intro k8 s48 ct9 f10 wd11 hk12 hb13 hI14 hbrk15 hret16
        obtain ⟨⟩ := s48
        replace hI14 : f10 1 = v_s2 ∧ f10 2 = (Value.func (.func g_eq) fst_eq cap_eq) ∧ f10 15 = v_s1 ∧ f10 16 = (Value.int .i64 ((s1).length : Int)) ∧ f10 17 = Value.int .i64 (k8 : Int) ∧ InR .i64 (k8 : Int) ∧ St w wd11 [] := hI14
        replace hb13 : p_slices_EqualFunc_LLLint64_LLLint64_LLint64_LLint64_L1 s1 s2 eq k8  = some ct9 := hb13
        unfold p_slices_EqualFunc_LLLint64_LLLint64_LLint64_LLint64_L1 at hb13
        obtain ⟨hf17, hf18, hf19, hf20, hf21, hr22, hS23⟩ := hI14
        refine W.seq (W.region ?_)
        refine WL.val (Value.bool (decide ((k8 : Int) < ((s1).length : Int)))) _ (op_lss hf21 hf20) rfl ?_
        have hl24 : (k8 : Int) < ((s1).length : Int) := by omega
        refine WL.nil ?_
        show W _ _ _ _ _ _
        refine W.seq ?_
        refine W.condT (decide ((k8 : Int) < ((s1).length : Int))) rfl (decide_eq_true hl24) ?_
        refine W.skip ?_
        show W _ _ _ _ _ _
        refine W.seq ?_
        refine W.block ?_
        refine W.seq (W.region ?_)
        refine WL.val (Value.int .i64 (k8 : Int)) _ (op_move hf21) rfl ?_
        obtain ⟨x26, hx29, hb13⟩ := bs hb13
        obtain ⟨ha27, hb28, hx29⟩ := idx_some hx29
        refine WL.val (Value.pointer (some (elA v_s1 ((k8 : Int)).toNat))) _ (op_idx sl_22 (Ty.lift _ hS23.ext r_s1) hf19 hf21 ha27 hb28) rfl ?_
        obtain ⟨u30, hc31, hr32⟩ := repSl.el r_s1 hx29
        refine WL.val u30 _ (op_load one_65 rfl (Ext.cell hS23.ext hc31)) rfl ?_
        refine WL.val (Value.int .i64 (k8 : Int)) _ (op_assign rfl) rfl ?_
        refine WL.val u30 _ (op_assign rfl) rfl ?_
        refine WL.nil ?_
        show W _ _ _ _ _ _
        refine W.seq (W.region ?_)
        refine WL.val v_s2 _ (op_move hf17) rfl ?_
        refine WL.val (Value.int .i64 (k8 : Int)) _ (op_move rfl) rfl ?_
        obtain ⟨x33, hx36, hb13⟩ := bs hb13
        obtain ⟨ha34, hb35, hx36⟩ := idx_some hx36
        refine WL.val (Value.pointer (some (elA v_s2 ((k8 : Int)).toNat))) _ (op_idx sl_22 (Ty.lift _ hS23.ext r_s2) rfl rfl ha34 hb35) rfl ?_
        obtain ⟨u37, hc38, hr39⟩ := repSl.el r_s2 hx36
        refine WL.val u37 _ (op_load one_65 rfl (Ext.cell hS23.ext hc38)) rfl ?_
        refine WL.val u37 _ (op_assign rfl) rfl ?_
        refine WL.nil ?_
        show W _ _ _ _ _ _
        refine W.seq (W.region ?_)
        refine WL.val (Value.func (.func g_eq) fst_eq cap_eq) _ (op_move hf18) rfl ?_
        refine WL.val u30 _ (op_move rfl) rfl ?_
        refine WL.val u37 _ (op_move rfl) rfl ?_
        obtain ⟨x40, hx41, hb13⟩ := bs hb13
        refine WL.call _ (op_callV rfl ok_eq (args2 rfl rfl)) (call_eq wd11 u30 x26 u37 x33 x40 hS23.ext (Ty.lift _ hS23.ext hr32) (Ty.lift _ hS23.ext hr39) hx41) rfl ?_
        rintro _ wd42 ⟨rfl, he43⟩
        have hS45 := St.extend hS23 he43
        refine WL.val (Value.bool (!x40)) _ (op_not rfl) rfl ?_
        refine WL.nil ?_
        show W _ _ _ _ _ _
        refine W.cond (!x40) rfl (fun hc46 => ?_) (fun hc46 => ?_)
        · replace hb13 := ip hb13 hc46
          refine W.seq (W.region ?_)
          refine WL.val (Value.bool false) _ (op_assign rfl) rfl ?_
          refine WL.nil ?_
          show W _ _ _ _ _ _
          refine W.ret ?_
          obtain rfl := Option.some.inj hb13
          obtain rfl := hret16 _ rfl
          replace h := onRes_ret h
          obtain rfl := Option.some.inj h
          show FinP _ _ _ _ _ _ _
          exact FinP.ret _ (res1 rfl rfl) ⟨rfl, hS45.ext⟩
        · replace hb13 := inegb hb13 hc46
          refine W.skip ?_
          show W _ _ _ _ _ _
          refine W.region ?_
          refine WL.val (Value.int .i64 (w64 ((k8 : Int) + (1 : Int)))) _ (op_add hf21 rfl) rfl ?_
          refine WL.val (Value.int .i64 (w64 ((k8 : Int) + (1 : Int)))) _ (op_move rfl) rfl ?_
          refine WL.nil ?_
          obtain rfl := Option.some.inj hb13
          show ∃ s, _ = Ctl.next s ∧ _
          exact ⟨_, rfl, hf17, hf18, hf19, hf20, (ctr_next hl24 hr5), (ctr_rng hl24 hr5), hS45⟩
      · intro s53 f49 wd50 hs51 hI52
        obtain ⟨⟩ := s53
        replace hI52 : f49 1 = v_s2 ∧ f49 2 = (Value.func (.func g_eq) fst_eq cap_eq) ∧ f49 15 = v_s1 ∧ f49 16 = (Value.int .i64 ((s1).length : Int)) ∧ f49 17 = Value.int .i64 (((s1).length : Nat) : Int) ∧ InR .i64 (((s1).length : Nat) : Int) ∧ St w wd50 [] := hI52
        obtain ⟨hf54, hf55, hf56, hf57, hf58, hr59, hS60⟩ := hI52
        refine W.seq (W.region ?_)
        refine WL.val (Value.bool (decide ((((s1).length : Nat) : Int) < ((s1).length : Int)))) _ (op_lss hf58 hf57) rfl ?_
        have hl61 : ¬ (((s1).length : Nat) : Int) < ((s1).length : Int) := by omega
        refine WL.nil ?_
        show W _ _ _ _ _ _
        refine W.seq ?_
        refine W.condF (decide ((((s1).length : Nat) : Int) < ((s1).length : Int))) rfl (decide_eq_false hl61) ?_
        refine W.exit ?_
        show _ = _ ∧ _
        exact ⟨rfl, _, hs51, hS60⟩
    · rintro f62 wd63 ⟨s65, rfl, hq64⟩
      replace h := onRes_fin h
      obtain ⟨⟩ := s65
      replace hq64 : St w wd63 [] := hq64
      have hS66 := hq64
      show W _ _ _ _ _ _
      refine W.seq (W.region ?_)
      refine WL.val (Value.bool true) _ (op_assign rfl) rfl ?_
      refine WL.nil ?_
      show W _ _ _ _ _ _
      refine W.ret ?_
      obtain rfl := Option.some.inj h
      show FinP _ _ _ _ _ _ _
      exact FinP.ret _ (res1 rfl rfl) ⟨rfl, hS66.ext⟩

theorem c_slices_EqualFunc_LLint64_LLint64_Lint64_Lint64 {w : World} {s1 : (List (List Int))} {v_s1 : Value} {s2 : (List (List Int))} {v_s2 : Value} {eq : (List Int) → (List Int) → Option Bool} {v_eq : Value} (r_s1 : (Ty.sl (Ty.sl (Ty.i .i64))).rep w v_s1 s1) (r_s2 : (Ty.sl (Ty.sl (Ty.i .i64))).rep w v_s2 s2) (r_eq : FnT_li_li_to_b Try.prog v_eq w eq) {res : Bool} (h : p_slices_EqualFunc_LLint64_LLint64_Lint64_Lint64 s1 s2 eq  = some res) :
    Ret Try.prog 109 #[v_s1, v_s2, v_eq] w (fun v w' => v = Value.bool res ∧ Ext w w') := by
  unfold p_slices_EqualFunc_LLint64_LLint64_Lint64_Lint64 at h
  have hS0 : St w w [] := St.start w
  have q_eq := r_eq
  obtain ⟨g_eq, fst_eq, cap_eq, eq_eq, ok_eq, call_eq⟩ := q_eq
  subst eq_eq
  refine Ret.start (fn := Try.f109) Try.func109 rfl 32 rfl rfl ?_
  refine W.seq (W.region ?_)
  refine WL.val (Value.bool false) _ (op_assign rfl) rfl ?_
  refine WL.nil ?_
  show W _ _ _ _ _ _
  refine W.seq (W.seq (W.region ?_))
  refine WL.val v_s1 _ (op_move rfl) rfl ?_
  have hr1 := inR_len (Ty.lift _ hS0.ext r_s1)
  refine WL.val (Value.int .i64 ((s1).length : Int)) _ (op_lenL sl_65 (Ty.lift _ hS0.ext r_s1) rfl) rfl ?_
  refine WL.val v_s2 _ (op_move rfl) rfl ?_
  have hr2 := inR_len (Ty.lift _ hS0.ext r_s2)
  refine WL.val (Value.int .i64 ((s2).length : Int)) _ (op_lenL sl_65 (Ty.lift _ hS0.ext r_s2) rfl) rfl ?_
  refine WL.val (Value.bool (((s1).length : Int) != ((s2).length : Int))) _ (op_neq rfl rfl) rfl ?_
  refine WL.nil ?_
  show W _ _ _ _ _ _
  refine W.cond (((s1).length : Int) != ((s2).length : Int)) rfl (fun hc3 => ?_) (fun hc3 => ?_)
  · replace h := ip h hc3
    refine W.seq (W.region ?_)
    refine WL.val (Value.bool false) _ (op_assign rfl) rfl ?_
    refine WL.nil ?_
    show W _ _ _ _ _ _
    refine W.ret ?_
    obtain rfl := Option.some.inj h
    show FinP _ _ _ _ _ _ _
    exact FinP.ret _ (res1 rfl rfl) ⟨rfl, hS0.ext⟩
  · replace h := inegb h hc3
    refine W.skip ?_
    show W _ _ _ _ _ _
    refine W.seq (W.seq (W.region ?_))
    refine WL.val v_s1 _ (op_move rfl) rfl ?_
    have hr5 := inR_len (Ty.lift _ hS0.ext r_s1)
    refine WL.val (Value.int .i64 ((s1).length : Int)) _ (op_lenL sl_65 (Ty.lift _ hS0.ext r_s1) rfl) rfl ?_
    refine WL.val (Value.int .i64 (0 : Int)) _ (op_move rfl) rfl ?_
    refine WL.nil ?_
    show W _ _ _ _ _ _
    obtain ⟨res6, hres7, h⟩ := bs h
    refine W.blockLoop (fun fq wq => ∃ s, res6 = Res.fin s ∧ St w wq []) ?_ ?_
    · refine W.forN (fun k (s : Unit) fq wq => fq 1 = v_s2 ∧ fq 2 = (Value.func (.func g_eq) fst_eq cap_eq) ∧ fq 15 = v_s1 ∧ fq 16 = (Value.int .i64 ((s1).length : Int)) ∧ fq 17 = Value.int .i64 (k : Int) ∧ InR .i64 (k : Int) ∧ St w wq []) hres7 ⟨rfl, rfl, rfl, rfl, rfl, (inR_i64.2 (show (-9223372036854775808 : Int) ≤ 0 ∧ (0 : Int) ≤ 9223372036854775807 from by decide)), hS0⟩ ?_ ?_
      · intro k8 s48 ct9 f10 wd11 hk12 hb13 hI14 hbrk15 hret16
        obtain ⟨⟩ := s48
        replace hI14 : f10 1 = v_s2 ∧ f10 2 = (Value.func (.func g_eq) fst_eq cap_eq) ∧ f10 15 = v_s1 ∧ f10 16 = (Value.int .i64 ((s1).length : Int)) ∧ f10 17 = Value.int .i64 (k8 : Int) ∧ InR .i64 (k8 : Int) ∧ St w wd11 [] := hI14
        replace hb13 : p_slices_EqualFunc_LLint64_LLint64_Lint64_Lint64_L1 s1 s2 eq k8  = some ct9 := hb13
        unfold p_slices_EqualFunc_LLint64_LLint64_Lint64_Lint64_L1 at hb13
        obtain ⟨hf17, hf18, hf19, hf20, hf21, hr22, hS23⟩ := hI14
        refine W.seq (W.region ?_)
        refine WL.val (Value.bool (decide ((k8 : Int) < ((s1).length : Int)))) _ (op_lss hf21 hf20) rfl ?_
        have hl24 : (k8 : Int) < ((s1).length : Int) := by omega
        refine WL.nil ?_
        show W _ _ _ _ _ _
        refine W.seq ?_
        refine W.condT (decide ((k8 : Int) < ((s1).length : Int))) rfl (decide_eq_true hl24) ?_
        refine W.skip ?_
        show W _ _ _ _ _ _
        refine W.seq ?_
        refine W.block ?_
        refine W.seq (W.region ?_)
        refine WL.val (Value.int .i64 (k8 : Int)) _ (op_move hf21) rfl ?_
        obtain ⟨x26, hx29, hb13⟩ := bs hb13
        obtain ⟨ha27, hb28, hx29⟩ := idx_some hx29
        refine WL.val (Value.pointer (some (elA v_s1 ((k8 : Int)).toNat))) _ (op_idx sl_65 (Ty.lift _ hS23.ext r_s1) hf19 hf21 ha27 hb28) rfl ?_
        obtain ⟨u30, hc31, hr32⟩ := repSl.el r_s1 hx29
        refine WL.val u30 _ (op_load one_25 rfl (Ext.cell hS23.ext hc31)) rfl ?_
        refine WL.val (Value.int .i64 (k8 : Int)) _ (op_assign rfl) rfl ?_
        refine WL.val u30 _ (op_assign rfl) rfl ?_
        refine WL.nil ?_
        show W _ _ _ _ _ _
        refine W.seq (W.region ?_)
        refine WL.val v_s2 _ (op_move hf17) rfl ?_
        refine WL.val (Value.int .i64 (k8 : Int)) _ (op_move rfl) rfl ?_
        obtain ⟨x33, hx36, hb13⟩ := bs hb13
        obtain ⟨ha34, hb35, hx36⟩ := idx_some hx36
        refine WL.val (Value.pointer (some (elA v_s2 ((k8 : Int)).toNat))) _ (op_idx sl_65 (Ty.lift _ hS23.ext r_s2) rfl rfl ha34 hb35) rfl ?_
        obtain ⟨u37, hc38, hr39⟩ := repSl.el r_s2 hx36
        refine WL.val u37 _ (op_load one_25 rfl (Ext.cell hS23.ext hc38)) rfl ?_
        refine WL.val u37 _ (op_assign rfl) rfl ?_
        refine WL.nil ?_
        show W _ _ _ _ _ _
        refine W.seq (W.region ?_)
        refine WL.val (Value.func (.func g_eq) fst_eq cap_eq) _ (op_move hf18) rfl ?_
        refine WL.val u30 _ (op_move rfl) rfl ?_
        refine WL.val u37 _ (op_move rfl) rfl ?_
        obtain ⟨x40, hx41, hb13⟩ := bs hb13
        refine WL.call _ (op_callV rfl ok_eq (args2 rfl rfl)) (call_eq wd11 u30 x26 u37 x33 x40 hS23.ext (Ty.lift _ hS23.ext hr32) (Ty.lift _ hS23.ext hr39) hx41) rfl ?_
        rintro _ wd42 ⟨rfl, he43⟩
        have hS45 := St.extend hS23 he43
        refine WL.val (Value.bool (!x40)) _ (op_not rfl) rfl ?_
        refine WL.nil ?_
        show W _ _ _ _ _ _
        refine W.cond (!x40) rfl (fun hc46 => ?_) (fun hc46 => ?_)
        · replace hb13 := ip hb13 hc46
          refine W.seq (W.region ?_)
          refine WL.val (Value.bool false) _ (op_assign rfl) rfl ?_
          refine WL.nil ?_
          show W _ _ _ _ _ _
          refine W.ret ?_
          obtain rfl := Option.some.inj hb13
          obtain rfl := hret16 _ rfl
          replace h := onRes_ret h
          obtain rfl := Option.some.inj h
          show FinP _ _ _ _ _ _ _
          exact FinP.ret _ (res1 rfl rfl) ⟨rfl, hS45.ext⟩
        · replace hb13 := inegb hb13 hc46
          refine W.skip ?_
          show W _ _ _ _ _ _
          refine W.region ?_
          refine WL.val (Value.int .i64 (w64 ((k8 : Int) + (1 : Int)))) _ (op_add hf21 rfl) rfl ?_
          refine WL.val (Value.int .i64 (w64 ((k8 : Int) + (1 : Int)))) _ (op_move rfl) rfl ?_
          refine WL.nil ?_
          obtain rfl := Option.some.inj hb13
          show ∃ s, _ = Ctl.next s ∧ _
          exact ⟨_, rfl, hf17, hf18, hf19, hf20, (ctr_next hl24 hr5), (ctr_rng hl24 hr5), hS45⟩
      · intro s53 f49 wd50 hs51 hI52
        obtain ⟨⟩ := s53
        replace hI52 : f49 1 = v_s2 ∧ f49 2 = (Value.func (.func g_eq) fst_eq cap_eq) ∧ f49 15 = v_s1 ∧ f49 16 = (Value.int .i64 ((s1).length : Int)) ∧ f49 17 = Value.int .i64 (((s1).length : Nat) : Int) ∧ InR .i64 (((s1).length : Nat) : Int) ∧ St w wd50 [] := hI52
        obtain ⟨hf54, hf55, hf56, hf57, hf58, hr59, hS60⟩ := hI52
        refine W.seq (W.region ?_)
        refine WL.val (Value.bool (decide ((((s1).length : Nat) : Int) < ((s1).length : Int)))) _ (op_lss hf58 hf57) rfl ?_
        have hl61 : ¬ (((s1).length : Nat) : Int) < ((s1).length : Int) := by omega
        refine WL.nil ?_
        show W _ _ _ _ _ _
        refine W.seq ?_
        refine W.condF (decide ((((s1).length : Nat) : Int) < ((s1).length : Int))) rfl (decide_eq_false hl61) ?_
        refine W.exit ?_
        show _ = _ ∧ _
        exact ⟨rfl, _, hs51, hS60⟩
    · rintro f62 wd63 ⟨s65, rfl, hq64⟩
      replace h := onRes_fin h
      obtain ⟨⟩ := s65
      replace hq64 : St w wd63 [] := hq64
      have hS66 := hq64
      show W _ _ _ _ _ _
      refine W.seq (W.region ?_)
      refine WL.val (Value.bool true) _ (op_assign rfl) rfl ?_
      refine WL.nil ?_
      show W _ _ _ _ _ _
      refine W.ret ?_
      obtain rfl := Option.some.inj h
      show FinP _ _ _ _ _ _ _
      exact FinP.ret _ (res1 rfl rfl) ⟨rfl, hS66.ext⟩

theorem c_slices_Equal_Lint64_int64 {w : World} {s1 : (List Int)} {v_s1 : Value} {s2 : (List Int)} {v_s2 : Value} (r_s1 : (Ty.sl (Ty.i .i64)).rep w v_s1 s1) (r_s2 : (Ty.sl (Ty.i .i64)).rep w v_s2 s2) {res : Bool} (h : p_slices_Equal_Lint64_int64 s1 s2  = some res) :
    Ret Try.prog 56 #[v_s1, v_s2] w (fun v w' => v = Value.bool res ∧ Ext w w') := by
  unfold p_slices_Equal_Lint64_int64 at h
  have hS0 : St w w [] := St.start w
  refine Ret.start (fn := Try.f56) Try.func56 rfl 26 rfl rfl ?_
  refine W.seq (W.region ?_)
  refine WL.val (Value.bool false) _ (op_assign rfl) rfl ?_
  refine WL.nil ?_
  show W _ _ _ _ _ _
  refine W.seq (W.seq (W.region ?_))
  refine WL.val v_s1 _ (op_move rfl) rfl ?_
  have hr1 := inR_len (Ty.lift _ hS0.ext r_s1)
  refine WL.val (Value.int .i64 ((s1).length : Int)) _ (op_lenL sl_25 (Ty.lift _ hS0.ext r_s1) rfl) rfl ?_
  refine WL.val v_s2 _ (op_move rfl) rfl ?_
  have hr2 := inR_len (Ty.lift _ hS0.ext r_s2)
  refine WL.val (Value.int .i64 ((s2).length : Int)) _ (op_lenL sl_25 (Ty.lift _ hS0.ext r_s2) rfl) rfl ?_
  refine WL.val (Value.bool (((s1).length : Int) != ((s2).length : Int))) _ (op_neq rfl rfl) rfl ?_
  refine WL.nil ?_
  show W _ _ _ _ _ _
  refine W.cond (((s1).length : Int) != ((s2).length : Int)) rfl (fun hc3 => ?_) (fun hc3 => ?_)
  · replace h := ip h hc3
    refine W.seq (W.region ?_)
    refine WL.val (Value.bool false) _ (op_assign rfl) rfl ?_
    refine WL.nil ?_
    show W _ _ _ _ _ _
    refine W.ret ?_
    obtain rfl := Option.some.inj h
    show FinP _ _ _ _ _ _ _
    exact FinP.ret _ (res1 rfl rfl) ⟨rfl, hS0.ext⟩
  · replace h := inegb h hc3
    refine W.skip ?_
    show W _ _ _ _ _ _
    refine W.seq (W.seq (W.region ?_))
    refine WL.val v_s1 _ (op_move rfl) rfl ?_
    have hr5 := inR_len (Ty.lift _ hS0.ext r_s1)
    refine WL.val (Value.int .i64 ((s1).length : Int)) _ (op_lenL sl_25 (Ty.lift _ hS0.ext r_s1) rfl) rfl ?_
    refine WL.val (Value.int .i64 (0 : Int)) _ (op_move rfl) rfl ?_
    refine WL.nil ?_
    show W _ _ _ _ _ _
    obtain ⟨res6, hres7, h⟩ := bs h
    refine W.blockLoop (fun fq wq => ∃ s, res6 = Res.fin s ∧ St w wq []) ?_ ?_
    · refine W.forN (fun k (s : Unit) fq wq => fq 0 = v_s1 ∧ fq 1 = v_s2 ∧ fq 12 = (Value.int .i64 ((s1).length : Int)) ∧ fq 13 = Value.int .i64 (k : Int) ∧ InR .i64 (k : Int) ∧ St w wq []) hres7 ⟨rfl, rfl, rfl, rfl, (inR_i64.2 (show (-9223372036854775808 : Int) ≤ 0 ∧ (0 : Int) ≤ 9223372036854775807 from by decide)), hS0⟩ ?_ ?_
      · intro k8 s136 ct9 f10 wd11 hk12 hb13 hI14 hbrk15 hret16
        obtain ⟨⟩ := s136
        replace hI14 : f10 0 = v_s1 ∧ f10 1 = v_s2 ∧ f10 12 = (Value.int .i64 ((s1).length : Int)) ∧ f10 13 = Value.int .i64 (k8 : Int) ∧ InR .i64 (k8 : Int) ∧ St w wd11 [] := hI14
        replace hb13 : p_slices_Equal_Lint64_int64_L1 s1 s2 k8  = some ct9 := hb13
        unfold p_slices_Equal_Lint64_int64_L1 at hb13
        obtain ⟨hf17, hf18, hf19, hf20, hr21, hS22⟩ := hI14
        refine W.seq (W.region ?_)
        refine WL.val (Value.bool (decide ((k8 : Int) < ((s1).length : Int)))) _ (op_lss hf20 hf19) rfl ?_
        have hl23 : (k8 : Int) < ((s1).length : Int) := by omega
        refine WL.nil ?_
        show W _ _ _ _ _ _
        refine W.seq ?_
        refine W.condT (decide ((k8 : Int) < ((s1).length : Int))) rfl (decide_eq_true hl23) ?_
        refine W.skip ?_
        show W _ _ _ _ _ _
        refine W.seq ?_
        refine W.block ?_
        refine W.seq (W.region ?_)
        refine WL.val (Value.int .i64 (k8 : Int)) _ (op_move hf20) rfl ?_
        refine WL.val (Value.int .i64 (k8 : Int)) _ (op_assign rfl) rfl ?_
        refine WL.nil ?_
        show W _ _ _ _ _ _
        refine W.seq ?_
        obtain ⟨x54, hx57, hb13⟩ := bs hb13
        obtain ⟨ha55, hb56, hx57⟩ := idx_some hx57
        obtain ⟨u68, hc69, hr70⟩ := repSl.el r_s1 hx57
        obtain ⟨rfl, hr70⟩ := hr70
        obtain ⟨x100, hx103, hb13⟩ := bs hb13
        obtain ⟨ha101, hb102, hx103⟩ := idx_some hx103
        obtain ⟨u114, hc115, hr116⟩ := repSl.el r_s2 hx103
        obtain ⟨rfl, hr116⟩ := hr116
        refine W.drawR mixo 8 [] [fun _ v _ _ => v = v_s1, fun _ v _ _ => v = (Value.int .i64 (k8 : Int)) ∧ InR .i64 (k8 : Int), fun _ v _ _ => v = (Value.pointer (some (elA v_s1 ((k8 : Int)).toNat))), fun _ v _ _ => v = (Value.int .i64 x54) ∧ InR .i64 x54, fun _ v _ _ => v = v_s2, fun _ v _ _ => v = (Value.int .i64 (k8 : Int)) ∧ InR .i64 (k8 : Int), fun _ v _ _ => v = (Value.pointer (some (elA v_s2 ((k8 : Int)).toNat))), fun _ v _ _ => v = (Value.int .i64 x100) ∧ InR .i64 x100] (by kernel_rfl) (by kernel_rfl) ⟨⟨fun _ _ _ _ _ _ h => h, fun _ _ _ _ _ _ h => h⟩, ⟨fun _ _ _ _ _ _ h => h, fun _ _ _ _ _ _ h => h⟩, ⟨fun _ _ _ _ _ _ h => h, fun _ _ _ _ _ _ h => h⟩, ⟨fun _ _ _ _ _ _ h => h, fun _ _ _ _ _ _ h => h⟩, ⟨fun _ _ _ _ _ _ h => h, fun _ _ _ _ _ _ h => h⟩, ⟨fun _ _ _ _ _ _ h => h, fun _ _ _ _ _ _ h => h⟩, ⟨fun _ _ _ _ _ _ h => h, fun _ _ _ _ _ _ h => h⟩, ⟨fun _ _ _ _ _ _ h => h, fun _ _ _ _ _ _ h => h⟩, trivial⟩ ⟨?_, ?_, ?_, ?_, ?_, ?_, ?_, ?_, trivial⟩ ?_
        · refine ObX.op rfl ?_
          intro f25 wd26 he27 hout28 hphi29
          have hS30 : St w wd26 [] := St.extend hS22 he27
          have e31 : f25 0 = v_s1 := (hout28 0 rfl).trans hf17
          exact OpX.val v_s1 wd26 rfl (op_move e31) (Ext.refl _) rfl
        · refine ObX.op rfl ?_
          intro f32 wd33 he34 hout35 hphi36
          have hS37 : St w wd33 [] := St.extend hS22 he34
          have e38 : f32 5 = (Value.int .i64 (k8 : Int)) := (hout35 5 rfl).trans rfl
          exact OpX.val (Value.int .i64 (k8 : Int)) wd33 rfl (op_move e38) (Ext.refl _) ⟨rfl, hr21⟩
        · refine ObX.op rfl ?_
          intro f39 wd40 he41 hout42 hphi43
          have hS44 : St w wd40 [] := St.extend hS22 he41
          obtain ⟨S45, hS46, hf47⟩ := hphi43 0 16 _ rfl rfl rfl
          have e48 : f39 16 = v_s1 := hf47
          obtain ⟨S49, hS50, hf51⟩ := hphi43 1 17 _ rfl rfl rfl
          obtain ⟨e52, hr53⟩ : f39 17 = (Value.int .i64 (k8 : Int)) ∧ InR .i64 (k8 : Int) := hf51
          exact OpX.val (Value.pointer (some (elA v_s1 ((k8 : Int)).toNat))) wd40 rfl (op_idx sl_25 (Ty.lift _ hS44.ext r_s1) e48 e52 ha55 hb56) (Ext.refl _) rfl
        · refine ObX.op rfl ?_
          intro f58 wd59 he60 hout61 hphi62
          have hS63 : St w wd59 [] := St.extend hS22 he60
          obtain ⟨S64, hS65, hf66⟩ := hphi62 2 18 _ rfl rfl rfl
          have e67 : f58 18 = (Value.pointer (some (elA v_s1 ((k8 : Int)).toNat))) := hf66
          exact OpX.val (Value.int .i64 x54) wd59 rfl (op_load one_2 e67 (Ext.cell hS63.ext hc69)) (Ext.refl _) ⟨rfl, hr70⟩
        · refine ObX.op rfl ?_
          intro f71 wd72 he73 hout74 hphi75
          have hS76 : St w wd72 [] := St.extend hS22 he73
          have e77 : f71 1 = v_s2 := (hout74 1 rfl).trans hf18
          exact OpX.val v_s2 wd72 rfl (op_move e77) (Ext.refl _) rfl
        · refine ObX.op rfl ?_
          intro f78 wd79 he80 hout81 hphi82
          have hS83 : St w wd79 [] := St.extend hS22 he80
          have e84 : f78 5 = (Value.int .i64 (k8 : Int)) := (hout81 5 rfl).trans rfl
          exact OpX.val (Value.int .i64 (k8 : Int)) wd79 rfl (op_move e84) (Ext.refl _) ⟨rfl, hr21⟩
        · refine ObX.op rfl ?_
          intro f85 wd86 he87 hout88 hphi89
          have hS90 : St w wd86 [] := St.extend hS22 he87
          obtain ⟨S91, hS92, hf93⟩ := hphi89 4 20 _ rfl rfl rfl
          have e94 : f85 20 = v_s2 := hf93
          obtain ⟨S95, hS96, hf97⟩ := hphi89 5 21 _ rfl rfl rfl
          obtain ⟨e98, hr99⟩ : f85 21 = (Value.int .i64 (k8 : Int)) ∧ InR .i64 (k8 : Int) := hf97
          exact OpX.val (Value.pointer (some (elA v_s2 ((k8 : Int)).toNat))) wd86 rfl (op_idx sl_25 (Ty.lift _ hS90.ext r_s2) e94 e98 ha101 hb102) (Ext.refl _) rfl
        · refine ObX.op rfl ?_
          intro f104 wd105 he106 hout107 hphi108
          have hS109 : St w wd105 [] := St.extend hS22 he106
          obtain ⟨S110, hS111, hf112⟩ := hphi108 6 22 _ rfl rfl rfl
          have e113 : f104 22 = (Value.pointer (some (elA v_s2 ((k8 : Int)).toNat))) := hf112
          exact OpX.val (Value.int .i64 x100) wd105 rfl (op_load one_2 e113 (Ext.cell hS109.ext hc115)) (Ext.refl _) ⟨rfl, hr116⟩
        · intro f117 wd118 Ss119 he120 hout121 hSn122 hSd123 hphi124
          show WL _ _ _ _ _ _ _
          have hS125 : St w wd118 [] := St.extend hS22 he120
          obtain ⟨e126, hr127⟩ : f117 19 = (Value.int .i64 x54) ∧ InR .i64 x54 := hphi124 3 19 _ (by decide) rfl rfl
          obtain ⟨e128, hr129⟩ : f117 23 = (Value.int .i64 x100) ∧ InR .i64 x100 := hphi124 7 23 _ (by decide) rfl rfl
          have e130 : f117 0 = v_s1 := (hout121 0 rfl).trans hf17
          have e131 : f117 1 = v_s2 := (hout121 1 rfl).trans hf18
          have e132 : f117 12 = (Value.int .i64 ((s1).length : Int)) := (hout121 12 rfl).trans hf19
          have e133 : f117 13 = (Value.int .i64 (k8 : Int)) := (hout121 13 rfl).trans hf20
          refine WL.val (Value.bool (x54 != x100)) _ (op_neq e126 e128) rfl ?_
          refine WL.nil ?_
          show W _ _ _ _ _ _
          refine W.cond (x54 != x100) rfl (fun hc134 => ?_) (fun hc134 => ?_)
          · replace hb13 := ip hb13 hc134
            refine W.seq (W.region ?_)
            refine WL.val (Value.bool false) _ (op_assign rfl) rfl ?_
            refine WL.nil ?_
            show W _ _ _ _ _ _
            refine W.ret ?_
            obtain rfl := Option.some.inj hb13
            obtain rfl := hret16 _ rfl
            replace h := onRes_ret h
            obtain rfl := Option.some.inj h
            show FinP _ _ _ _ _ _ _
            exact FinP.ret _ (res1 rfl rfl) ⟨rfl, hS125.ext⟩
          · replace hb13 := inegb hb13 hc134
            refine W.skip ?_
            show W _ _ _ _ _ _
            refine W.region ?_
            refine WL.val (Value.int .i64 (w64 ((k8 : Int) + (1 : Int)))) _ (op_add e133 rfl) rfl ?_
            refine WL.val (Value.int .i64 (w64 ((k8 : Int) + (1 : Int)))) _ (op_move rfl) rfl ?_
            refine WL.nil ?_
            obtain rfl := Option.some.inj hb13
            show ∃ s, _ = Ctl.next s ∧ _
            exact ⟨_, rfl, e130, e131, e132, (ctr_next hl23 hr5), (ctr_rng hl23 hr5), hS125⟩
      · intro s141 f137 wd138 hs139 hI140
        obtain ⟨⟩ := s141
        replace hI140 : f137 0 = v_s1 ∧ f137 1 = v_s2 ∧ f137 12 = (Value.int .i64 ((s1).length : Int)) ∧ f137 13 = Value.int .i64 (((s1).length : Nat) : Int) ∧ InR .i64 (((s1).length : Nat) : Int) ∧ St w wd138 [] := hI140
        obtain ⟨hf142, hf143, hf144, hf145, hr146, hS147⟩ := hI140
        refine W.seq (W.region ?_)
        refine WL.val (Value.bool (decide ((((s1).length : Nat) : Int) < ((s1).length : Int)))) _ (op_lss hf145 hf144) rfl ?_
        have hl148 : ¬ (((s1).length : Nat) : Int) < ((s1).length : Int) := by omega
        refine WL.nil ?_
        show W _ _ _ _ _ _
        refine W.seq ?_
        refine W.condF (decide ((((s1).length : Nat) : Int) < ((s1).length : Int))) rfl (decide_eq_false hl148) ?_
        refine W.exit ?_
        show _ = _ ∧ _
        exact ⟨rfl, _, hs139, hS147⟩
    · rintro f149 wd150 ⟨s152, rfl, hq151⟩
      replace h := onRes_fin h
      obtain ⟨⟩ := s152
      replace hq151 : St w wd150 [] := hq151
      have hS153 := hq151
      show W _ _ _ _ _ _
      refine W.seq (W.region ?_)
      refine WL.val (Value.bool true) _ (op_assign rfl) rfl ?_
      refine WL.nil ?_
      show W _ _ _ _ _ _
      refine W.ret ?_
      obtain rfl := Option.some.inj h
      show FinP _ _ _ _ _ _ _
      exact FinP.ret _ (res1 rfl rfl) ⟨rfl, hS153.ext⟩

theorem c_impl_equalTables_c1 {w : World} {x : (List (List Int))} {v_x : Value} {y : (List (List Int))} {v_y : Value} (r_x : (Ty.sl (Ty.sl (Ty.i .i64))).rep w v_x x) (r_y : (Ty.sl (Ty.sl (Ty.i .i64))).rep w v_y y) {res : Bool} (h : p_impl_equalTables_c1 x y  = some res) :
    Ret Try.prog 113 #[v_x, v_y] w (fun v w' => v = Value.bool res ∧ Ext w w') := by
  unfold p_impl_equalTables_c1 at h
  have hS0 : St w w [] := St.start w
  refine Ret.start (fn := Try.f113) Try.func113 rfl 8 rfl rfl ?_
  refine W.seq (W.region ?_)
  refine WL.val (Value.bool false) _ (op_assign rfl) rfl ?_
  refine WL.nil ?_
  show W _ _ _ _ _ _
  refine W.seq (W.region ?_)
  refine WL.val v_x _ (op_move rfl) rfl ?_
  refine WL.val v_y _ (op_move rfl) rfl ?_
  obtain ⟨x5, hx6, h⟩ := bs h
  refine WL.call _ (op_call fn_109 (args3 rfl rfl rfl)) (c_slices_EqualFunc_LLint64_LLint64_Lint64_Lint64 (Ty.lift _ hS0.ext r_x) (Ty.lift _ hS0.ext r_y) (⟨56, #[], #[], rfl, fn_56, fun wd1 u0_2 a0_2 u1_2 a1_2 r3 he2 ra0_2 ra1_2 hq4 => c_slices_Equal_Lint64_int64 ra0_2 ra1_2 hq4⟩) hx6) rfl ?_
  rintro _ wd7 ⟨rfl, he8⟩
  have hS10 := St.extend hS0 he8
  replace hS10 : St w wd7 [] := hS10
  refine WL.val (Value.bool x5) _ (op_assign rfl) rfl ?_
  refine WL.nil ?_
  show W _ _ _ _ _ _
  refine W.ret ?_
  obtain rfl := Option.some.inj h
  show FinP _ _ _ _ _ _ _
  exact FinP.ret _ (res1 rfl rfl) ⟨rfl, hS10.ext⟩

theorem c_impl_equalTables {w : World} {a : (List (List (List Int)))} {v_a : Value} {b : (List (List (List Int)))} {v_b : Value} (r_a : (Ty.sl (Ty.sl (Ty.sl (Ty.i .i64)))).rep w v_a a) (r_b : (Ty.sl (Ty.sl (Ty.sl (Ty.i .i64)))).rep w v_b b) {res : Bool} (h : p_impl_equalTables a b  = some res) :
    Ret Try.prog 97 #[v_a, v_b] w (fun v w' => v = Value.bool res ∧ Ext w w') := by
  unfold p_impl_equalTables at h
  have hS0 : St w w [] := St.start w
  refine Ret.start (fn := Try.f97) Try.func97 rfl 8 rfl rfl ?_
  refine W.seq (W.region ?_)
  refine WL.val (Value.bool false) _ (op_assign rfl) rfl ?_
  refine WL.nil ?_
  show W _ _ _ _ _ _
  refine W.seq (W.region ?_)
  refine WL.val v_a _ (op_move rfl) rfl ?_
  refine WL.val v_b _ (op_move rfl) rfl ?_
  obtain ⟨x5, hx6, h⟩ := bs h
  refine WL.call _ (op_call fn_112 (args3 rfl rfl rfl)) (c_slices_EqualFunc_LLLint64_LLLint64_LLint64_LLint64 (Ty.lift _ hS0.ext r_a) (Ty.lift _ hS0.ext r_b) (⟨113, #[], #[], rfl, fn_113, fun wd1 u0_2 a0_2 u1_2 a1_2 r3 he2 ra0_2 ra1_2 hq4 => c_impl_equalTables_c1 ra0_2 ra1_2 hq4⟩) hx6) rfl ?_
  rintro _ wd7 ⟨rfl, he8⟩
  have hS10 := St.extend hS0 he8
  replace hS10 : St w wd7 [] := hS10
  refine WL.val (Value.bool x5) _ (op_assign rfl) rfl ?_
  refine WL.nil ?_
  show W _ _ _ _ _ _
  refine W.ret ?_
  obtain rfl := Option.some.inj h
  show FinP _ _ _ _ _ _ _
  exact FinP.ret _ (res1 rfl rfl) ⟨rfl, hS10.ext⟩

theorem c_impl_Ring_isCommutative {w : World} {r_Table : (List (List (List Int)))} {v_r_Table : Value} (r_r_Table : (Ty.sl (Ty.sl (Ty.sl (Ty.i .i64)))).rep w v_r_Table r_Table) {res : Bool} (h : p_impl_Ring_isCommutative r_Table  = some res) :
    Ret Try.prog 71 #[(Value.agg #[v_r_Table])] w (fun v w' => v = Value.bool res ∧ Ext w w') := by
  unfold p_impl_Ring_isCommutative at h
  have hS0 : St w w [] := St.start w
  refine Ret.start (fn := Try.f71) Try.func71 rfl 9 rfl rfl ?_
  refine W.seq (W.region ?_)
  refine WL.box hS0 rfl (cs := [v_r_Table]) rfl rfl ?_
  intro b1 wd2 hS3 he4 hx5
  replace hS3 : St w wd2 [bx b1 [v_r_Table]] := hS3
  have hx6 := St.boxAt hS3 0 rfl
  have hE7 : Ext w wd2 := hS3.ext
  have hS8 : St wd2 wd2 [] := St.start wd2
  refine WL.val (Value.bool false) _ (op_assign rfl) rfl ?_
  refine WL.nil ?_
  show W _ _ _ _ _ _
  refine W.seq ?_
  obtain ⟨x45, hx46, h⟩ := bs h
  refine W.drawR mixo 5 [] [fun _ v _ _ => v = (Value.pointer (some ⟨b1, 0, none⟩)), fun _ v _ _ => v = v_r_Table, fun _ v S w' => ∃ (uu0 : Value), v = (Value.agg #[uu0]) ∧ (Ty.sl (Ty.sl (Ty.sl (Ty.i .i64)))).rep w' uu0 r_Table, fun _ v S w' => ∃ (uu0 : Value), v = (Value.agg #[uu0]) ∧ SepS S w' [(Ty.sl (Ty.sl (Ty.sl (Ty.i .i64)))).at uu0 x45], fun _ v _ w' => (Ty.sl (Ty.sl (Ty.sl (Ty.i .i64)))).rep w' v x45] (by kernel_rfl) (by kernel_rfl) ⟨⟨fun _ _ _ _ _ _ h => h, fun _ _ _ _ _ _ h => h⟩, ⟨fun _ _ _ _ _ _ h => h, fun _ _ _ _ _ _ h => h⟩, ⟨fun _ _ _ _ _ he ⟨uu0, h0, r0⟩ => ⟨uu0, h0, Ty.lift _ he r0⟩, fun _ _ _ _ _ _ h => h⟩, ⟨fun _ _ _ _ _ he ⟨uu0, h0, r0⟩ => ⟨uu0, h0, SepS.extend he r0⟩, fun _ _ _ _ _ _ h => h⟩, ⟨fun _ _ _ _ _ he h => Ty.lift _ he h, fun _ _ _ _ _ _ h => h⟩, trivial⟩ ⟨?_, ?_, ?_, ?_, ?_, trivial⟩ ?_
  · refine ObX.op rfl ?_
    intro f9 wd10 he11 hout12 hphi13
    have hS14 : St wd2 wd10 [] := St.extend hS8 he11
    have e15 : f9 1 = (Value.pointer (some ⟨b1, 0, none⟩)) := (hout12 1 rfl).trans rfl
    exact OpX.val (Value.pointer (some ⟨b1, 0, none⟩)) wd10 rfl (op_fieldAddr fd_29_0 e15) (Ext.refl _) rfl
  · refine ObX.op rfl ?_
    intro f16 wd17 he18 hout19 hphi20
    have hS21 : St wd2 wd17 [] := St.extend hS8 he18
    obtain ⟨S22, hS23, hf24⟩ := hphi20 0 3 _ rfl rfl rfl
    have e25 : f16 3 = (Value.pointer (some ⟨b1, 0, none⟩)) := hf24
    exact OpX.val v_r_Table wd17 rfl (op_load one_22 e25 (BoxAt.cell (BoxAt.lift hS21.ext hx6) rfl)) (Ext.refl _) rfl
  · refine ObX.op rfl ?_
    intro f26 wd27 he28 hout29 hphi30
    have hS31 : St wd2 wd27 [] := St.extend hS8 he28
    have e32 : f26 1 = (Value.pointer (some ⟨b1, 0, none⟩)) := (hout29 1 rfl).trans rfl
    exact OpX.val (Value.agg #[v_r_Table]) wd27 rfl (op_loadBox st_29 e32 (BoxAt.lift hS31.ext hx6) rfl rfl) (Ext.refl _) ⟨v_r_Table, rfl, (Ty.lift _ (Ext.trans hE7 hS31.ext) r_r_Table)⟩
  · refine ObX.op rfl ?_
    intro f33 wd34 he35 hout36 hphi37
    have hS38 : St wd2 wd34 [] := St.extend hS8 he35
    obtain ⟨S39, hS40, hf41⟩ := hphi37 2 5 _ rfl rfl rfl
    obtain ⟨u43, e42, hr44⟩ := hf41
    refine OpX.call rfl (op_call fn_98 (args1 e42)) (Ret.mono (c_impl_Ring_opposite hr44 hx46) ?_)
    rintro _ wd48 ⟨u47, rfl, he49, hs50⟩
    exact ⟨he49, _, newS _ _, ⟨u47, rfl, (Sep.new hs50)⟩⟩
  · refine ObX.op rfl ?_
    intro f51 wd52 he53 hout54 hphi55
    have hS56 : St wd2 wd52 [] := St.extend hS8 he53
    obtain ⟨S57, hS58, hf59⟩ := hphi55 3 6 _ rfl rfl rfl
    obtain ⟨u61, e60, e60s⟩ := hf59
    exact OpX.val u61 wd52 rfl (op_field fl_29_0 e60 rfl) (Ext.refl _) (SepS.rep (t := (Ty.sl (Ty.sl (Ty.sl (Ty.i .i64))))) e60s 0 rfl)
  · intro f62 wd63 Ss64 he65 hout66 hSn67 hSd68 hphi69
    show WL _ _ _ _ _ _ _
    have hS70 : St wd2 wd63 [] := St.extend hS8 he65
    have e71 : f62 4 = v_r_Table := hphi69 1 4 _ (by decide) rfl rfl
    have e72 : (Ty.sl (Ty.sl (Ty.sl (Ty.i .i64)))).rep wd63 (f62 7) x45 := hphi69 4 7 _ (by decide) rfl rfl
    obtain ⟨x73, hx74, h⟩ := bs h
    refine WL.call _ (op_call fn_97 (args2 e71 rfl)) (c_impl_equalTables (Ty.lift _ (Ext.trans hE7 hS70.ext) r_r_Table) e72 hx74) rfl ?_
    rintro _ wd75 ⟨rfl, he76⟩
    have hS78 := St.extend hS70 he76
    replace hS78 : St wd2 wd75 [] := hS78
    refine WL.val (Value.bool x73) _ (op_assign rfl) rfl ?_
    refine WL.nil ?_
    show W _ _ _ _ _ _
    refine W.ret ?_
    obtain rfl := Option.some.inj h
    show FinP _ _ _ _ _ _ _
    exact FinP.ret _ (res1 rfl rfl) ⟨rfl, (Ext.trans hE7 hS78.ext)⟩

theorem c_impl_commuteCode {w : World} {r_Table : (List (List (List Int)))} {v_r_Table : Value} (r_r_Table : (Ty.sl (Ty.sl (Ty.sl (Ty.i .i64)))).rep w v_r_Table r_Table) {res : Int} (h : p_impl_commuteCode r_Table  = some res) :
    Ret Try.prog 38 #[(Value.agg #[v_r_Table])] w (fun v w' => v = Value.int .i64 res ∧ InR .i64 res ∧ Ext w w') := by
  unfold p_impl_commuteCode at h
  have hS0 : St w w [] := St.start w
  refine Ret.start (fn := Try.f38) Try.func38 rfl 9 rfl rfl ?_
  refine W.seq (W.region ?_)
  refine WL.box hS0 rfl (cs := [v_r_Table]) rfl rfl ?_
  intro b1 wd2 hS3 he4 hx5
  replace hS3 : St w wd2 [bx b1 [v_r_Table]] := hS3
  have hx6 := St.boxAt hS3 0 rfl
  have hE7 : Ext w wd2 := hS3.ext
  have hS8 : St wd2 wd2 [] := St.start wd2
  refine WL.val (Value.int .i64 (0 : Int)) _ (op_assign rfl) rfl ?_
  refine WL.nil ?_
  show W _ _ _ _ _ _
  refine W.seq (W.seq (W.region ?_))
  refine WL.val (Value.agg #[v_r_Table]) _ (op_loadBox st_29 rfl (BoxAt.lift hS8.ext hx6) rfl rfl) rfl ?_
  obtain ⟨x9, hx10, h⟩ := bs h
  refine WL.call _ (op_call fn_57 (args1 rfl)) (c_impl_IsRing (Ty.lift _ (Ext.trans hE7 hS8.ext) r_r_Table) hx10) rfl ?_
  rintro _ wd11 ⟨rfl, he12⟩
  have hS14 := St.extend hS8 he12
  replace hS14 : St wd2 wd11 [] := hS14
  refine WL.val (Value.bool (!x9)) _ (op_not rfl) rfl ?_
  refine WL.nil ?_
  show W _ _ _ _ _ _
  refine W.cond (!x9) rfl (fun hc15 => ?_) (fun hc15 => ?_)
  · replace h := ip h hc15
    refine W.seq (W.region ?_)
    refine WL.val (Value.int .i64 (1 : Int)) _ (op_assign rfl) rfl ?_
    refine WL.nil ?_
    show W _ _ _ _ _ _
    refine W.ret ?_
    obtain rfl := Option.some.inj h
    show FinP _ _ _ _ _ _ _
    exact FinP.ret _ (res1 rfl rfl) ⟨rfl, (inR_i64.2 (show (-9223372036854775808 : Int) ≤ 1 ∧ (1 : Int) ≤ 9223372036854775807 from by decide)), (Ext.trans hE7 hS14.ext)⟩
  · replace h := inegb h hc15
    refine W.skip ?_
    show W _ _ _ _ _ _
    refine W.seq (W.seq (W.region ?_))
    refine WL.val (Value.agg #[v_r_Table]) _ (op_loadBox st_29 rfl (BoxAt.lift hS14.ext hx6) rfl rfl) rfl ?_
    obtain ⟨x17, hx18, h⟩ := bs h
    refine WL.call _ (op_call fn_71 (args1 rfl)) (c_impl_Ring_isCommutative (Ty.lift _ (Ext.trans hE7 hS14.ext) r_r_Table) hx18) rfl ?_
    rintro _ wd19 ⟨rfl, he20⟩
    have hS22 := St.extend hS14 he20
    replace hS22 : St wd2 wd19 [] := hS22
    refine WL.val (Value.bool (!x17)) _ (op_not rfl) rfl ?_
    refine WL.nil ?_
    show W _ _ _ _ _ _
    refine W.cond (!x17) rfl (fun hc23 => ?_) (fun hc23 => ?_)
    · replace h := ip h hc23
      refine W.seq (W.region ?_)
      refine WL.val (Value.int .i64 (5 : Int)) _ (op_assign rfl) rfl ?_
      refine WL.nil ?_
      show W _ _ _ _ _ _
      refine W.ret ?_
      obtain rfl := Option.some.inj h
      show FinP _ _ _ _ _ _ _
      exact FinP.ret _ (res1 rfl rfl) ⟨rfl, (inR_i64.2 (show (-9223372036854775808 : Int) ≤ 5 ∧ (5 : Int) ≤ 9223372036854775807 from by decide)), (Ext.trans hE7 hS22.ext)⟩
    · replace h := inegb h hc23
      refine W.skip ?_
      show W _ _ _ _ _ _
      refine W.seq (W.region ?_)
      refine WL.val (Value.int .i64 (0 : Int)) _ (op_assign rfl) rfl ?_
      refine WL.nil ?_
      show W _ _ _ _ _ _
      refine W.ret ?_
      obtain rfl := Option.some.inj h
      show FinP _ _ _ _ _ _ _
      exact FinP.ret _ (res1 rfl rfl) ⟨rfl, (inR_i64.2 (show (-9223372036854775808 : Int) ≤ 0 ∧ (0 : Int) ≤ 9223372036854775807 from by decide)), (Ext.trans hE7 hS22.ext)⟩

theorem c_laws_eqInt64S {w : World} {a : (List Int)} {v_a : Value} {b : (List Int)} {v_b : Value} (r_a : (Ty.sl (Ty.i .i64)).rep w v_a a) (r_b : (Ty.sl (Ty.i .i64)).rep w v_b b) {res : Bool} (h : p_laws_eqInt64S a b  = some res) :
    Ret Try.prog 15 #[v_a, v_b] w (fun v w' => v = Value.bool res ∧ Ext w w') := by
  unfold p_laws_eqInt64S at h
  have hS0 : St w w [] := St.start w
  refine Ret.start (fn := Try.f15) Try.func15 rfl 26 rfl rfl ?_
  refine W.seq (W.region ?_)
  refine WL.val (Value.bool false) _ (op_assign rfl) rfl ?_
  refine WL.nil ?_
  show W _ _ _ _ _ _
  refine W.seq (W.seq (W.region ?_))
  refine WL.val v_a _ (op_move rfl) rfl ?_
  have hr1 := inR_len (Ty.lift _ hS0.ext r_a)
  refine WL.val (Value.int .i64 ((a).length : Int)) _ (op_lenL sl_25 (Ty.lift _ hS0.ext r_a) rfl) rfl ?_
  refine WL.val v_b _ (op_move rfl) rfl ?_
  have hr2 := inR_len (Ty.lift _ hS0.ext r_b)
  refine WL.val (Value.int .i64 ((b).length : Int)) _ (op_lenL sl_25 (Ty.lift _ hS0.ext r_b) rfl) rfl ?_
  refine WL.val (Value.bool (((a).length : Int) != ((b).length : Int))) _ (op_neq rfl rfl) rfl ?_
  refine WL.nil ?_
  show W _ _ _ _ _ _
  refine W.cond (((a).length : Int) != ((b).length : Int)) rfl (fun hc3 => ?_) (fun hc3 => ?_)
  · replace h := ip h hc3
    refine W.seq (W.region ?_)
    refine WL.val (Value.bool false) _ (op_assign rfl) rfl ?_
    refine WL.nil ?_
    show W _ _ _ _ _ _
    refine W.ret ?_
    obtain rfl := Option.some.inj h
    show FinP _ _ _ _ _ _ _
    exact FinP.ret _ (res1 rfl rfl) ⟨rfl, hS0.ext⟩
  · replace h := inegb h hc3
    refine W.skip ?_
    show W _ _ _ _ _ _
    refine W.seq (W.seq (W.region ?_))
    refine WL.val (Value.int .i64 (0 : Int)) _ (op_assign rfl) rfl ?_
    refine WL.nil ?_
    show W _ _ _ _ _ _
    obtain ⟨res5, hres6, h⟩ := bs h
    refine W.blockLoop (fun fq wq => ∃ s, res5 = Res.fin s ∧ St w wq []) ?_ ?_
    · refine W.forN (fun k (s : Unit) fq wq => fq 0 = v_a ∧ fq 1 = v_b ∧ fq 5 = Value.int .i64 (k : Int) ∧ InR .i64 (k : Int) ∧ St w wq []) hres6 ⟨rfl, rfl, rfl, (inR_i64.2 (show (-9223372036854775808 : Int) ≤ 0 ∧ (0 : Int) ≤ 9223372036854775807 from by decide)), hS0⟩ ?_ ?_
      · intro k7 s134 ct8 f9 wd10 hk11 hb12 hI13 hbrk14 hret15
        obtain ⟨⟩ := s134
        replace hI13 : f9 0 = v_a ∧ f9 1 = v_b ∧ f9 5 = Value.int .i64 (k7 : Int) ∧ InR .i64 (k7 : Int) ∧ St w wd10 [] := hI13
        replace hb12 : p_laws_eqInt64S_L1 a b k7  = some ct8 := hb12
        unfold p_laws_eqInt64S_L1 at hb12
        obtain ⟨hf16, hf17, hf18, hr19, hS20⟩ := hI13
        refine W.seq (W.seq (W.region ?_))
        refine WL.val (Value.int .i64 (k7 : Int)) _ (op_move hf18) rfl ?_
        refine WL.val v_a _ (op_move hf16) rfl ?_
        have hr21 := inR_len (Ty.lift _ hS20.ext r_a)
        refine WL.val (Value.int .i64 ((a).length : Int)) _ (op_lenL sl_25 (Ty.lift _ hS20.ext r_a) rfl) rfl ?_
        refine WL.val (Value.bool (decide ((k7 : Int) < ((a).length : Int)))) _ (op_lss rfl rfl) rfl ?_
        have hl22 : (k7 : Int) < ((a).length : Int) := by omega
        refine WL.nil ?_
        show W _ _ _ _ _ _
        refine W.condT (decide ((k7 : Int) < ((a).length : Int))) rfl (decide_eq_true hl22) ?_
        refine W.skip ?_
        show W _ _ _ _ _ _
        refine W.seq ?_
        refine W.block ?_
        refine W.seq ?_
        obtain ⟨x53, hx56, hb12⟩ := bs hb12
        obtain ⟨ha54, hb55, hx56⟩ := idx_some hx56
        obtain ⟨u67, hc68, hr69⟩ := repSl.el r_a hx56
        obtain ⟨rfl, hr69⟩ := hr69
        obtain ⟨x99, hx102, hb12⟩ := bs hb12
        obtain ⟨ha100, hb101, hx102⟩ := idx_some hx102
        obtain ⟨u113, hc114, hr115⟩ := repSl.el r_b hx102
        obtain ⟨rfl, hr115⟩ := hr115
        refine W.drawR mixo 8 [] [fun _ v _ _ => v = v_a, fun _ v _ _ => v = (Value.int .i64 (k7 : Int)) ∧ InR .i64 (k7 : Int), fun _ v _ _ => v = (Value.pointer (some (elA v_a ((k7 : Int)).toNat))), fun _ v _ _ => v = (Value.int .i64 x53) ∧ InR .i64 x53, fun _ v _ _ => v = v_b, fun _ v _ _ => v = (Value.int .i64 (k7 : Int)) ∧ InR .i64 (k7 : Int), fun _ v _ _ => v = (Value.pointer (some (elA v_b ((k7 : Int)).toNat))), fun _ v _ _ => v = (Value.int .i64 x99) ∧ InR .i64 x99] (by kernel_rfl) (by kernel_rfl) ⟨⟨fun _ _ _ _ _ _ h => h, fun _ _ _ _ _ _ h => h⟩, ⟨fun _ _ _ _ _ _ h => h, fun _ _ _ _ _ _ h => h⟩, ⟨fun _ _ _ _ _ _ h => h, fun _ _ _ _ _ _ h => h⟩, ⟨fun _ _ _ _ _ _ h => h, fun _ _ _ _ _ _ h => h⟩, ⟨fun _ _ _ _ _ _ h => h, fun _ _ _ _ _ _ h => h⟩, ⟨fun _ _ _ _ _ _ h => h, fun _ _ _ _ _ _ h => h⟩, ⟨fun _ _ _ _ _ _ h => h, fun _ _ _ _ _ _ h => h⟩, ⟨fun _ _ _ _ _ _ h => h, fun _ _ _ _ _ _ h => h⟩, trivial⟩ ⟨?_, ?_, ?_, ?_, ?_, ?_, ?_, ?_, trivial⟩ ?_
        · refine ObX.op rfl ?_
          intro f24 wd25 he26 hout27 hphi28
          have hS29 : St w wd25 [] := St.extend hS20 he26
          have e30 : f24 0 = v_a := (hout27 0 rfl).trans hf16
          exact OpX.val v_a wd25 rfl (op_move e30) (Ext.refl _) rfl
        · refine ObX.op rfl ?_
          intro f31 wd32 he33 hout34 hphi35
          have hS36 : St w wd32 [] := St.extend hS20 he33
          have e37 : f31 5 = (Value.int .i64 (k7 : Int)) := (hout34 5 rfl).trans hf18
          exact OpX.val (Value.int .i64 (k7 : Int)) wd32 rfl (op_move e37) (Ext.refl _) ⟨rfl, hr19⟩
        · refine ObX.op rfl ?_
          intro f38 wd39 he40 hout41 hphi42
          have hS43 : St w wd39 [] := St.extend hS20 he40
          obtain ⟨S44, hS45, hf46⟩ := hphi42 0 17 _ rfl rfl rfl
          have e47 : f38 17 = v_a := hf46
          obtain ⟨S48, hS49, hf50⟩ := hphi42 1 18 _ rfl rfl rfl
          obtain ⟨e51, hr52⟩ : f38 18 = (Value.int .i64 (k7 : Int)) ∧ InR .i64 (k7 : Int) := hf50
          exact OpX.val (Value.pointer (some (elA v_a ((k7 : Int)).toNat))) wd39 rfl (op_idx sl_25 (Ty.lift _ hS43.ext r_a) e47 e51 ha54 hb55) (Ext.refl _) rfl
        · refine ObX.op rfl ?_
          intro f57 wd58 he59 hout60 hphi61
          have hS62 : St w wd58 [] := St.extend hS20 he59
          obtain ⟨S63, hS64, hf65⟩ := hphi61 2 19 _ rfl rfl rfl
          have e66 : f57 19 = (Value.pointer (some (elA v_a ((k7 : Int)).toNat))) := hf65
          exact OpX.val (Value.int .i64 x53) wd58 rfl (op_load one_2 e66 (Ext.cell hS62.ext hc68)) (Ext.refl _) ⟨rfl, hr69⟩
        · refine ObX.op rfl ?_
          intro f70 wd71 he72 hout73 hphi74
          have hS75 : St w wd71 [] := St.extend hS20 he72
          have e76 : f70 1 = v_b := (hout73 1 rfl).trans hf17
          exact OpX.val v_b wd71 rfl (op_move e76) (Ext.refl _) rfl
        · refine ObX.op rfl ?_
          intro f77 wd78 he79 hout80 hphi81
          have hS82 : St w wd78 [] := St.extend hS20 he79
          have e83 : f77 5 = (Value.int .i64 (k7 : Int)) := (hout80 5 rfl).trans hf18
          exact OpX.val (Value.int .i64 (k7 : Int)) wd78 rfl (op_move e83) (Ext.refl _) ⟨rfl, hr19⟩
        · refine ObX.op rfl ?_
          intro f84 wd85 he86 hout87 hphi88
          have hS89 : St w wd85 [] := St.extend hS20 he86
          obtain ⟨S90, hS91, hf92⟩ := hphi88 4 21 _ rfl rfl rfl
          have e93 : f84 21 = v_b := hf92
          obtain ⟨S94, hS95, hf96⟩ := hphi88 5 22 _ rfl rfl rfl
          obtain ⟨e97, hr98⟩ : f84 22 = (Value.int .i64 (k7 : Int)) ∧ InR .i64 (k7 : Int) := hf96
          exact OpX.val (Value.pointer (some (elA v_b ((k7 : Int)).toNat))) wd85 rfl (op_idx sl_25 (Ty.lift _ hS89.ext r_b) e93 e97 ha100 hb101) (Ext.refl _) rfl
        · refine ObX.op rfl ?_
          intro f103 wd104 he105 hout106 hphi107
          have hS108 : St w wd104 [] := St.extend hS20 he105
          obtain ⟨S109, hS110, hf111⟩ := hphi107 6 23 _ rfl rfl rfl
          have e112 : f103 23 = (Value.pointer (some (elA v_b ((k7 : Int)).toNat))) := hf111
          exact OpX.val (Value.int .i64 x99) wd104 rfl (op_load one_2 e112 (Ext.cell hS108.ext hc114)) (Ext.refl _) ⟨rfl, hr115⟩
        · intro f116 wd117 Ss118 he119 hout120 hSn121 hSd122 hphi123
          show WL _ _ _ _ _ _ _
          have hS124 : St w wd117 [] := St.extend hS20 he119
          obtain ⟨e125, hr126⟩ : f116 20 = (Value.int .i64 x53) ∧ InR .i64 x53 := hphi123 3 20 _ (by decide) rfl rfl
          obtain ⟨e127, hr128⟩ : f116 24 = (Value.int .i64 x99) ∧ InR .i64 x99 := hphi123 7 24 _ (by decide) rfl rfl
          have e129 : f116 0 = v_a := (hout120 0 rfl).trans hf16
          have e130 : f116 1 = v_b := (hout120 1 rfl).trans hf17
          have e131 : f116 5 = (Value.int .i64 (k7 : Int)) := (hout120 5 rfl).trans hf18
          refine WL.val (Value.bool (x53 != x99)) _ (op_neq e125 e127) rfl ?_
          refine WL.nil ?_
          show W _ _ _ _ _ _
          refine W.cond (x53 != x99) rfl (fun hc132 => ?_) (fun hc132 => ?_)
          · replace hb12 := ip hb12 hc132
            refine W.seq (W.region ?_)
            refine WL.val (Value.bool false) _ (op_assign rfl) rfl ?_
            refine WL.nil ?_
            show W _ _ _ _ _ _
            refine W.ret ?_
            obtain rfl := Option.some.inj hb12
            obtain rfl := hret15 _ rfl
            replace h := onRes_ret h
            obtain rfl := Option.some.inj h
            show FinP _ _ _ _ _ _ _
            exact FinP.ret _ (res1 rfl rfl) ⟨rfl, hS124.ext⟩
          · replace hb12 := inegb hb12 hc132
            refine W.skip ?_
            show W _ _ _ _ _ _
            refine W.region ?_
            refine WL.val (Value.int .i64 (k7 : Int)) _ (op_move e131) rfl ?_
            refine WL.val (Value.int .i64 (w64 ((k7 : Int) + (1 : Int)))) _ (op_add rfl rfl) rfl ?_
            refine WL.val (Value.int .i64 (w64 ((k7 : Int) + (1 : Int)))) _ (op_assign rfl) rfl ?_
            refine WL.nil ?_
            obtain rfl := Option.some.inj hb12
            show ∃ s, _ = Ctl.next s ∧ _
            exact ⟨_, rfl, e129, e130, (ctr_next hl22 hr21), (ctr_rng hl22 hr21), hS124⟩
      · intro s139 f135 wd136 hs137 hI138
        obtain ⟨⟩ := s139
        replace hI138 : f135 0 = v_a ∧ f135 1 = v_b ∧ f135 5 = Value.int .i64 (((a).length : Nat) : Int) ∧ InR .i64 (((a).length : Nat) : Int) ∧ St w wd136 [] := hI138
        obtain ⟨hf140, hf141, hf142, hr143, hS144⟩ := hI138
        refine W.seq (W.seq (W.region ?_))
        refine WL.val (Value.int .i64 (((a).length : Nat) : Int)) _ (op_move hf142) rfl ?_
        refine WL.val v_a _ (op_move hf140) rfl ?_
        have hr145 := inR_len (Ty.lift _ hS144.ext r_a)
        refine WL.val (Value.int .i64 ((a).length : Int)) _ (op_lenL sl_25 (Ty.lift _ hS144.ext r_a) rfl) rfl ?_
        refine WL.val (Value.bool (decide ((((a).length : Nat) : Int) < ((a).length : Int)))) _ (op_lss rfl rfl) rfl ?_
        have hl146 : ¬ (((a).length : Nat) : Int) < ((a).length : Int) := by omega
        refine WL.nil ?_
        show W _ _ _ _ _ _
        refine W.condF (decide ((((a).length : Nat) : Int) < ((a).length : Int))) rfl (decide_eq_false hl146) ?_
        refine W.exit ?_
        show _ = _ ∧ _
        exact ⟨rfl, _, hs137, hS144⟩
    · rintro f147 wd148 ⟨s150, rfl, hq149⟩
      replace h := onRes_fin h
      obtain ⟨⟩ := s150
      replace hq149 : St w wd148 [] := hq149
      have hS151 := hq149
      show W _ _ _ _ _ _
      refine W.seq (W.region ?_)
      refine WL.val (Value.bool true) _ (op_assign rfl) rfl ?_
      refine WL.nil ?_
      show W _ _ _ _ _ _
      refine W.ret ?_
      obtain rfl := Option.some.inj h
      show FinP _ _ _ _ _ _ _
      exact FinP.ret _ (res1 rfl rfl) ⟨rfl, hS151.ext⟩

theorem c_laws_eqInt64SS {w : World} {a : (List (List Int))} {v_a : Value} {b : (List (List Int))} {v_b : Value} (r_a : (Ty.sl (Ty.sl (Ty.i .i64))).rep w v_a a) (r_b : (Ty.sl (Ty.sl (Ty.i .i64))).rep w v_b b) {res : Bool} (h : p_laws_eqInt64SS a b  = some res) :
    Ret Try.prog 74 #[v_a, v_b] w (fun v w' => v = Value.bool res ∧ Ext w w') := by
  unfold p_laws_eqInt64SS at h
  have hS0 : St w w [] := St.start w
  refine Ret.start (fn := Try.f74) Try.func74 rfl 27 rfl rfl ?_
  refine W.seq (W.region ?_)
  refine WL.val (Value.bool false) _ (op_assign rfl) rfl ?_
  refine WL.nil ?_
  show W _ _ _ _ _ _
  refine W.seq (W.seq (W.region ?_))
  refine WL.val v_a _ (op_move rfl) rfl ?_
  have hr1 := inR_len (Ty.lift _ hS0.ext r_a)
  refine WL.val (Value.int .i64 ((a).length : Int)) _ (op_lenL sl_65 (Ty.lift _ hS0.ext r_a) rfl) rfl ?_
  refine WL.val v_b _ (op_move rfl) rfl ?_
  have hr2 := inR_len (Ty.lift _ hS0.ext r_b)
  refine WL.val (Value.int .i64 ((b).length : Int)) _ (op_lenL sl_65 (Ty.lift _ hS0.ext r_b) rfl) rfl ?_
  refine WL.val (Value.bool (((a).length : Int) != ((b).length : Int))) _ (op_neq rfl rfl) rfl ?_
  refine WL.nil ?_
  show W _ _ _ _ _ _
  refine W.cond (((a).length : Int) != ((b).length : Int)) rfl (fun hc3 => ?_) (fun hc3 => ?_)
  · replace h := ip h hc3
    refine W.seq (W.region ?_)
    refine WL.val (Value.bool false) _ (op_assign rfl) rfl ?_
    refine WL.nil ?_
    show W _ _ _ _ _ _
    refine W.ret ?_
    obtain rfl := Option.some.inj h
    show FinP _ _ _ _ _ _ _
    exact FinP.ret _ (res1 rfl rfl) ⟨rfl, hS0.ext⟩
  · replace h := inegb h hc3
    refine W.skip ?_
    show W _ _ _ _ _ _
    refine W.seq (W.seq (W.region ?_))
    refine WL.val (Value.int .i64 (0 : Int)) _ (op_assign rfl) rfl ?_
    refine WL.nil ?_
    show W _ _ _ _ _ _
    obtain ⟨res5, hres6, h⟩ := bs h
    refine W.blockLoop (fun fq wq => ∃ s, res5 = Res.fin s ∧ St w wq []) ?_ ?_
    · refine W.forN (fun k (s : Unit) fq wq => fq 0 = v_a ∧ fq 1 = v_b ∧ fq 5 = Value.int .i64 (k : Int) ∧ InR .i64 (k : Int) ∧ St w wq []) hres6 ⟨rfl, rfl, rfl, (inR_i64.2 (show (-9223372036854775808 : Int) ≤ 0 ∧ (0 : Int) ≤ 9223372036854775807 from by decide)), hS0⟩ ?_ ?_
      · intro k7 s138 ct8 f9 wd10 hk11 hb12 hI13 hbrk14 hret15
        obtain ⟨⟩ := s138
        replace hI13 : f9 0 = v_a ∧ f9 1 = v_b ∧ f9 5 = Value.int .i64 (k7 : Int) ∧ InR .i64 (k7 : Int) ∧ St w wd10 [] := hI13
        replace hb12 : p_laws_eqInt64SS_L1 a b k7  = some ct8 := hb12
        unfold p_laws_eqInt64SS_L1 at hb12
        obtain ⟨hf16, hf17, hf18, hr19, hS20⟩ := hI13
        refine W.seq (W.seq (W.region ?_))
        refine WL.val (Value.int .i64 (k7 : Int)) _ (op_move hf18) rfl ?_
        refine WL.val v_a _ (op_move hf16) rfl ?_
        have hr21 := inR_len (Ty.lift _ hS20.ext r_a)
        refine WL.val (Value.int .i64 ((a).length : Int)) _ (op_lenL sl_65 (Ty.lift _ hS20.ext r_a) rfl) rfl ?_
        refine WL.val (Value.bool (decide ((k7 : Int) < ((a).length : Int)))) _ (op_lss rfl rfl) rfl ?_
        have hl22 : (k7 : Int) < ((a).length : Int) := by omega
        refine WL.nil ?_
        show W _ _ _ _ _ _
        refine W.condT (decide ((k7 : Int) < ((a).length : Int))) rfl (decide_eq_true hl22) ?_
        refine W.skip ?_
        show W _ _ _ _ _ _
        refine W.seq ?_
        refine W.block ?_
        refine W.seq ?_
        obtain ⟨x53, hx56, hb12⟩ := bs hb12
        obtain ⟨ha54, hb55, hx56⟩ := idx_some hx56
        obtain ⟨u67, hc68, hr69⟩ := repSl.el r_a hx56
        obtain ⟨x99, hx102, hb12⟩ := bs hb12
        obtain ⟨ha100, hb101, hx102⟩ := idx_some hx102
        obtain ⟨u113, hc114, hr115⟩ := repSl.el r_b hx102
        refine W.drawR mixo 8 [] [fun _ v _ _ => v = v_a, fun _ v _ _ => v = (Value.int .i64 (k7 : Int)) ∧ InR .i64 (k7 : Int), fun _ v _ _ => v = (Value.pointer (some (elA v_a ((k7 : Int)).toNat))), fun _ v _ _ => v = u67, fun _ v _ _ => v = v_b, fun _ v _ _ => v = (Value.int .i64 (k7 : Int)) ∧ InR .i64 (k7 : Int), fun _ v _ _ => v = (Value.pointer (some (elA v_b ((k7 : Int)).toNat))), fun _ v _ _ => v = u113] (by kernel_rfl) (by kernel_rfl) ⟨⟨fun _ _ _ _ _ _ h => h, fun _ _ _ _ _ _ h => h⟩, ⟨fun _ _ _ _ _ _ h => h, fun _ _ _ _ _ _ h => h⟩, ⟨fun _ _ _ _ _ _ h => h, fun _ _ _ _ _ _ h => h⟩, ⟨fun _ _ _ _ _ _ h => h, fun _ _ _ _ _ _ h => h⟩, ⟨fun _ _ _ _ _ _ h => h, fun _ _ _ _ _ _ h => h⟩, ⟨fun _ _ _ _ _ _ h => h, fun _ _ _ _ _ _ h => h⟩, ⟨fun _ _ _ _ _ _ h => h, fun _ _ _ _ _ _ h => h⟩, ⟨fun _ _ _ _ _ _ h => h, fun _ _ _ _ _ _ h => h⟩, trivial⟩ ⟨?_, ?_, ?_, ?_, ?_, ?_, ?_, ?_, trivial⟩ ?_
        · refine ObX.op rfl ?_
          intro f24 wd25 he26 hout27 hphi28
          have hS29 : St w wd25 [] := St.extend hS20 he26
          have e30 : f24 0 = v_a := (hout27 0 rfl).trans hf16
          exact OpX.val v_a wd25 rfl (op_move e30) (Ext.refl _) rfl
        · refine ObX.op rfl ?_
          intro f31 wd32 he33 hout34 hphi35
          have hS36 : St w wd32 [] := St.extend hS20 he33
          have e37 : f31 5 = (Value.int .i64 (k7 : Int)) := (hout34 5 rfl).trans hf18
          exact OpX.val (Value.int .i64 (k7 : Int)) wd32 rfl (op_move e37) (Ext.refl _) ⟨rfl, hr19⟩
        · refine ObX.op rfl ?_
          intro f38 wd39 he40 hout41 hphi42
          have hS43 : St w wd39 [] := St.extend hS20 he40
          obtain ⟨S44, hS45, hf46⟩ := hphi42 0 17 _ rfl rfl rfl
          have e47 : f38 17 = v_a := hf46
          obtain ⟨S48, hS49, hf50⟩ := hphi42 1 18 _ rfl rfl rfl
          obtain ⟨e51, hr52⟩ : f38 18 = (Value.int .i64 (k7 : Int)) ∧ InR .i64 (k7 : Int) := hf50
          exact OpX.val (Value.pointer (some (elA v_a ((k7 : Int)).toNat))) wd39 rfl (op_idx sl_65 (Ty.lift _ hS43.ext r_a) e47 e51 ha54 hb55) (Ext.refl _) rfl
        · refine ObX.op rfl ?_
          intro f57 wd58 he59 hout60 hphi61
          have hS62 : St w wd58 [] := St.extend hS20 he59
          obtain ⟨S63, hS64, hf65⟩ := hphi61 2 19 _ rfl rfl rfl
          have e66 : f57 19 = (Value.pointer (some (elA v_a ((k7 : Int)).toNat))) := hf65
          exact OpX.val u67 wd58 rfl (op_load one_25 e66 (Ext.cell hS62.ext hc68)) (Ext.refl _) rfl
        · refine ObX.op rfl ?_
          intro f70 wd71 he72 hout73 hphi74
          have hS75 : St w wd71 [] := St.extend hS20 he72
          have e76 : f70 1 = v_b := (hout73 1 rfl).trans hf17
          exact OpX.val v_b wd71 rfl (op_move e76) (Ext.refl _) rfl
        · refine ObX.op rfl ?_
          intro f77 wd78 he79 hout80 hphi81
          have hS82 : St w wd78 [] := St.extend hS20 he79
          have e83 : f77 5 = (Value.int .i64 (k7 : Int)) := (hout80 5 rfl).trans hf18
          exact OpX.val (Value.int .i64 (k7 : Int)) wd78 rfl (op_move e83) (Ext.refl _) ⟨rfl, hr19⟩
        · refine ObX.op rfl ?_
          intro f84 wd85 he86 hout87 hphi88
          have hS89 : St w wd85 [] := St.extend hS20 he86
          obtain ⟨S90, hS91, hf92⟩ := hphi88 4 21 _ rfl rfl rfl
          have e93 : f84 21 = v_b := hf92
          obtain ⟨S94, hS95, hf96⟩ := hphi88 5 22 _ rfl rfl rfl
          obtain ⟨e97, hr98⟩ : f84 22 = (Value.int .i64 (k7 : Int)) ∧ InR .i64 (k7 : Int) := hf96
          exact OpX.val (Value.pointer (some (elA v_b ((k7 : Int)).toNat))) wd85 rfl (op_idx sl_65 (Ty.lift _ hS89.ext r_b) e93 e97 ha100 hb101) (Ext.refl _) rfl
        · refine ObX.op rfl ?_
          intro f103 wd104 he105 hout106 hphi107
          have hS108 : St w wd104 [] := St.extend hS20 he105
          obtain ⟨S109, hS110, hf111⟩ := hphi107 6 23 _ rfl rfl rfl
          have e112 : f103 23 = (Value.pointer (some (elA v_b ((k7 : Int)).toNat))) := hf111
          exact OpX.val u113 wd104 rfl (op_load one_25 e112 (Ext.cell hS108.ext hc114)) (Ext.refl _) rfl
        · intro f116 wd117 Ss118 he119 hout120 hSn121 hSd122 hphi123
          show WL _ _ _ _ _ _ _
          have hS124 : St w wd117 [] := St.extend hS20 he119
          have e125 : f116 20 = u67 := hphi123 3 20 _ (by decide) rfl rfl
          have e126 : f116 24 = u113 := hphi123 7 24 _ (by decide) rfl rfl
          have e127 : f116 0 = v_a := (hout120 0 rfl).trans hf16
          have e128 : f116 1 = v_b := (hout120 1 rfl).trans hf17
          have e129 : f116 5 = (Value.int .i64 (k7 : Int)) := (hout120 5 rfl).trans hf18
          obtain ⟨x130, hx131, hb12⟩ := bs hb12
          refine WL.call _ (op_call fn_15 (args2 e125 e126)) (c_laws_eqInt64S (Ty.lift _ hS124.ext hr69) (Ty.lift _ hS124.ext hr115) hx131) rfl ?_
          rintro _ wd132 ⟨rfl, he133⟩
          have hS135 := St.extend hS124 he133
          replace hS135 : St w wd132 [] := hS135
          refine WL.val (Value.bool (!x130)) _ (op_not rfl) rfl ?_
          refine WL.nil ?_
          show W _ _ _ _ _ _
          refine W.cond (!x130) rfl (fun hc136 => ?_) (fun hc136 => ?_)
          · replace hb12 := ip hb12 hc136
            refine W.seq (W.region ?_)
            refine WL.val (Value.bool false) _ (op_assign rfl) rfl ?_
            refine WL.nil ?_
            show W _ _ _ _ _ _
            refine W.ret ?_
            obtain rfl := Option.some.inj hb12
            obtain rfl := hret15 _ rfl
            replace h := onRes_ret h
            obtain rfl := Option.some.inj h
            show FinP _ _ _ _ _ _ _
            exact FinP.ret _ (res1 rfl rfl) ⟨rfl, hS135.ext⟩
          · replace hb12 := inegb hb12 hc136
            refine W.skip ?_
            show W _ _ _ _ _ _
            refine W.region ?_
            refine WL.val (Value.int .i64 (k7 : Int)) _ (op_move e129) rfl ?_
            refine WL.val (Value.int .i64 (w64 ((k7 : Int) + (1 : Int)))) _ (op_add rfl rfl) rfl ?_
            refine WL.val (Value.int .i64 (w64 ((k7 : Int) + (1 : Int)))) _ (op_assign rfl) rfl ?_
            refine WL.nil ?_
            obtain rfl := Option.some.inj hb12
            show ∃ s, _ = Ctl.next s ∧ _
            exact ⟨_, rfl, e127, e128, (ctr_next hl22 hr21), (ctr_rng hl22 hr21), hS135⟩
      · intro s143 f139 wd140 hs141 hI142
        obtain ⟨⟩ := s143
        replace hI142 : f139 0 = v_a ∧ f139 1 = v_b ∧ f139 5 = Value.int .i64 (((a).length : Nat) : Int) ∧ InR .i64 (((a).length : Nat) : Int) ∧ St w wd140 [] := hI142
        obtain ⟨hf144, hf145, hf146, hr147, hS148⟩ := hI142
        refine W.seq (W.seq (W.region ?_))
        refine WL.val (Value.int .i64 (((a).length : Nat) : Int)) _ (op_move hf146) rfl ?_
        refine WL.val v_a _ (op_move hf144) rfl ?_
        have hr149 := inR_len (Ty.lift _ hS148.ext r_a)
        refine WL.val (Value.int .i64 ((a).length : Int)) _ (op_lenL sl_65 (Ty.lift _ hS148.ext r_a) rfl) rfl ?_
        refine WL.val (Value.bool (decide ((((a).length : Nat) : Int) < ((a).length : Int)))) _ (op_lss rfl rfl) rfl ?_
        have hl150 : ¬ (((a).length : Nat) : Int) < ((a).length : Int) := by omega
        refine WL.nil ?_
        show W _ _ _ _ _ _
        refine W.condF (decide ((((a).length : Nat) : Int) < ((a).length : Int))) rfl (decide_eq_false hl150) ?_
        refine W.exit ?_
        show _ = _ ∧ _
        exact ⟨rfl, _, hs141, hS148⟩
    · rintro f151 wd152 ⟨s154, rfl, hq153⟩
      replace h := onRes_fin h
      obtain ⟨⟩ := s154
      replace hq153 : St w wd152 [] := hq153
      have hS155 := hq153
      show W _ _ _ _ _ _
      refine W.seq (W.region ?_)
      refine WL.val (Value.bool true) _ (op_assign rfl) rfl ?_
      refine WL.nil ?_
      show W _ _ _ _ _ _
      refine W.ret ?_
      obtain rfl := Option.some.inj h
      show FinP _ _ _ _ _ _ _
      exact FinP.ret _ (res1 rfl rfl) ⟨rfl, hS155.ext⟩

theorem c_laws_eqInt64SSS {w : World} {a : (List (List (List Int)))} {v_a : Value} {b : (List (List (List Int)))} {v_b : Value} (r_a : (Ty.sl (Ty.sl (Ty.sl (Ty.i .i64)))).rep w v_a a) (r_b : (Ty.sl (Ty.sl (Ty.sl (Ty.i .i64)))).rep w v_b b) {res : Bool} (h : p_laws_eqInt64SSS a b  = some res) :
    Ret Try.prog 41 #[v_a, v_b] w (fun v w' => v = Value.bool res ∧ Ext w w') := by
  unfold p_laws_eqInt64SSS at h
  have hS0 : St w w [] := St.start w
  refine Ret.start (fn := Try.f41) Try.func41 rfl 27 rfl rfl ?_
  refine W.seq (W.region ?_)
  refine WL.val (Value.bool false) _ (op_assign rfl) rfl ?_
  refine WL.nil ?_
  show W _ _ _ _ _ _
  refine W.seq (W.seq (W.region ?_))
  refine WL.val v_a _ (op_move rfl) rfl ?_
  have hr1 := inR_len (Ty.lift _ hS0.ext r_a)
  refine WL.val (Value.int .i64 ((a).length : Int)) _ (op_lenL sl_22 (Ty.lift _ hS0.ext r_a) rfl) rfl ?_
  refine WL.val v_b _ (op_move rfl) rfl ?_
  have hr2 := inR_len (Ty.lift _ hS0.ext r_b)
  refine WL.val (Value.int .i64 ((b).length : Int)) _ (op_lenL sl_22 (Ty.lift _ hS0.ext r_b) rfl) rfl ?_
  refine WL.val (Value.bool (((a).length : Int) != ((b).length : Int))) _ (op_neq rfl rfl) rfl ?_
  refine WL.nil ?_
  show W _ _ _ _ _ _
  refine W.cond (((a).length : Int) != ((b).length : Int)) rfl (fun hc3 => ?_) (fun hc3 => ?_)
  · replace h := ip h hc3
    refine W.seq (W.region ?_)
    refine WL.val (Value.bool false) _ (op_assign rfl) rfl ?_
    refine WL.nil ?_
    show W _ _ _ _ _ _
    refine W.ret ?_
    obtain rfl := Option.some.inj h
    show FinP _ _ _ _ _ _ _
    exact FinP.ret _ (res1 rfl rfl) ⟨rfl, hS0.ext⟩
  · replace h := inegb h hc3
    refine W.skip ?_
    show W _ _ _ _ _ _
    refine W.seq (W.seq (W.region ?_))
    refine WL.val (Value.int .i64 (0 : Int)) _ (op_assign rfl) rfl ?_
    refine WL.nil ?_
    show W _ _ _ _ _ _
    obtain ⟨res5, hres6, h⟩ := bs h
    refine W.blockLoop (fun fq wq => ∃ s, res5 = Res.fin s ∧ St w wq []) ?_ ?_
    · refine W.forN (fun k (s : Unit) fq wq => fq 0 = v_a ∧ fq 1 = v_b ∧ fq 5 = Value.int .i64 (k : Int) ∧ InR .i64 (k : Int) ∧ St w wq []) hres6 ⟨rfl, rfl, rfl, (inR_i64.2 (show (-9223372036854775808 : Int) ≤ 0 ∧ (0 : Int) ≤ 9223372036854775807 from by decide)), hS0⟩ ?_ ?_
      · intro k7 s138 ct8 f9 wd10 hk11 hb12 hI13 hbrk14 hret15
        obtain ⟨⟩ := s138
        replace hI13 : f9 0 = v_a ∧ f9 1 = v_b ∧ f9 5 = Value.int .i64 (k7 : Int) ∧ InR .i64 (k7 : Int) ∧ St w wd10 [] := hI13
        replace hb12 : p_laws_eqInt64SSS_L1 a b k7  = some ct8 := hb12
        unfold p_laws_eqInt64SSS_L1 at hb12
        obtain ⟨hf16, hf17, hf18, hr19, hS20⟩ := hI13
        refine W.seq (W.seq (W.region ?_))
        refine WL.val (Value.int .i64 (k7 : Int)) _ (op_move hf18) rfl ?_
        refine WL.val v_a _ (op_move hf16) rfl ?_
        have hr21 := inR_len (Ty.lift _ hS20.ext r_a)
        refine WL.val (Value.int .i64 ((a).length : Int)) _ (op_lenL sl_22 (Ty.lift _ hS20.ext r_a) rfl) rfl ?_
        refine WL.val (Value.bool (decide ((k7 : Int) < ((a).length : Int)))) _ (op_lss rfl rfl) rfl ?_
        have hl22 : (k7 : Int) < ((a).length : Int) := by omega
        refine WL.nil ?_
        show W _ _ _ _ _ _
        refine W.condT (decide ((k7 : Int) < ((a).length : Int))) rfl (decide_eq_true hl22) ?_
        refine W.skip ?_
        show W _ _ _ _ _ _
        refine W.seq ?_
        refine W.block ?_
        refine W.seq ?_
        obtain ⟨x53, hx56, hb12⟩ := bs hb12
        obtain ⟨ha54, hb55, hx56⟩ := idx_some hx56
        obtain ⟨u67, hc68, hr69⟩ := repSl.el r_a hx56
        obtain ⟨x99, hx102, hb12⟩ := bs hb12
        obtain ⟨ha100, hb101, hx102⟩ := idx_some hx102
        obtain ⟨u113, hc114, hr115⟩ := repSl.el r_b hx102
        refine W.drawR mixo 8 [] [fun _ v _ _ => v = v_a, fun _ v _ _ => v = (Value.int .i64 (k7 : Int)) ∧ InR .i64 (k7 : Int), fun _ v _ _ => v = (Value.pointer (some (elA v_a ((k7 : Int)).toNat))), fun _ v _ _ => v = u67, fun _ v _ _ => v = v_b, fun _ v _ _ => v = (Value.int .i64 (k7 : Int)) ∧ InR .i64 (k7 : Int), fun _ v _ _ => v = (Value.pointer (some (elA v_b ((k7 : Int)).toNat))), fun _ v _ _ => v = u113] (by kernel_rfl) (by kernel_rfl) ⟨⟨fun _ _ _ _ _ _ h => h, fun _ _ _ _ _ _ h => h⟩, ⟨fun _ _ _ _ _ _ h => h, fun _ _ _ _ _ _ h => h⟩, ⟨fun _ _ _ _ _ _ h => h, fun _ _ _ _ _ _ h => h⟩, ⟨fun _ _ _ _ _ _ h => h, fun _ _ _ _ _ _ h => h⟩, ⟨fun _ _ _ _ _ _ h => h, fun _ _ _ _ _ _ h => h⟩, ⟨fun _ _ _ _ _ _ h => h, fun _ _ _ _ _ _ h => h⟩, ⟨fun _ _ _ _ _ _ h => h, fun _ _ _ _ _ _ h => h⟩, ⟨fun _ _ _ _ _ _ h => h, fun _ _ _ _ _ _ h => h⟩, trivial⟩ ⟨?_, ?_, ?_, ?_, ?_, ?_, ?_, ?_, trivial⟩ ?_
        · refine ObX.op rfl ?_
          intro f24 wd25 he26 hout27 hphi28
          have hS29 : St w wd25 [] := St.extend hS20 he26
          have e30 : f24 0 = v_a := (hout27 0 rfl).trans hf16
          exact OpX.val v_a wd25 rfl (op_move e30) (Ext.refl _) rfl
        · refine ObX.op rfl ?_
          intro f31 wd32 he33 hout34 hphi35
          have hS36 : St w wd32 [] := St.extend hS20 he33
          have e37 : f31 5 = (Value.int .i64 (k7 : Int)) := (hout34 5 rfl).trans hf18
          exact OpX.val (Value.int .i64 (k7 : Int)) wd32 rfl (op_move e37) (Ext.refl _) ⟨rfl, hr19⟩
        · refine ObX.op rfl ?_
          intro f38 wd39 he40 hout41 hphi42
          have hS43 : St w wd39 [] := St.extend hS20 he40
          obtain ⟨S44, hS45, hf46⟩ := hphi42 0 17 _ rfl rfl rfl
          have e47 : f38 17 = v_a := hf46
          obtain ⟨S48, hS49, hf50⟩ := hphi42 1 18 _ rfl rfl rfl
          obtain ⟨e51, hr52⟩ : f38 18 = (Value.int .i64 (k7 : Int)) ∧ InR .i64 (k7 : Int) := hf50
          exact OpX.val (Value.pointer (some (elA v_a ((k7 : Int)).toNat))) wd39 rfl (op_idx sl_22 (Ty.lift _ hS43.ext r_a) e47 e51 ha54 hb55) (Ext.refl _) rfl
        · refine ObX.op rfl ?_
          intro f57 wd58 he59 hout60 hphi61
          have hS62 : St w wd58 [] := St.extend hS20 he59
          obtain ⟨S63, hS64, hf65⟩ := hphi61 2 19 _ rfl rfl rfl
          have e66 : f57 19 = (Value.pointer (some (elA v_a ((k7 : Int)).toNat))) := hf65
          exact OpX.val u67 wd58 rfl (op_load one_65 e66 (Ext.cell hS62.ext hc68)) (Ext.refl _) rfl
        · refine ObX.op rfl ?_
          intro f70 wd71 he72 hout73 hphi74
          have hS75 : St w wd71 [] := St.extend hS20 he72
          have e76 : f70 1 = v_b := (hout73 1 rfl).trans hf17
          exact OpX.val v_b wd71 rfl (op_move e76) (Ext.refl _) rfl
        · refine ObX.op rfl ?_
          intro f77 wd78 he79 hout80 hphi81
          have hS82 : St w wd78 [] := St.extend hS20 he79
          have e83 : f77 5 = (Value.int .i64 (k7 : Int)) := (hout80 5 rfl).trans hf18
          exact OpX.val (Value.int .i64 (k7 : Int)) wd78 rfl (op_move e83) (Ext.refl _) ⟨rfl, hr19⟩
        · refine ObX.op rfl ?_
          intro f84 wd85 he86 hout87 hphi88
          have hS89 : St w wd85 [] := St.extend hS20 he86
          obtain ⟨S90, hS91, hf92⟩ := hphi88 4 21 _ rfl rfl rfl
          have e93 : f84 21 = v_b := hf92
          obtain ⟨S94, hS95, hf96⟩ := hphi88 5 22 _ rfl rfl rfl
          obtain ⟨e97, hr98⟩ : f84 22 = (Value.int .i64 (k7 : Int)) ∧ InR .i64 (k7 : Int) := hf96
          exact OpX.val (Value.pointer (some (elA v_b ((k7 : Int)).toNat))) wd85 rfl (op_idx sl_22 (Ty.lift _ hS89.ext r_b) e93 e97 ha100 hb101) (Ext.refl _) rfl
        · refine ObX.op rfl ?_
          intro f103 wd104 he105 hout106 hphi107
          have hS108 : St w wd104 [] := St.extend hS20 he105
          obtain ⟨S109, hS110, hf111⟩ := hphi107 6 23 _ rfl rfl rfl
          have e112 : f103 23 = (Value.pointer (some (elA v_b ((k7 : Int)).toNat))) := hf111
          exact OpX.val u113 wd104 rfl (op_load one_65 e112 (Ext.cell hS108.ext hc114)) (Ext.refl _) rfl
        · intro f116 wd117 Ss118 he119 hout120 hSn121 hSd122 hphi123
          show WL _ _ _ _ _ _ _
          have hS124 : St w wd117 [] := St.extend hS20 he119
          have e125 : f116 20 = u67 := hphi123 3 20 _ (by decide) rfl rfl
          have e126 : f116 24 = u113 := hphi123 7 24 _ (by decide) rfl rfl
          have e127 : f116 0 = v_a := (hout120 0 rfl).trans hf16
          have e128 : f116 1 = v_b := (hout120 1 rfl).trans hf17
          have e129 : f116 5 = (Value.int .i64 (k7 : Int)) := (hout120 5 rfl).trans hf18
          obtain ⟨x130, hx131, hb12⟩ := bs hb12
          refine WL.call _ (op_call fn_74 (args2 e125 e126)) (c_laws_eqInt64SS (Ty.lift _ hS124.ext hr69) (Ty.lift _ hS124.ext hr115) hx131) rfl ?_
          rintro _ wd132 ⟨rfl, he133⟩
          have hS135 := St.extend hS124 he133
          replace hS135 : St w wd132 [] := hS135
          refine WL.val (Value.bool (!x130)) _ (op_not rfl) rfl ?_
          refine WL.nil ?_
          show W _ _ _ _ _ _
          refine W.cond (!x130) rfl (fun hc136 => ?_) (fun hc136 => ?_)
          · replace hb12 := ip hb12 hc136
            refine W.seq (W.region ?_)
            refine WL.val (Value.bool false) _ (op_assign rfl) rfl ?_
            refine WL.nil ?_
            show W _ _ _ _ _ _
            refine W.ret ?_
            obtain rfl := Option.some.inj hb12
            obtain rfl := hret15 _ rfl
            replace h := onRes_ret h
            obtain rfl := Option.some.inj h
            show FinP _ _ _ _ _ _ _
            exact FinP.ret _ (res1 rfl rfl) ⟨rfl, hS135.ext⟩
          · replace hb12 := inegb hb12 hc136
            refine W.skip ?_
            show W _ _ _ _ _ _
            refine W.region ?_
            refine WL.val (Value.int .i64 (k7 : Int)) _ (op_move e129) rfl ?_
            refine WL.val (Value.int .i64 (w64 ((k7 : Int) + (1 : Int)))) _ (op_add rfl rfl) rfl ?_
            refine WL.val (Value.int .i64 (w64 ((k7 : Int) + (1 : Int)))) _ (op_assign rfl) rfl ?_
            refine WL.nil ?_
            obtain rfl := Option.some.inj hb12
            show ∃ s, _ = Ctl.next s ∧ _
            exact ⟨_, rfl, e127, e128, (ctr_next hl22 hr21), (ctr_rng hl22 hr21), hS135⟩
      · intro s143 f139 wd140 hs141 hI142
        obtain ⟨⟩ := s143
        replace hI142 : f139 0 = v_a ∧ f139 1 = v_b ∧ f139 5 = Value.int .i64 (((a).length : Nat) : Int) ∧ InR .i64 (((a).length : Nat) : Int) ∧ St w wd140 [] := hI142
        obtain ⟨hf144, hf145, hf146, hr147, hS148⟩ := hI142
        refine W.seq (W.seq (W.region ?_))
        refine WL.val (Value.int .i64 (((a).length : Nat) : Int)) _ (op_move hf146) rfl ?_
        refine WL.val v_a _ (op_move hf144) rfl ?_
        have hr149 := inR_len (Ty.lift _ hS148.ext r_a)
        refine WL.val (Value.int .i64 ((a).length : Int)) _ (op_lenL sl_22 (Ty.lift _ hS148.ext r_a) rfl) rfl ?_
        refine WL.val (Value.bool (decide ((((a).length : Nat) : Int) < ((a).length : Int)))) _ (op_lss rfl rfl) rfl ?_
        have hl150 : ¬ (((a).length : Nat) : Int) < ((a).length : Int) := by omega
        refine WL.nil ?_
        show W _ _ _ _ _ _
        refine W.condF (decide ((((a).length : Nat) : Int) < ((a).length : Int))) rfl (decide_eq_false hl150) ?_
        refine W.exit ?_
        show _ = _ ∧ _
        exact ⟨rfl, _, hs141, hS148⟩
    · rintro f151 wd152 ⟨s154, rfl, hq153⟩
      replace h := onRes_fin h
      obtain ⟨⟩ := s154
      replace hq153 : St w wd152 [] := hq153
      have hS155 := hq153
      show W _ _ _ _ _ _
      refine W.seq (W.region ?_)
      refine WL.val (Value.bool true) _ (op_assign rfl) rfl ?_
      refine WL.nil ?_
      show W _ _ _ _ _ _
      refine W.ret ?_
      obtain rfl := Option.some.inj h
      show FinP _ _ _ _ _ _ _
      exact FinP.ret _ (res1 rfl rfl) ⟨rfl, hS155.ext⟩

theorem c_laws_eqRing {w : World} {a_Table : (List (List (List Int)))} {v_a_Table : Value} {b_Table : (List (List (List Int)))} {v_b_Table : Value} (r_a_Table : (Ty.sl (Ty.sl (Ty.sl (Ty.i .i64)))).rep w v_a_Table a_Table) (r_b_Table : (Ty.sl (Ty.sl (Ty.sl (Ty.i .i64)))).rep w v_b_Table b_Table) {res : Bool} (h : p_laws_eqRing a_Table b_Table  = some res) :
    Ret Try.prog 14 #[(Value.agg #[v_a_Table]), (Value.agg #[v_b_Table])] w (fun v w' => v = Value.bool res ∧ Ext w w') := by
  unfold p_laws_eqRing at h
  have hS0 : St w w [] := St.start w
  refine Ret.start (fn := Try.f14) Try.func14 rfl 11 rfl rfl ?_
  refine W.seq (W.region ?_)
  refine WL.box hS0 rfl (cs := [v_a_Table]) rfl rfl ?_
  intro b1 wd2 hS3 he4 hx5
  replace hS3 : St w wd2 [bx b1 [v_a_Table]] := hS3
  have hx6 := St.boxAt hS3 0 rfl
  have hE7 : Ext w wd2 := hS3.ext
  have hS8 : St wd2 wd2 [] := St.start wd2
  refine WL.box hS8 rfl (cs := [v_b_Table]) rfl rfl ?_
  intro b9 wd10 hS11 he12 hx13
  replace hS11 : St wd2 wd10 [bx b9 [v_b_Table]] := hS11
  have hx14 := St.boxAt hS11 0 rfl
  have hE15 : Ext w wd10 := (Ext.trans hE7 hS11.ext)
  have hE16 : Ext wd2 wd10 := hS11.ext
  have hS17 : St wd10 wd10 [] := St.start wd10
  refine WL.val (Value.bool false) _ (op_assign rfl) rfl ?_
  refine WL.nil ?_
  show W _ _ _ _ _ _
  refine W.seq (W.seq (W.region ?_))
  refine WL.val (Value.pointer (some ⟨b1, 0, none⟩)) _ (op_fieldAddr fd_29_0 rfl) rfl ?_
  refine WL.val v_a_Table _ (op_load one_22 rfl (BoxAt.cell (BoxAt.lift (Ext.trans hE16 hS17.ext) hx6) rfl)) rfl ?_
  refine WL.val (Value.pointer (some ⟨b9, 0, none⟩)) _ (op_fieldAddr fd_29_0 rfl) rfl ?_
  refine WL.val v_b_Table _ (op_load one_22 rfl (BoxAt.cell (BoxAt.lift hS17.ext hx14) rfl)) rfl ?_
  obtain ⟨x18, hx19, h⟩ := bs h
  refine WL.call _ (op_call fn_41 (args2 rfl rfl)) (c_laws_eqInt64SSS (Ty.lift _ (Ext.trans hE15 hS17.ext) r_a_Table) (Ty.lift _ (Ext.trans hE15 hS17.ext) r_b_Table) hx19) rfl ?_
  rintro _ wd20 ⟨rfl, he21⟩
  have hS23 := St.extend hS17 he21
  replace hS23 : St wd10 wd20 [] := hS23
  refine WL.val (Value.bool (!x18)) _ (op_not rfl) rfl ?_
  refine WL.nil ?_
  show W _ _ _ _ _ _
  refine W.cond (!x18) rfl (fun hc24 => ?_) (fun hc24 => ?_)
  · replace h := ip h hc24
    refine W.seq (W.region ?_)
    refine WL.val (Value.bool false) _ (op_assign rfl) rfl ?_
    refine WL.nil ?_
    show W _ _ _ _ _ _
    refine W.ret ?_
    obtain rfl := Option.some.inj h
    show FinP _ _ _ _ _ _ _
    exact FinP.ret _ (res1 rfl rfl) ⟨rfl, (Ext.trans hE15 hS23.ext)⟩
  · replace h := inegb h hc24
    refine W.skip ?_
    show W _ _ _ _ _ _
    refine W.seq (W.region ?_)
    refine WL.val (Value.bool true) _ (op_assign rfl) rfl ?_
    refine WL.nil ?_
    show W _ _ _ _ _ _
    refine W.ret ?_
    obtain rfl := Option.some.inj h
    show FinP _ _ _ _ _ _ _
    exact FinP.ret _ (res1 rfl rfl) ⟨rfl, (Ext.trans hE15 hS23.ext)⟩

theorem c_spec_l03Duals {w : World} {r_Table : (List (List (List Int)))} {v_r_Table : Value} (r_r_Table : (Ty.sl (Ty.sl (Ty.sl (Ty.i .i64)))).rep w v_r_Table r_Table) {res : (List Int)} (h : p_spec_l03Duals r_Table  = some res) :
    Ret Try.prog 93 #[(Value.agg #[v_r_Table])] w (fun v w' => ∃ (u0 : Value), v = u0 ∧ Ext w w' ∧ Sep w.heap.size w' [(Ty.sl (Ty.i .i64)).at u0 res]) := by
  unfold p_spec_l03Duals at h
  have hS0 : St w w [] := St.start w
  refine Ret.start (fn := Try.f93) Try.func93 rfl 21 rfl rfl ?_
  refine W.seq (W.region ?_)
  refine WL.box hS0 rfl (cs := [v_r_Table]) rfl rfl ?_
  intro b1 wd2 hS3 he4 hx5
  replace hS3 : St w wd2 [bx b1 [v_r_Table]] := hS3
  have hx6 := St.boxAt hS3 0 rfl
  have hE7 : Ext w wd2 := hS3.ext
  have hS8 : St wd2 wd2 [] := St.start wd2
  refine WL.val (Value.slice none 0 0) _ (op_assign rfl) rfl ?_
  refine WL.nil ?_
  show W _ _ _ _ _ _
  refine W.seq (W.region ?_)
  refine WL.lit0 (t := (Ty.i .i64)) hS8 sl_25 rfl rfl ?_
  intro u9 wd10 hS11 he12
  replace hS11 : St wd2 wd10 [(Ty.sl (Ty.i .i64)).at u9 ([] : (List Int))] := hS11
  refine WL.val u9 _ (op_assign rfl) rfl ?_
  refine WL.nil ?_
  show W _ _ _ _ _ _
  refine W.seq (W.seq (W.region ?_))
  refine WL.val (Value.int .i64 (0 : Int)) _ (op_assign rfl) rfl ?_
  refine WL.nil ?_
  show W _ _ _ _ _ _
  obtain ⟨res13, hres14, h⟩ := bs h
  refine W.blockLoop (fun fq wq => ∃ s, res13 = Res.fin s ∧ ∃ (uu0 : Value), fq 3 = uu0 ∧ St wd2 wq [(Ty.sl (Ty.i .i64)).at uu0 s]) ?_ ?_
  · refine W.forN (fun k (s : (List Int)) fq wq => ∃ (uu0 : Value), fq 1 = (Value.pointer (some ⟨b1, 0, none⟩)) ∧ fq 3 = uu0 ∧ fq 4 = Value.int .i64 (k : Int) ∧ InR .i64 (k : Int) ∧ St wd2 wq [(Ty.sl (Ty.i .i64)).at uu0 s]) hres14 ⟨u9, rfl, rfl, rfl, (inR_i64.2 (show (-9223372036854775808 : Int) ≤ 0 ∧ (0 : Int) ≤ 9223372036854775807 from by decide)), hS11⟩ ?_ ?_
    · intro k15 x16 ct17 f18 wd19 hk20 hb21 hI22 hbrk23 hret24
      replace hI22 : ∃ (uu0 : Value), f18 1 = (Value.pointer (some ⟨b1, 0, none⟩)) ∧ f18 3 = uu0 ∧ f18 4 = Value.int .i64 (k15 : Int) ∧ InR .i64 (k15 : Int) ∧ St wd2 wd19 [(Ty.sl (Ty.i .i64)).at uu0 x16] := hI22
      replace hb21 : p_spec_l03Duals_L1 r_Table k15 x16 = some ct17 := hb21
      unfold p_spec_l03Duals_L1 at hb21
      obtain ⟨u25, hf26, hf27, hf28, hr29, hS30⟩ := hI22
      refine W.seq (W.seq (W.region ?_))
      refine WL.val (Value.int .i64 (k15 : Int)) _ (op_move hf28) rfl ?_
      refine WL.val (Value.pointer (some ⟨b1, 0, none⟩)) _ (op_fieldAddr fd_29_0 hf26) rfl ?_
      refine WL.val v_r_Table _ (op_load one_22 rfl (BoxAt.cell (BoxAt.lift hS30.ext hx6) rfl)) rfl ?_
      have hr31 := inR_len (Ty.lift _ (Ext.trans hE7 hS30.ext) r_r_Table)
      refine WL.val (Value.int .i64 ((r_Table).length : Int)) _ (op_lenL sl_22 (Ty.lift _ (Ext.trans hE7 hS30.ext) r_r_Table) rfl) rfl ?_
      refine WL.val (Value.bool (decide ((k15 : Int) < ((r_Table).length : Int)))) _ (op_lss rfl rfl) rfl ?_
      have hl32 : (k15 : Int) < ((r_Table).length : Int) := by omega
      refine WL.nil ?_
      show W _ _ _ _ _ _
      refine W.condT (decide ((k15 : Int) < ((r_Table).length : Int))) rfl (decide_eq_true hl32) ?_
      refine W.skip ?_
      show W _ _ _ _ _ _
      refine W.seq ?_
      refine W.block ?_
      refine W.region ?_
      refine WL.val u25 _ (op_move hf27) rfl ?_
      refine WL.val (Value.pointer (some ⟨b1, 0, none⟩)) _ (op_fieldAddr fd_29_0 hf26) rfl ?_
      refine WL.val v_r_Table _ (op_load one_22 rfl (BoxAt.cell (BoxAt.lift hS30.ext hx6) rfl)) rfl ?_
      refine WL.val (Value.int .i64 (k15 : Int)) _ (op_move hf28) rfl ?_
      obtain ⟨x34, hx35, hb21⟩ := bs hb21
      refine WL.call _ (op_call fn_111 (args2 rfl rfl)) (c_spec_l03Dual (Ty.lift _ (Ext.trans hE7 hS30.ext) r_r_Table) hr29 hx35) rfl ?_
      rintro _ wd37 ⟨rfl, hr36, he38⟩
      have hS40 := St.extend hS30 he38
      replace hS40 : St wd2 wd37 [(Ty.sl (Ty.i .i64)).at u25 x16] := hS40
      refine WL.litFlat (t := (Ty.i .i64)) (flat_i .i64) [(Value.int .i64 x34)] [x34] hS40 sl_25 rfl rfl (fillL rfl ⟨rfl, rfl, rfl, trivial⟩) rfl rfl (litL ⟨⟨rfl, hr36⟩, trivial⟩) rfl ?_
      intro u41 wd42 hS43 he44
      replace hS43 : St wd2 wd42 [(Ty.sl (Ty.i .i64)).at u25 x16, (Ty.sl (Ty.i .i64)).at u41 ([x34] : (List Int))] := hS43
      obtain ⟨x45, hx46, hb21⟩ := bs hb21
      refine WL.append (flat_i .i64) hS43 (k := 0) rfl sl_25 rfl rfl rfl rfl (St.rep (t := (Ty.sl (Ty.i .i64))) hS43 1 rfl) hx46 rfl ?_
      intro u47 wd48 hS49 hz50
      replace hS49 : St wd2 wd48 [(Ty.sl (Ty.i .i64)).at u47 x45, (Ty.sl (Ty.i .i64)).at u41 ([x34] : (List Int))] := hS49
      refine WL.val u47 _ (op_assign rfl) rfl ?_
      refine WL.nil ?_
      show W _ _ _ _ _ _
      refine W.region ?_
      refine WL.val (Value.int .i64 (k15 : Int)) _ (op_move hf28) rfl ?_
      refine WL.val (Value.int .i64 (w64 ((k15 : Int) + (1 : Int)))) _ (op_add rfl rfl) rfl ?_
      refine WL.val (Value.int .i64 (w64 ((k15 : Int) + (1 : Int)))) _ (op_assign rfl) rfl ?_
      refine WL.nil ?_
      obtain rfl := Option.some.inj hb21
      show ∃ s, _ = Ctl.next s ∧ _
      exact ⟨_, rfl, u47, hf26, rfl, (ctr_next hl32 hr31), (ctr_rng hl32 hr31), (St.pick hS49 [0] rfl)⟩
    · intro x57 f52 wd53 hs54 hI55
      replace hI55 : ∃ (uu0 : Value), f52 1 = (Value.pointer (some ⟨b1, 0, none⟩)) ∧ f52 3 = uu0 ∧ f52 4 = Value.int .i64 (((r_Table).length : Nat) : Int) ∧ InR .i64 (((r_Table).length : Nat) : Int) ∧ St wd2 wd53 [(Ty.sl (Ty.i .i64)).at uu0 x57] := hI55
      obtain ⟨u58, hf59, hf60, hf61, hr62, hS63⟩ := hI55
      refine W.seq (W.seq (W.region ?_))
      refine WL.val (Value.int .i64 (((r_Table).length : Nat) : Int)) _ (op_move hf61) rfl ?_
      refine WL.val (Value.pointer (some ⟨b1, 0, none⟩)) _ (op_fieldAddr fd_29_0 hf59) rfl ?_
      refine WL.val v_r_Table _ (op_load one_22 rfl (BoxAt.cell (BoxAt.lift hS63.ext hx6) rfl)) rfl ?_
      have hr64 := inR_len (Ty.lift _ (Ext.trans hE7 hS63.ext) r_r_Table)
      refine WL.val (Value.int .i64 ((r_Table).length : Int)) _ (op_lenL sl_22 (Ty.lift _ (Ext.trans hE7 hS63.ext) r_r_Table) rfl) rfl ?_
      refine WL.val (Value.bool (decide ((((r_Table).length : Nat) : Int) < ((r_Table).length : Int)))) _ (op_lss rfl rfl) rfl ?_
      have hl65 : ¬ (((r_Table).length : Nat) : Int) < ((r_Table).length : Int) := by omega
      refine WL.nil ?_
      show W _ _ _ _ _ _
      refine W.condF (decide ((((r_Table).length : Nat) : Int) < ((r_Table).length : Int))) rfl (decide_eq_false hl65) ?_
      refine W.exit ?_
      show _ = _ ∧ _
      exact ⟨rfl, _, hs54, u58, hf60, hS63⟩
  · rintro f66 wd67 ⟨x70, rfl, hq68⟩
    replace h := onRes_fin h
    replace hq68 : ∃ (uu0 : Value), f66 3 = uu0 ∧ St wd2 wd67 [(Ty.sl (Ty.i .i64)).at uu0 x70] := hq68
    obtain ⟨u71, hf72, hS73⟩ := hq68
    show W _ _ _ _ _ _
    refine W.seq (W.region ?_)
    refine WL.val u71 _ (op_move hf72) rfl ?_
    refine WL.val u71 _ (op_assign rfl) rfl ?_
    refine WL.nil ?_
    show W _ _ _ _ _ _
    refine W.ret ?_
    obtain rfl := Option.some.inj h
    show FinP _ _ _ _ _ _ _
    exact FinP.ret _ (res1 rfl rfl) ⟨u71, rfl, (Ext.trans hE7 hS73.ext), (St.out (St.pick hS73 [0] rfl) (hE7))⟩

theorem c_laws_markInt64S {w : World} {a : (List Int)} {v_a : Value} {k1 : Int} {w0 : World} {R : Ent} (hS0 : St w0 w [(Ty.sl (Ty.i .i64)).at v_a a, R]) (r_k1 : InR .i64 k1) {res : Int × (List Int)} (h : p_laws_markInt64S a k1  = some res) :
    Ret Try.prog 32 #[v_a, (Value.int .i64 k1)] w (fun v w' => v = Value.int .i64 res.1 ∧ InR .i64 res.1 ∧ St w0 w' [(Ty.sl (Ty.i .i64)).at v_a res.2, R]) := by
  unfold p_laws_markInt64S at h
  refine Ret.start (fn := Try.f32) Try.func32 rfl 19 rfl rfl ?_
  refine W.seq (W.region ?_)
  refine WL.val (Value.int .i64 (0 : Int)) _ (op_assign rfl) rfl ?_
  refine WL.nil ?_
  show W _ _ _ _ _ _
  refine W.seq (W.seq (W.region ?_))
  refine WL.val (Value.int .i64 (0 : Int)) _ (op_assign rfl) rfl ?_
  refine WL.nil ?_
  show W _ _ _ _ _ _
  obtain ⟨res1, hres2, h⟩ := bs h
  refine W.blockLoop (fun fq wq => ∃ s, res1 = Res.fin s ∧ fq 1 = Value.int .i64 s.2 ∧ InR .i64 s.2 ∧ (s.1).length = (a).length ∧ St w0 wq [(Ty.sl (Ty.i .i64)).at v_a s.1, R]) ?_ ?_
  · refine W.forN (fun k (s : (List Int) × Int) fq wq => fq 0 = v_a ∧ fq 1 = Value.int .i64 s.2 ∧ InR .i64 s.2 ∧ fq 5 = Value.int .i64 (k : Int) ∧ InR .i64 (k : Int) ∧ (s.1).length = (a).length ∧ St w0 wq [(Ty.sl (Ty.i .i64)).at v_a s.1, R]) hres2 ⟨rfl, rfl, r_k1, rfl, (inR_i64.2 (show (-9223372036854775808 : Int) ≤ 0 ∧ (0 : Int) ≤ 9223372036854775807 from by decide)), rfl, hS0⟩ ?_ ?_
    · intro k3 s30 ct6 f7 wd8 hk9 hb10 hI11 hbrk12 hret13
      obtain ⟨x4, x5⟩ := s30
      replace hI11 : f7 0 = v_a ∧ f7 1 = Value.int .i64 x5 ∧ InR .i64 x5 ∧ f7 5 = Value.int .i64 (k3 : Int) ∧ InR .i64 (k3 : Int) ∧ (x4).length = (a).length ∧ St w0 wd8 [(Ty.sl (Ty.i .i64)).at v_a x4, R] := hI11
      replace hb10 : p_laws_markInt64S_L1  k3 x4 x5 = some ct6 := hb10
      unfold p_laws_markInt64S_L1 at hb10
      obtain ⟨hf14, hf15, hr16, hf17, hr18, hL19, hS20⟩ := hI11
      refine W.seq (W.seq (W.region ?_))
      refine WL.val (Value.int .i64 (k3 : Int)) _ (op_move hf17) rfl ?_
      refine WL.val v_a _ (op_move hf14) rfl ?_
      have hr21 := inR_len (St.rep (t := (Ty.sl (Ty.i .i64))) hS20 0 rfl)
      refine WL.val (Value.int .i64 ((x4).length : Int)) _ (op_lenL sl_25 (St.rep (t := (Ty.sl (Ty.i .i64))) hS20 0 rfl) rfl) rfl ?_
      refine WL.val (Value.bool (decide ((k3 : Int) < ((x4).length : Int)))) _ (op_lss rfl rfl) rfl ?_
      have hl22 : (k3 : Int) < ((x4).length : Int) := by omega
      refine WL.nil ?_
      show W _ _ _ _ _ _
      refine W.condT (decide ((k3 : Int) < ((x4).length : Int))) rfl (decide_eq_true hl22) ?_
      refine W.skip ?_
      show W _ _ _ _ _ _
      refine W.seq ?_
      refine W.block ?_
      refine W.seq (W.region ?_)
      refine WL.val v_a _ (op_move hf14) rfl ?_
      refine WL.val (Value.int .i64 (k3 : Int)) _ (op_move hf17) rfl ?_
      refine WL.val (Value.int .i64 x5) _ (op_move hf15) rfl ?_
      obtain ⟨x24, hx27, hb10⟩ := bs hb10
      obtain ⟨ha25, hb26, hx27⟩ := idx_some hx27
      refine WL.val (Value.pointer (some (elA v_a ((k3 : Int)).toNat))) _ (op_idx sl_25 (St.rep (t := (Ty.sl (Ty.i .i64))) hS20 0 rfl) rfl rfl ha25 hb26) rfl ?_
      refine WL.storeEl (flat_i .i64) hS20 (k := 0) rfl sz_2 rfl rfl (lt_of_idx ha25 hb26) ⟨rfl, hr16⟩ ?_
      intro wd28 hS29
      replace hS29 : St w0 wd28 [(Ty.sl (Ty.i .i64)).at v_a ((x4).set ((k3 : Int)).toNat x5), R] := hS29
      refine WL.nil ?_
      show W _ _ _ _ _ _
      refine W.region ?_
      refine WL.val (Value.int .i64 x5) _ (op_move hf15) rfl ?_
      refine WL.val (Value.int .i64 (w64 (x5 + (1 : Int)))) _ (op_add rfl rfl) rfl ?_
      refine WL.val (Value.int .i64 (w64 (x5 + (1 : Int)))) _ (op_assign rfl) rfl ?_
      refine WL.nil ?_
      show W _ _ _ _ _ _
      refine W.region ?_
      refine WL.val (Value.int .i64 (k3 : Int)) _ (op_move hf17) rfl ?_
      refine WL.val (Value.int .i64 (w64 ((k3 : Int) + (1 : Int)))) _ (op_add rfl rfl) rfl ?_
      refine WL.val (Value.int .i64 (w64 ((k3 : Int) + (1 : Int)))) _ (op_assign rfl) rfl ?_
      refine WL.nil ?_
      obtain rfl := Option.some.inj hb10
      show ∃ s, _ = Ctl.next s ∧ _
      exact ⟨_, rfl, hf14, rfl, (inR_wrap _ _), (ctr_next hl22 hr21), (ctr_rng hl22 hr21), (by first | exact hL19 | (simp only [List.length_set]; exact hL19)), hS29⟩
    · intro s35 f31 wd32 hs33 hI34
      obtain ⟨x36, x37⟩ := s35
      replace hI34 : f31 0 = v_a ∧ f31 1 = Value.int .i64 x37 ∧ InR .i64 x37 ∧ f31 5 = Value.int .i64 (((a).length : Nat) : Int) ∧ InR .i64 (((a).length : Nat) : Int) ∧ (x36).length = (a).length ∧ St w0 wd32 [(Ty.sl (Ty.i .i64)).at v_a x36, R] := hI34
      obtain ⟨hf38, hf39, hr40, hf41, hr42, hL43, hS44⟩ := hI34
      refine W.seq (W.seq (W.region ?_))
      refine WL.val (Value.int .i64 (((a).length : Nat) : Int)) _ (op_move hf41) rfl ?_
      refine WL.val v_a _ (op_move hf38) rfl ?_
      have hr45 := inR_len (St.rep (t := (Ty.sl (Ty.i .i64))) hS44 0 rfl)
      refine WL.val (Value.int .i64 ((x36).length : Int)) _ (op_lenL sl_25 (St.rep (t := (Ty.sl (Ty.i .i64))) hS44 0 rfl) rfl) rfl ?_
      refine WL.val (Value.bool (decide ((((a).length : Nat) : Int) < ((x36).length : Int)))) _ (op_lss rfl rfl) rfl ?_
      have hl46 : ¬ (((a).length : Nat) : Int) < ((x36).length : Int) := by omega
      refine WL.nil ?_
      show W _ _ _ _ _ _
      refine W.condF (decide ((((a).length : Nat) : Int) < ((x36).length : Int))) rfl (decide_eq_false hl46) ?_
      refine W.exit ?_
      show _ = _ ∧ _
      exact ⟨rfl, _, hs33, hf39, hr40, (by first | exact hL43 | (simp only [List.length_set]; exact hL43)), hS44⟩
  · rintro f47 wd48 ⟨s50, rfl, hq49⟩
    replace h := onRes_fin h
    obtain ⟨x51, x52⟩ := s50
    replace hq49 : f47 1 = Value.int .i64 x52 ∧ InR .i64 x52 ∧ (x51).length = (a).length ∧ St w0 wd48 [(Ty.sl (Ty.i .i64)).at v_a x51, R] := hq49
    replace h : (_ : Option _) = _ := h
    dsimp only at h
    obtain ⟨hf53, hr54, hL55, hS56⟩ := hq49
    show W _ _ _ _ _ _
    refine W.seq (W.region ?_)
    refine WL.val (Value.int .i64 x52) _ (op_move hf53) rfl ?_
    refine WL.val (Value.int .i64 x52) _ (op_assign rfl) rfl ?_
    refine WL.nil ?_
    show W _ _ _ _ _ _
    refine W.ret ?_
    obtain rfl := Option.some.inj h
    show FinP _ _ _ _ _ _ _
    exact FinP.ret _ (res1 rfl rfl) ⟨rfl, hr54, (St.pick hS56 [0, 1] rfl)⟩

theorem c_laws_markInt64SS {w : World} {a : (List (List Int))} {v_a : Value} {k1 : Int} {w0 : World} {R : Ent} (hS0 : St w0 w [(Ty.sl (Ty.sl (Ty.i .i64))).at v_a a, R]) (r_k1 : InR .i64 k1) {res : Int × (List (List Int))} (h : p_laws_markInt64SS a k1  = some res) :
    Ret Try.prog 90 #[v_a, (Value.int .i64 k1)] w (fun v w' => v = Value.int .i64 res.1 ∧ InR .i64 res.1 ∧ St w0 w' [(Ty.sl (Ty.sl (Ty.i .i64))).at v_a res.2, R]) := by
  unfold p_laws_markInt64SS at h
  refine Ret.start (fn := Try.f90) Try.func90 rfl 19 rfl rfl ?_
  refine W.seq (W.region ?_)
  refine WL.val (Value.int .i64 (0 : Int)) _ (op_assign rfl) rfl ?_
  refine WL.nil ?_
  show W _ _ _ _ _ _
  refine W.seq (W.seq (W.region ?_))
  refine WL.val (Value.int .i64 (0 : Int)) _ (op_assign rfl) rfl ?_
  refine WL.nil ?_
  show W _ _ _ _ _ _
  obtain ⟨res1, hres2, h⟩ := bs h
  refine W.blockLoop (fun fq wq => ∃ s, res1 = Res.fin s ∧ fq 1 = Value.int .i64 s.2 ∧ InR .i64 s.2 ∧ (s.1).length = (a).length ∧ St w0 wq [(Ty.sl (Ty.sl (Ty.i .i64))).at v_a s.1, R]) ?_ ?_
  · refine W.forN (fun k (s : (List (List Int)) × Int) fq wq => fq 0 = v_a ∧ fq 1 = Value.int .i64 s.2 ∧ InR .i64 s.2 ∧ fq 5 = Value.int .i64 (k : Int) ∧ InR .i64 (k : Int) ∧ (s.1).length = (a).length ∧ St w0 wq [(Ty.sl (Ty.sl (Ty.i .i64))).at v_a s.1, R]) hres2 ⟨rfl, rfl, r_k1, rfl, (inR_i64.2 (show (-9223372036854775808 : Int) ≤ 0 ∧ (0 : Int) ≤ 9223372036854775807 from by decide)), rfl, hS0⟩ ?_ ?_
    · intro k3 s40 ct6 f7 wd8 hk9 hb10 hI11 hbrk12 hret13
      obtain ⟨x4, x5⟩ := s40
      replace hI11 : f7 0 = v_a ∧ f7 1 = Value.int .i64 x5 ∧ InR .i64 x5 ∧ f7 5 = Value.int .i64 (k3 : Int) ∧ InR .i64 (k3 : Int) ∧ (x4).length = (a).length ∧ St w0 wd8 [(Ty.sl (Ty.sl (Ty.i .i64))).at v_a x4, R] := hI11
      replace hb10 : p_laws_markInt64SS_L1  k3 x4 x5 = some ct6 := hb10
      unfold p_laws_markInt64SS_L1 at hb10
      obtain ⟨hf14, hf15, hr16, hf17, hr18, hL19, hS20⟩ := hI11
      refine W.seq (W.seq (W.region ?_))
      refine WL.val (Value.int .i64 (k3 : Int)) _ (op_move hf17) rfl ?_
      refine WL.val v_a _ (op_move hf14) rfl ?_
      have hr21 := inR_len (St.rep (t := (Ty.sl (Ty.sl (Ty.i .i64)))) hS20 0 rfl)
      refine WL.val (Value.int .i64 ((x4).length : Int)) _ (op_lenL sl_65 (St.rep (t := (Ty.sl (Ty.sl (Ty.i .i64)))) hS20 0 rfl) rfl) rfl ?_
      refine WL.val (Value.bool (decide ((k3 : Int) < ((x4).length : Int)))) _ (op_lss rfl rfl) rfl ?_
      have hl22 : (k3 : Int) < ((x4).length : Int) := by omega
      refine WL.nil ?_
      show W _ _ _ _ _ _
      refine W.condT (decide ((k3 : Int) < ((x4).length : Int))) rfl (decide_eq_true hl22) ?_
      refine W.skip ?_
      show W _ _ _ _ _ _
      refine W.seq ?_
      refine W.block ?_
      refine W.region ?_
      refine WL.val v_a _ (op_move hf14) rfl ?_
      refine WL.val (Value.int .i64 (k3 : Int)) _ (op_move hf17) rfl ?_
      obtain ⟨x24, hx27, hb10⟩ := bs hb10
      obtain ⟨ha25, hb26, hx27⟩ := idx_some hx27
      refine WL.val (Value.pointer (some (elA v_a ((k3 : Int)).toNat))) _ (op_idx sl_65 (St.rep (t := (Ty.sl (Ty.sl (Ty.i .i64)))) hS20 0 rfl) rfl rfl ha25 hb26) rfl ?_
      obtain ⟨u28, hc29, hr30⟩ := repSl.el (St.rep (t := (Ty.sl (Ty.sl (Ty.i .i64)))) hS20 0 rfl) hx27
      refine WL.val u28 _ (op_load one_25 rfl hc29) rfl ?_
      refine WL.val (Value.int .i64 x5) _ (op_move hf15) rfl ?_
      have hS31 := St.unrow (k := 0) hS20 rfl hx27 hc29
      replace hS31 : St w0 wd8 [holeAt (Ty.sl (Ty.i .i64)) v_a x4 ((k3 : Int)).toNat u28, R, (Ty.sl (Ty.i .i64)).at u28 x24] := hS31
      obtain ⟨x32, hx33, hb10⟩ := bs hb10
      have hS34 := St.fold [(Ty.sl (Ty.i .i64)).at u28 x24] [holeAt (Ty.sl (Ty.i .i64)) v_a x4 ((k3 : Int)).toNat u28, R] (St.pick hS31 [2, 0, 1] rfl)
      refine WL.call _ (op_call fn_32 (args2 rfl rfl)) (c_laws_markInt64S hS34 hr16 hx33) rfl ?_
      rintro _ wd37 ⟨rfl, hr38, hS35⟩
      have hS36 := St.pick (St.unfold [(Ty.sl (Ty.i .i64)).at u28 x32.2] [holeAt (Ty.sl (Ty.i .i64)) v_a x4 ((k3 : Int)).toNat u28, R] hS35) [1, 2, 0] rfl
      replace hS36 : St w0 wd37 [holeAt (Ty.sl (Ty.i .i64)) v_a x4 ((k3 : Int)).toNat u28, R, (Ty.sl (Ty.i .i64)).at u28 x32.2] := hS36
      have hS39 := St.rerow (k := 0) (k2 := 2) hS36 rfl rfl rfl
      replace hS39 : St w0 wd37 [(Ty.sl (Ty.sl (Ty.i .i64))).at v_a ((x4).set ((k3 : Int)).toNat x32.2), R, emp] := hS39
      refine WL.val (Value.int .i64 x32.1) _ (op_assign rfl) rfl ?_
      refine WL.nil ?_
      show W _ _ _ _ _ _
      refine W.region ?_
      refine WL.val (Value.int .i64 (k3 : Int)) _ (op_move hf17) rfl ?_
      refine WL.val (Value.int .i64 (w64 ((k3 : Int) + (1 : Int)))) _ (op_add rfl rfl) rfl ?_
      refine WL.val (Value.int .i64 (w64 ((k3 : Int) + (1 : Int)))) _ (op_assign rfl) rfl ?_
      refine WL.nil ?_
      obtain rfl := Option.some.inj hb10
      show ∃ s, _ = Ctl.next s ∧ _
      exact ⟨_, rfl, hf14, rfl, hr38, (ctr_next hl22 hr21), (ctr_rng hl22 hr21), (by first | exact hL19 | (simp only [List.length_set]; exact hL19)), (St.pick hS39 [0, 1] rfl)⟩
    · intro s45 f41 wd42 hs43 hI44
      obtain ⟨x46, x47⟩ := s45
      replace hI44 : f41 0 = v_a ∧ f41 1 = Value.int .i64 x47 ∧ InR .i64 x47 ∧ f41 5 = Value.int .i64 (((a).length : Nat) : Int) ∧ InR .i64 (((a).length : Nat) : Int) ∧ (x46).length = (a).length ∧ St w0 wd42 [(Ty.sl (Ty.sl (Ty.i .i64))).at v_a x46, R] := hI44
      obtain ⟨hf48, hf49, hr50, hf51, hr52, hL53, hS54⟩ := hI44
      refine W.seq (W.seq (W.region ?_))
      refine WL.val (Value.int .i64 (((a).length : Nat) : Int)) _ (op_move hf51) rfl ?_
      refine WL.val v_a _ (op_move hf48) rfl ?_
      have hr55 := inR_len (St.rep (t := (Ty.sl (Ty.sl (Ty.i .i64)))) hS54 0 rfl)
      refine WL.val (Value.int .i64 ((x46).length : Int)) _ (op_lenL sl_65 (St.rep (t := (Ty.sl (Ty.sl (Ty.i .i64)))) hS54 0 rfl) rfl) rfl ?_
      refine WL.val (Value.bool (decide ((((a).length : Nat) : Int) < ((x46).length : Int)))) _ (op_lss rfl rfl) rfl ?_
      have hl56 : ¬ (((a).length : Nat) : Int) < ((x46).length : Int) := by omega
      refine WL.nil ?_
      show W _ _ _ _ _ _
      refine W.condF (decide ((((a).length : Nat) : Int) < ((x46).length : Int))) rfl (decide_eq_false hl56) ?_
      refine W.exit ?_
      show _ = _ ∧ _
      exact ⟨rfl, _, hs43, hf49, hr50, (by first | exact hL53 | (simp only [List.length_set]; exact hL53)), hS54⟩
  · rintro f57 wd58 ⟨s60, rfl, hq59⟩
    replace h := onRes_fin h
    obtain ⟨x61, x62⟩ := s60
    replace hq59 : f57 1 = Value.int .i64 x62 ∧ InR .i64 x62 ∧ (x61).length = (a).length ∧ St w0 wd58 [(Ty.sl (Ty.sl (Ty.i .i64))).at v_a x61, R] := hq59
    replace h : (_ : Option _) = _ := h
    dsimp only at h
    obtain ⟨hf63, hr64, hL65, hS66⟩ := hq59
    show W _ _ _ _ _ _
    refine W.seq (W.region ?_)
    refine WL.val (Value.int .i64 x62) _ (op_move hf63) rfl ?_
    refine WL.val (Value.int .i64 x62) _ (op_assign rfl) rfl ?_
    refine WL.nil ?_
    show W _ _ _ _ _ _
    refine W.ret ?_
    obtain rfl := Option.some.inj h
    show FinP _ _ _ _ _ _ _
    exact FinP.ret _ (res1 rfl rfl) ⟨rfl, hr64, (St.pick hS66 [0, 1] rfl)⟩

theorem c_laws_markInt64SSS {w : World} {a : (List (List (List Int)))} {v_a : Value} {k1 : Int} {w0 : World} {R : Ent} (hS0 : St w0 w [(Ty.sl (Ty.sl (Ty.sl (Ty.i .i64)))).at v_a a, R]) (r_k1 : InR .i64 k1) {res : Int × (List (List (List Int)))} (h : p_laws_markInt64SSS a k1  = some res) :
    Ret Try.prog 62 #[v_a, (Value.int .i64 k1)] w (fun v w' => v = Value.int .i64 res.1 ∧ InR .i64 res.1 ∧ St w0 w' [(Ty.sl (Ty.sl (Ty.sl (Ty.i .i64)))).at v_a res.2, R]) := by
  unfold p_laws_markInt64SSS at h
  refine Ret.start (fn := Try.f62) Try.func62 rfl 19 rfl rfl ?_
  refine W.seq (W.region ?_)
  refine WL.val (Value.int .i64 (0 : Int)) _ (op_assign rfl) rfl ?_
  refine WL.nil ?_
  show W _ _ _ _ _ _
  refine W.seq (W.seq (W.region ?_))
  refine WL.val (Value.int .i64 (0 : Int)) _ (op_assign rfl) rfl ?_
  refine WL.nil ?_
  show W _ _ _ _ _ _
  obtain ⟨res1, hres2, h⟩ := bs h
  refine W.blockLoop (fun fq wq => ∃ s, res1 = Res.fin s ∧ fq 1 = Value.int .i64 s.2 ∧ InR .i64 s.2 ∧ (s.1).length = (a).length ∧ St w0 wq [(Ty.sl (Ty.sl (Ty.sl (Ty.i .i64)))).at v_a s.1, R]) ?_ ?_
  · refine W.forN (fun k (s : (List (List (List Int))) × Int) fq wq => fq 0 = v_a ∧ fq 1 = Value.int .i64 s.2 ∧ InR .i64 s.2 ∧ fq 5 = Value.int .i64 (k : Int) ∧ InR .i64 (k : Int) ∧ (s.1).length = (a).length ∧ St w0 wq [(Ty.sl (Ty.sl (Ty.sl (Ty.i .i64)))).at v_a s.1, R]) hres2 ⟨rfl, rfl, r_k1, rfl, (inR_i64.2 (show (-9223372036854775808 : Int) ≤ 0 ∧ (0 : Int) ≤ 9223372036854775807 from by decide)), rfl, hS0⟩ ?_ ?_
    · intro k3 s40 ct6 f7 wd8 hk9 hb10 hI11 hbrk12 hret13
      obtain ⟨x4, x5⟩ := s40
      replace hI11 : f7 0 = v_a ∧ f7 1 = Value.int .i64 x5 ∧ InR .i64 x5 ∧ f7 5 = Value.int .i64 (k3 : Int) ∧ InR .i64 (k3 : Int) ∧ (x4).length = (a).length ∧ St w0 wd8 [(Ty.sl (Ty.sl (Ty.sl (Ty.i .i64)))).at v_a x4, R] := hI11
      replace hb10 : p_laws_markInt64SSS_L1  k3 x4 x5 = some ct6 := hb10
      unfold p_laws_markInt64SSS_L1 at hb10
      obtain ⟨hf14, hf15, hr16, hf17, hr18, hL19, hS20⟩ := hI11
      refine W.seq (W.seq (W.region ?_))
      refine WL.val (Value.int .i64 (k3 : Int)) _ (op_move hf17) rfl ?_
      refine WL.val v_a _ (op_move hf14) rfl ?_
      have hr21 := inR_len (St.rep (t := (Ty.sl (Ty.sl (Ty.sl (Ty.i .i64))))) hS20 0 rfl)
      refine WL.val (Value.int .i64 ((x4).length : Int)) _ (op_lenL sl_22 (St.rep (t := (Ty.sl (Ty.sl (Ty.sl (Ty.i .i64))))) hS20 0 rfl) rfl) rfl ?_
      refine WL.val (Value.bool (decide ((k3 : Int) < ((x4).length : Int)))) _ (op_lss rfl rfl) rfl ?_
      have hl22 : (k3 : Int) < ((x4).length : Int) := by omega
      refine WL.nil ?_
      show W _ _ _ _ _ _
      refine W.condT (decide ((k3 : Int) < ((x4).length : Int))) rfl (decide_eq_true hl22) ?_
      refine W.skip ?_
      show W _ _ _ _ _ _
      refine W.seq ?_
      refine W.block ?_
      refine W.region ?_
      refine WL.val v_a _ (op_move hf14) rfl ?_
      refine WL.val (Value.int .i64 (k3 : Int)) _ (op_move hf17) rfl ?_
      obtain ⟨x24, hx27, hb10⟩ := bs hb10
      obtain ⟨ha25, hb26, hx27⟩ := idx_some hx27
      refine WL.val (Value.pointer (some (elA v_a ((k3 : Int)).toNat))) _ (op_idx sl_22 (St.rep (t := (Ty.sl (Ty.sl (Ty.sl (Ty.i .i64))))) hS20 0 rfl) rfl rfl ha25 hb26) rfl ?_
      obtain ⟨u28, hc29, hr30⟩ := repSl.el (St.rep (t := (Ty.sl (Ty.sl (Ty.sl (Ty.i .i64))))) hS20 0 rfl) hx27
      refine WL.val u28 _ (op_load one_65 rfl hc29) rfl ?_
      refine WL.val (Value.int .i64 x5) _ (op_move hf15) rfl ?_
      have hS31 := St.unrow (k := 0) hS20 rfl hx27 hc29
      replace hS31 : St w0 wd8 [holeAt (Ty.sl (Ty.sl (Ty.i .i64))) v_a x4 ((k3 : Int)).toNat u28, R, (Ty.sl (Ty.sl (Ty.i .i64))).at u28 x24] := hS31
      obtain ⟨x32, hx33, hb10⟩ := bs hb10
      have hS34 := St.fold [(Ty.sl (Ty.sl (Ty.i .i64))).at u28 x24] [holeAt (Ty.sl (Ty.sl (Ty.i .i64))) v_a x4 ((k3 : Int)).toNat u28, R] (St.pick hS31 [2, 0, 1] rfl)
      refine WL.call _ (op_call fn_90 (args2 rfl rfl)) (c_laws_markInt64SS hS34 hr16 hx33) rfl ?_
      rintro _ wd37 ⟨rfl, hr38, hS35⟩
      have hS36 := St.pick (St.unfold [(Ty.sl (Ty.sl (Ty.i .i64))).at u28 x32.2] [holeAt (Ty.sl (Ty.sl (Ty.i .i64))) v_a x4 ((k3 : Int)).toNat u28, R] hS35) [1, 2, 0] rfl
      replace hS36 : St w0 wd37 [holeAt (Ty.sl (Ty.sl (Ty.i .i64))) v_a x4 ((k3 : Int)).toNat u28, R, (Ty.sl (Ty.sl (Ty.i .i64))).at u28 x32.2] := hS36
      have hS39 := St.rerow (k := 0) (k2 := 2) hS36 rfl rfl rfl
      replace hS39 : St w0 wd37 [(Ty.sl (Ty.sl (Ty.sl (Ty.i .i64)))).at v_a ((x4).set ((k3 : Int)).toNat x32.2), R, emp] := hS39
      refine WL.val (Value.int .i64 x32.1) _ (op_assign rfl) rfl ?_
      refine WL.nil ?_
      show W _ _ _ _ _ _
      refine W.region ?_
      refine WL.val (Value.int .i64 (k3 : Int)) _ (op_move hf17) rfl ?_
      refine WL.val (Value.int .i64 (w64 ((k3 : Int) + (1 : Int)))) _ (op_add rfl rfl) rfl ?_
      refine WL.val (Value.int .i64 (w64 ((k3 : Int) + (1 : Int)))) _ (op_assign rfl) rfl ?_
      refine WL.nil ?_
      obtain rfl := Option.some.inj hb10
      show ∃ s, _ = Ctl.next s ∧ _
      exact ⟨_, rfl, hf14, rfl, hr38, (ctr_next hl22 hr21), (ctr_rng hl22 hr21), (by first | exact hL19 | (simp only [List.length_set]; exact hL19)), (St.pick hS39 [0, 1] rfl)⟩
    · intro s45 f41 wd42 hs43 hI44
      obtain ⟨x46, x47⟩ := s45
      replace hI44 : f41 0 = v_a ∧ f41 1 = Value.int .i64 x47 ∧ InR .i64 x47 ∧ f41 5 = Value.int .i64 (((a).length : Nat) : Int) ∧ InR .i64 (((a).length : Nat) : Int) ∧ (x46).length = (a).length ∧ St w0 wd42 [(Ty.sl (Ty.sl (Ty.sl (Ty.i .i64)))).at v_a x46, R] := hI44
      obtain ⟨hf48, hf49, hr50, hf51, hr52, hL53, hS54⟩ := hI44
      refine W.seq (W.seq (W.region ?_))
      refine WL.val (Value.int .i64 (((a).length : Nat) : Int)) _ (op_move hf51) rfl ?_
      refine WL.val v_a _ (op_move hf48) rfl ?_
      have hr55 := inR_len (St.rep (t := (Ty.sl (Ty.sl (Ty.sl (Ty.i .i64))))) hS54 0 rfl)
      refine WL.val (Value.int .i64 ((x46).length : Int)) _ (op_lenL sl_22 (St.rep (t := (Ty.sl (Ty.sl (Ty.sl (Ty.i .i64))))) hS54 0 rfl) rfl) rfl ?_
      refine WL.val (Value.bool (decide ((((a).length : Nat) : Int) < ((x46).length : Int)))) _ (op_lss rfl rfl) rfl ?_
      have hl56 : ¬ (((a).length : Nat) : Int) < ((x46).length : Int) := by omega
      refine WL.nil ?_
      show W _ _ _ _ _ _
      refine W.condF (decide ((((a).length : Nat) : Int) < ((x46).length : Int))) rfl (decide_eq_false hl56) ?_
      refine W.exit ?_
      show _ = _ ∧ _
      exact ⟨rfl, _, hs43, hf49, hr50, (by first | exact hL53 | (simp only [List.length_set]; exact hL53)), hS54⟩
  · rintro f57 wd58 ⟨s60, rfl, hq59⟩
    replace h := onRes_fin h
    obtain ⟨x61, x62⟩ := s60
    replace hq59 : f57 1 = Value.int .i64 x62 ∧ InR .i64 x62 ∧ (x61).length = (a).length ∧ St w0 wd58 [(Ty.sl (Ty.sl (Ty.sl (Ty.i .i64)))).at v_a x61, R] := hq59
    replace h : (_ : Option _) = _ := h
    dsimp only at h
    obtain ⟨hf63, hr64, hL65, hS66⟩ := hq59
    show W _ _ _ _ _ _
    refine W.seq (W.region ?_)
    refine WL.val (Value.int .i64 x62) _ (op_move hf63) rfl ?_
    refine WL.val (Value.int .i64 x62) _ (op_assign rfl) rfl ?_
    refine WL.nil ?_
    show W _ _ _ _ _ _
    refine W.ret ?_
    obtain rfl := Option.some.inj h
    show FinP _ _ _ _ _ _ _
    exact FinP.ret _ (res1 rfl rfl) ⟨rfl, hr64, (St.pick hS66 [0, 1] rfl)⟩

theorem c_laws_markRing {w : World} {a_Table : (List (List (List Int)))} {v_a_Table : Value} {k1 : Int} {w0 : World} {R : Ent} (hS0 : St w0 w [(Ty.sl (Ty.sl (Ty.sl (Ty.i .i64)))).at v_a_Table a_Table, R]) (r_k1 : InR .i64 k1) {res : Int × (List (List (List Int)))} (h : p_laws_markRing a_Table k1  = some res) :
    Ret Try.prog 27 #[(Value.agg #[v_a_Table]), (Value.int .i64 k1)] w (fun v w' => v = Value.int .i64 res.1 ∧ InR .i64 res.1 ∧ St w0 w' [(Ty.sl (Ty.sl (Ty.sl (Ty.i .i64)))).at v_a_Table res.2, R]) := by
  unfold p_laws_markRing at h
  refine Ret.start (fn := Try.f27) Try.func27 rfl 10 rfl rfl ?_
  refine W.seq (W.region ?_)
  refine WL.box hS0 rfl (cs := [v_a_Table]) rfl rfl ?_
  intro b1 wd2 hS3 he4 hx5
  replace hS3 : St w0 wd2 [(Ty.sl (Ty.sl (Ty.sl (Ty.i .i64)))).at v_a_Table a_Table, R, bx b1 [v_a_Table]] := hS3
  refine WL.val (Value.int .i64 (0 : Int)) _ (op_assign rfl) rfl ?_
  refine WL.nil ?_
  show W _ _ _ _ _ _
  refine W.seq (W.region ?_)
  refine WL.val (Value.pointer (some ⟨b1, 0, none⟩)) _ (op_fieldAddr fd_29_0 rfl) rfl ?_
  refine WL.val v_a_Table _ (op_load one_22 rfl (BoxAt.cell (St.boxAt hS3 2 rfl) rfl)) rfl ?_
  refine WL.val (Value.int .i64 k1) _ (op_move rfl) rfl ?_
  obtain ⟨x6, hx7, h⟩ := bs h
  have hS8 := St.fold [(Ty.sl (Ty.sl (Ty.sl (Ty.i .i64)))).at v_a_Table a_Table] [R, bx b1 [v_a_Table]] (St.pick hS3 [0, 1, 2] rfl)
  refine WL.call _ (op_call fn_62 (args2 rfl rfl)) (c_laws_markInt64SSS hS8 r_k1 hx7) rfl ?_
  rintro _ wd11 ⟨rfl, hr12, hS9⟩
  have hS10 := St.pick (St.unfold [(Ty.sl (Ty.sl (Ty.sl (Ty.i .i64)))).at v_a_Table x6.2] [R, bx b1 [v_a_Table]] hS9) [0, 1, 2] rfl
  replace hS10 : St w0 wd11 [(Ty.sl (Ty.sl (Ty.sl (Ty.i .i64)))).at v_a_Table x6.2, R, bx b1 [v_a_Table]] := hS10
  refine WL.val (Value.int .i64 x6.1) _ (op_assign rfl) rfl ?_
  refine WL.nil ?_
  show W _ _ _ _ _ _
  refine W.seq (W.region ?_)
  refine WL.val (Value.int .i64 x6.1) _ (op_move rfl) rfl ?_
  refine WL.val (Value.int .i64 x6.1) _ (op_assign rfl) rfl ?_
  refine WL.nil ?_
  show W _ _ _ _ _ _
  refine W.ret ?_
  obtain rfl := Option.some.inj h
  show FinP _ _ _ _ _ _ _
  exact FinP.ret _ (res1 rfl rfl) ⟨rfl, hr12, (St.pick hS10 [0, 1] rfl)⟩

theorem c_laws_heldInt64S {w : World} {a : (List Int)} {v_a : Value} {k1 : Int} (r_a : (Ty.sl (Ty.i .i64)).rep w v_a a) (r_k1 : InR .i64 k1) {res : Int} (h : p_laws_heldInt64S a k1  = some res) :
    Ret Try.prog 33 #[v_a, (Value.int .i64 k1)] w (fun v w' => v = Value.int .i64 res ∧ InR .i64 res ∧ Ext w w') := by
  unfold p_laws_heldInt64S at h
  have hS0 : St w w [] := St.start w
  refine Ret.start (fn := Try.f33) Try.func33 rfl 21 rfl rfl ?_
  refine W.seq (W.region ?_)
  refine WL.val (Value.int .i64 (0 : Int)) _ (op_assign rfl) rfl ?_
  refine WL.nil ?_
  show W _ _ _ _ _ _
  refine W.seq (W.seq (W.region ?_))
  refine WL.val (Value.int .i64 (0 : Int)) _ (op_assign rfl) rfl ?_
  refine WL.nil ?_
  show W _ _ _ _ _ _
  obtain ⟨res1, hres2, h⟩ := bs h
  refine W.blockLoop (fun fq wq => ∃ s, res1 = Res.fin s ∧ fq 1 = Value.int .i64 s ∧ InR .i64 s ∧ St w wq []) ?_ ?_
  · refine W.forN (fun k (s : Int) fq wq => fq 0 = v_a ∧ fq 1 = Value.int .i64 s ∧ InR .i64 s ∧ fq 5 = Value.int .i64 (k : Int) ∧ InR .i64 (k : Int) ∧ St w wq []) hres2 ⟨rfl, rfl, r_k1, rfl, (inR_i64.2 (show (-9223372036854775808 : Int) ≤ 0 ∧ (0 : Int) ≤ 9223372036854775807 from by decide)), hS0⟩ ?_ ?_
    · intro k3 x4 ct5 f6 wd7 hk8 hb9 hI10 hbrk11 hret12
      replace hI10 : f6 0 = v_a ∧ f6 1 = Value.int .i64 x4 ∧ InR .i64 x4 ∧ f6 5 = Value.int .i64 (k3 : Int) ∧ InR .i64 (k3 : Int) ∧ St w wd7 [] := hI10
      replace hb9 : p_laws_heldInt64S_L1 a k3 x4 = some ct5 := hb9
      unfold p_laws_heldInt64S_L1 at hb9
      obtain ⟨hf13, hf14, hr15, hf16, hr17, hS18⟩ := hI10
      refine W.seq (W.seq (W.region ?_))
      refine WL.val (Value.int .i64 (k3 : Int)) _ (op_move hf16) rfl ?_
      refine WL.val v_a _ (op_move hf13) rfl ?_
      have hr19 := inR_len (Ty.lift _ hS18.ext r_a)
      refine WL.val (Value.int .i64 ((a).length : Int)) _ (op_lenL sl_25 (Ty.lift _ hS18.ext r_a) rfl) rfl ?_
      refine WL.val (Value.bool (decide ((k3 : Int) < ((a).length : Int)))) _ (op_lss rfl rfl) rfl ?_
      have hl20 : (k3 : Int) < ((a).length : Int) := by omega
      refine WL.nil ?_
      show W _ _ _ _ _ _
      refine W.condT (decide ((k3 : Int) < ((a).length : Int))) rfl (decide_eq_true hl20) ?_
      refine W.skip ?_
      show W _ _ _ _ _ _
      refine W.seq ?_
      refine W.block ?_
      refine W.seq (W.seq (W.region ?_))
      refine WL.val v_a _ (op_move hf13) rfl ?_
      refine WL.val (Value.int .i64 (k3 : Int)) _ (op_move hf16) rfl ?_
      obtain ⟨x22, hx25, hb9⟩ := bs hb9
      obtain ⟨ha23, hb24, hx25⟩ := idx_some hx25
      refine WL.val (Value.pointer (some (elA v_a ((k3 : Int)).toNat))) _ (op_idx sl_25 (Ty.lift _ hS18.ext r_a) rfl rfl ha23 hb24) rfl ?_
      obtain ⟨u26, hc27, hr28⟩ := repSl.el r_a hx25
      obtain ⟨rfl, hr28⟩ := hr28
      refine WL.val (Value.int .i64 x22) _ (op_load one_2 rfl (Ext.cell hS18.ext hc27)) rfl ?_
      refine WL.val (Value.int .i64 x4) _ (op_move hf14) rfl ?_
      refine WL.val (Value.bool (x22 != x4)) _ (op_neq rfl rfl) rfl ?_
      refine WL.nil ?_
      show W _ _ _ _ _ _
      refine W.cond (x22 != x4) rfl (fun hc29 => ?_) (fun hc29 => ?_)
      · replace hb9 := ip hb9 hc29
        refine W.seq (W.region ?_)
        refine WL.val (Value.int .i64 (-1 : Int)) _ (op_assign rfl) rfl ?_
        refine WL.nil ?_
        show W _ _ _ _ _ _
        refine W.ret ?_
        obtain rfl := Option.some.inj hb9
        obtain rfl := hret12 _ rfl
        replace h := onRes_ret h
        obtain rfl := Option.some.inj h
        show FinP _ _ _ _ _ _ _
        exact FinP.ret _ (res1 rfl rfl) ⟨rfl, (inR_i64.2 (show (-9223372036854775808 : Int) ≤ -1 ∧ (-1 : Int) ≤ 9223372036854775807 from by decide)), hS18.ext⟩
      · replace hb9 := inegb hb9 hc29
        refine W.skip ?_
        show W _ _ _ _ _ _
        refine W.region ?_
        refine WL.val (Value.int .i64 x4) _ (op_move hf14) rfl ?_
        refine WL.val (Value.int .i64 (w64 (x4 + (1 : Int)))) _ (op_add rfl rfl) rfl ?_
        refine WL.val (Value.int .i64 (w64 (x4 + (1 : Int)))) _ (op_assign rfl) rfl ?_
        refine WL.nil ?_
        show W _ _ _ _ _ _
        refine W.region ?_
        refine WL.val (Value.int .i64 (k3 : Int)) _ (op_move hf16) rfl ?_
        refine WL.val (Value.int .i64 (w64 ((k3 : Int) + (1 : Int)))) _ (op_add rfl rfl) rfl ?_
        refine WL.val (Value.int .i64 (w64 ((k3 : Int) + (1 : Int)))) _ (op_assign rfl) rfl ?_
        refine WL.nil ?_
        obtain rfl := Option.some.inj hb9
        show ∃ s, _ = Ctl.next s ∧ _
        exact ⟨_, rfl, hf13, rfl, (inR_wrap _ _), (ctr_next hl20 hr19), (ctr_rng hl20 hr19), hS18⟩
    · intro x37 f32 wd33 hs34 hI35
      replace hI35 : f32 0 = v_a ∧ f32 1 = Value.int .i64 x37 ∧ InR .i64 x37 ∧ f32 5 = Value.int .i64 (((a).length : Nat) : Int) ∧ InR .i64 (((a).length : Nat) : Int) ∧ St w wd33 [] := hI35
      obtain ⟨hf38, hf39, hr40, hf41, hr42, hS43⟩ := hI35
      refine W.seq (W.seq (W.region ?_))
      refine WL.val (Value.int .i64 (((a).length : Nat) : Int)) _ (op_move hf41) rfl ?_
      refine WL.val v_a _ (op_move hf38) rfl ?_
      have hr44 := inR_len (Ty.lift _ hS43.ext r_a)
      refine WL.val (Value.int .i64 ((a).length : Int)) _ (op_lenL sl_25 (Ty.lift _ hS43.ext r_a) rfl) rfl ?_
      refine WL.val (Value.bool (decide ((((a).length : Nat) : Int) < ((a).length : Int)))) _ (op_lss rfl rfl) rfl ?_
      have hl45 : ¬ (((a).length : Nat) : Int) < ((a).length : Int) := by omega
      refine WL.nil ?_
      show W _ _ _ _ _ _
      refine W.condF (decide ((((a).length : Nat) : Int) < ((a).length : Int))) rfl (decide_eq_false hl45) ?_
      refine W.exit ?_
      show _ = _ ∧ _
      exact ⟨rfl, _, hs34, hf39, hr40, hS43⟩
  · rintro f46 wd47 ⟨x50, rfl, hq48⟩
    replace h := onRes_fin h
    replace hq48 : f46 1 = Value.int .i64 x50 ∧ InR .i64 x50 ∧ St w wd47 [] := hq48
    obtain ⟨hf51, hr52, hS53⟩ := hq48
    show W _ _ _ _ _ _
    refine W.seq (W.region ?_)
    refine WL.val (Value.int .i64 x50) _ (op_move hf51) rfl ?_
    refine WL.val (Value.int .i64 x50) _ (op_assign rfl) rfl ?_
    refine WL.nil ?_
    show W _ _ _ _ _ _
    refine W.ret ?_
    obtain rfl := Option.some.inj h
    show FinP _ _ _ _ _ _ _
    exact FinP.ret _ (res1 rfl rfl) ⟨rfl, hr52, hS53.ext⟩

theorem c_spec_l15Handle {w : World} {r_Table : (List (List (List Int)))} {v_r_Table : Value} (r_r_Table : (Ty.sl (Ty.sl (Ty.sl (Ty.i .i64)))).rep w v_r_Table r_Table) {res : (List Int)} (h : p_spec_l15Handle r_Table  = some res) :
    Ret Try.prog 65 #[(Value.agg #[v_r_Table])] w (fun v w' => ∃ (u0 : Value), v = u0 ∧ Ext w w' ∧ Sep w.heap.size w' [(Ty.sl (Ty.i .i64)).at u0 res]) := by
  unfold p_spec_l15Handle at h
  have hS0 : St w w [] := St.start w
  refine Ret.start (fn := Try.f65) Try.func65 rfl 49 rfl rfl ?_
  refine W.seq (W.region ?_)
  refine WL.box hS0 rfl (cs := [v_r_Table]) rfl rfl ?_
  intro b1 wd2 hS3 he4 hx5
  replace hS3 : St w wd2 [bx b1 [v_r_Table]] := hS3
  have hx6 := St.boxAt hS3 0 rfl
  have hE7 : Ext w wd2 := hS3.ext
  have hS8 : St wd2 wd2 [] := St.start wd2
  refine WL.val (Value.slice none 0 0) _ (op_assign rfl) rfl ?_
  refine WL.nil ?_
  show W _ _ _ _ _ _
  refine W.seq ?_
  obtain ⟨x28, hx29, h⟩ := bs h
  obtain ⟨x73, hx74, h⟩ := bs h
  obtain ⟨ha75, hb76, hx77⟩ := mkL_some hx74
  refine W.drawR mixo 7 [] [fun _ v S w' => ∃ (uu0 : Value), v = (Value.agg #[uu0]) ∧ (Ty.sl (Ty.sl (Ty.sl (Ty.i .i64)))).rep w' uu0 r_Table, fun _ v S w' => SepS S w' [(Ty.sl (Ty.i .i64)).at v x28], fun _ v _ _ => v = (Value.pointer (some ⟨b1, 0, none⟩)), fun _ v _ _ => v = v_r_Table, fun _ v _ _ => v = (Value.int .i64 ((r_Table).length : Int)) ∧ InR .i64 ((r_Table).length : Int), fun _ v S w' => SepS S w' [(Ty.sl (Ty.i .i64)).at v x73], fun f v _ _ => v = f 8] (by kernel_rfl) (by kernel_rfl) ⟨⟨fun _ _ _ _ _ he ⟨uu0, h0, r0⟩ => ⟨uu0, h0, Ty.lift _ he r0⟩, fun _ _ _ _ _ _ h => h⟩, ⟨fun _ _ _ _ _ he h => SepS.extend he h, fun _ _ _ _ _ _ h => h⟩, ⟨fun _ _ _ _ _ _ h => h, fun _ _ _ _ _ _ h => h⟩, ⟨fun _ _ _ _ _ _ h => h, fun _ _ _ _ _ _ h => h⟩, ⟨fun _ _ _ _ _ _ h => h, fun _ _ _ _ _ _ h => h⟩, ⟨fun _ _ _ _ _ he h => SepS.extend he h, fun _ _ _ _ _ _ h => h⟩, ⟨fun _ _ _ _ _ _ h => h, fun _ _ _ _ _ hf h => h.trans (hf 1 8 rfl rfl)⟩, trivial⟩ ⟨?_, ?_, ?_, ?_, ?_, ?_, ?_, trivial⟩ ?_
  · refine ObX.op rfl ?_
    intro f9 wd10 he11 hout12 hphi13
    have hS14 : St wd2 wd10 [] := St.extend hS8 he11
    have e15 : f9 1 = (Value.pointer (some ⟨b1, 0, none⟩)) := (hout12 1 rfl).trans rfl
    exact OpX.val (Value.agg #[v_r_Table]) wd10 rfl (op_loadBox st_29 e15 (BoxAt.lift hS14.ext hx6) rfl rfl) (Ext.refl _) ⟨v_r_Table, rfl, (Ty.lift _ (Ext.trans hE7 hS14.ext) r_r_Table)⟩
  · refine ObX.op rfl ?_
    intro f16 wd17 he18 hout19 hphi20
    have hS21 : St wd2 wd17 [] := St.extend hS8 he18
    obtain ⟨S22, hS23, hf24⟩ := hphi20 0 7 _ rfl rfl rfl
    obtain ⟨u26, e25, hr27⟩ := hf24
    refine OpX.call rfl (op_call fn_93 (args1 e25)) (Ret.mono (c_spec_l03Duals hr27 hx29) ?_)
    rintro u30 wd31 ⟨_, rfl, he32, hs33⟩
    exact ⟨he32, _, newS _ _, (Sep.new hs33)⟩
  · refine ObX.op rfl ?_
    intro f34 wd35 he36 hout37 hphi38
    have hS39 : St wd2 wd35 [] := St.extend hS8 he36
    have e40 : f34 1 = (Value.pointer (some ⟨b1, 0, none⟩)) := (hout37 1 rfl).trans rfl
    exact OpX.val (Value.pointer (some ⟨b1, 0, none⟩)) wd35 rfl (op_fieldAddr fd_29_0 e40) (Ext.refl _) rfl
  · refine ObX.op rfl ?_
    intro f41 wd42 he43 hout44 hphi45
    have hS46 : St wd2 wd42 [] := St.extend hS8 he43
    obtain ⟨S47, hS48, hf49⟩ := hphi45 2 9 _ rfl rfl rfl
    have e50 : f41 9 = (Value.pointer (some ⟨b1, 0, none⟩)) := hf49
    exact OpX.val v_r_Table wd42 rfl (op_load one_22 e50 (BoxAt.cell (BoxAt.lift hS46.ext hx6) rfl)) (Ext.refl _) rfl
  · refine ObX.op rfl ?_
    intro f51 wd52 he53 hout54 hphi55
    have hS56 : St wd2 wd52 [] := St.extend hS8 he53
    obtain ⟨S57, hS58, hf59⟩ := hphi55 3 10 _ rfl rfl rfl
    have e60 : f51 10 = v_r_Table := hf59
    have hr61 := inR_len (Ty.lift _ (Ext.trans hE7 hS56.ext) r_r_Table)
    exact OpX.val (Value.int .i64 ((r_Table).length : Int)) wd52 rfl (op_lenL sl_22 (Ty.lift _ (Ext.trans hE7 hS56.ext) r_r_Table) e60) (Ext.refl _) ⟨rfl, hr61⟩
  · refine ObX.op rfl ?_
    intro f62 wd63 he64 hout65 hphi66
    have hS67 : St wd2 wd63 [] := St.extend hS8 he64
    obtain ⟨S68, hS69, hf70⟩ := hphi66 4 11 _ rfl rfl rfl
    obtain ⟨e71, hr72⟩ : f62 11 = (Value.int .i64 ((r_Table).length : Int)) ∧ InR .i64 ((r_Table).length : Int) := hf70
    obtain ⟨v78, wd79, ho80, he81, hs82⟩ := mk_make (P := Try.prog) (w := wd63) (T := 25) (t := (Ty.i .i64)) sl_25 (fun _ _ => ⟨rfl, (inR_i64.2 (show (-9223372036854775808 : Int) ≤ 0 ∧ (0 : Int) ≤ 9223372036854775807 from by decide))⟩) rfl (show ev f62 (Operand.tmp 11) = _ from e71) ha75 hb76 (by decide)
    rw [← hx77] at hs82
    exact OpX.valO v78 wd79 rfl ho80 he81 (Sep.new hs82)
  · refine ObX.op rfl ?_
    intro f83 wd84 he85 hout86 hphi87
    have hS88 : St wd2 wd84 [] := St.extend hS8 he85
    obtain ⟨S89, hS90, hf91⟩ := hphi87 1 8 _ rfl rfl rfl
    have e92 : SepS S89 wd84 [(Ty.sl (Ty.i .i64)).at (f83 8) x28] := hf91
    exact OpX.val (f83 8) wd84 rfl (op_assign rfl) (Ext.refl _) rfl
  · intro f93 wd94 Ss95 he96 hout97 hSn98 hSd99 hphi100
    show WL _ _ _ _ _ _ _
    have hS101 : St wd2 wd94 [] := St.extend hS8 he96
    have e102 : SepS (Ss95 1) wd94 [(Ty.sl (Ty.i .i64)).at (f93 8) x28] := hphi100 1 8 _ (by decide) rfl rfl
    have e103 : SepS (Ss95 5) wd94 [(Ty.sl (Ty.i .i64)).at (f93 12) x73] := hphi100 5 12 _ (by decide) rfl rfl
    have e104 : f93 3 = (f93 8) := (hphi100 6 3 _ (by decide) rfl rfl)
    have e105 : f93 1 = (Value.pointer (some ⟨b1, 0, none⟩)) := (hout97 1 rfl).trans rfl
    have hS106 := St.joinS hS8 he96 hSn98 (SepS.consS hSd99 rfl e102 (SepS.consS hSd99 rfl e103 SepS.nilS))
    replace hS106 : St wd2 wd94 [(Ty.sl (Ty.i .i64)).at (f93 8) x28, (Ty.sl (Ty.i .i64)).at (f93 12) x73] := hS106
    refine WL.val (f93 12) _ (op_assign rfl) rfl ?_
    refine WL.nil ?_
    show W _ _ _ _ _ _
    refine W.seq (W.seq (W.region ?_))
    refine WL.val (Value.int .i64 (0 : Int)) _ (op_assign rfl) rfl ?_
    refine WL.nil ?_
    show W _ _ _ _ _ _
    obtain ⟨res107, hres108, h⟩ := bs h
    refine W.blockLoop (fun fq wq => ∃ s, res107 = Res.fin s ∧ fq 4 = (f93 12) ∧ St wd2 wq [(Ty.sl (Ty.i .i64)).at (f93 12) s]) ?_ ?_
    · refine W.forN (fun k (s : (List Int)) fq wq => fq 1 = (Value.pointer (some ⟨b1, 0, none⟩)) ∧ fq 3 = (f93 8) ∧ fq 4 = (f93 12) ∧ fq 5 = Value.int .i64 (k : Int) ∧ InR .i64 (k : Int) ∧ St wd2 wq [(Ty.sl (Ty.i .i64)).at (f93 8) x28, (Ty.sl (Ty.i .i64)).at (f93 12) s]) hres108 ⟨e105, e104, rfl, rfl, (inR_i64.2 (show (-9223372036854775808 : Int) ≤ 0 ∧ (0 : Int) ≤ 9223372036854775807 from by decide)), hS106⟩ ?_ ?_
      · intro k109 x110 ct111 f112 wd113 hk114 hb115 hI116 hbrk117 hret118
        replace hI116 : f112 1 = (Value.pointer (some ⟨b1, 0, none⟩)) ∧ f112 3 = (f93 8) ∧ f112 4 = (f93 12) ∧ f112 5 = Value.int .i64 (k109 : Int) ∧ InR .i64 (k109 : Int) ∧ St wd2 wd113 [(Ty.sl (Ty.i .i64)).at (f93 8) x28, (Ty.sl (Ty.i .i64)).at (f93 12) x110] := hI116
        replace hb115 : p_spec_l15Handle_L1 r_Table x28 k109 x110 = some ct111 := hb115
        unfold p_spec_l15Handle_L1 at hb115
        obtain ⟨hf119, hf120, hf121, hf122, hr123, hS124⟩ := hI116
        refine W.seq (W.seq (W.region ?_))
        refine WL.val (Value.int .i64 (k109 : Int)) _ (op_move hf122) rfl ?_
        refine WL.val (Value.pointer (some ⟨b1, 0, none⟩)) _ (op_fieldAddr fd_29_0 hf119) rfl ?_
        refine WL.val v_r_Table _ (op_load one_22 rfl (BoxAt.cell (BoxAt.lift hS124.ext hx6) rfl)) rfl ?_
        have hr125 := inR_len (Ty.lift _ (Ext.trans hE7 hS124.ext) r_r_Table)
        refine WL.val (Value.int .i64 ((r_Table).length : Int)) _ (op_lenL sl_22 (Ty.lift _ (Ext.trans hE7 hS124.ext) r_r_Table) rfl) rfl ?_
        refine WL.val (Value.bool (decide ((k109 : Int) < ((r_Table).length : Int)))) _ (op_lss rfl rfl) rfl ?_
        have hl126 : (k109 : Int) < ((r_Table).length : Int) := by omega
        refine WL.nil ?_
        show W _ _ _ _ _ _
        refine W.condT (decide ((k109 : Int) < ((r_Table).length : Int))) rfl (decide_eq_true hl126) ?_
        refine W.skip ?_
        show W _ _ _ _ _ _
        refine W.seq ?_
        refine W.block ?_
        refine W.seq (W.region ?_)
        refine WL.val (Value.int .i64 (0 : Int)) _ (op_assign rfl) rfl ?_
        refine WL.nil ?_
        show W _ _ _ _ _ _
        obtain ⟨res128, hres129, hb115⟩ := bs hb115
        refine W.blockLoop (fun fq wq => ∃ s, res128 = Res.fin s ∧ fq 1 = (Value.pointer (some ⟨b1, 0, none⟩)) ∧ fq 3 = (f93 8) ∧ fq 4 = (f93 12) ∧ fq 5 = (Value.int .i64 (k109 : Int)) ∧ (s).length = (x110).length ∧ St wd2 wq [(Ty.sl (Ty.i .i64)).at (f93 8) x28, (Ty.sl (Ty.i .i64)).at (f93 12) s]) ?_ ?_
        · refine W.forN (fun k (s : (List Int)) fq wq => fq 1 = (Value.pointer (some ⟨b1, 0, none⟩)) ∧ fq 3 = (f93 8) ∧ fq 4 = (f93 12) ∧ fq 5 = (Value.int .i64 (k109 : Int)) ∧ fq 6 = Value.int .i64 (k : Int) ∧ InR .i64 (k : Int) ∧ (s).length = (x110).length ∧ St wd2 wq [(Ty.sl (Ty.i .i64)).at (f93 8) x28, (Ty.sl (Ty.i .i64)).at (f93 12) s]) hres129 ⟨hf119, hf120, hf121, hf122, rfl, (inR_i64.2 (show (-9223372036854775808 : Int) ≤ 0 ∧ (0 : Int) ≤ 9223372036854775807 from by decide)), rfl, hS124⟩ ?_ ?_
          · intro k130 x131 ct132 f133 wd134 hk135 hb136 hI137 hbrk138 hret139
            replace hI137 : f133 1 = (Value.pointer (some ⟨b1, 0, none⟩)) ∧ f133 3 = (f93 8) ∧ f133 4 = (f93 12) ∧ f133 5 = (Value.int .i64 (k109 : Int)) ∧ f133 6 = Value.int .i64 (k130 : Int) ∧ InR .i64 (k130 : Int) ∧ (x131).length = (x110).length ∧ St wd2 wd134 [(Ty.sl (Ty.i .i64)).at (f93 8) x28, (Ty.sl (Ty.i .i64)).at (f93 12) x131] := hI137
            replace hb136 : p_spec_l15Handle_L2 r_Table k109 x28 k130 x131 = some ct132 := hb136
            unfold p_spec_l15Handle_L2 at hb136
            obtain ⟨hf140, hf141, hf142, hf143, hf144, hr145, hL146, hS147⟩ := hI137
            refine W.seq (W.seq (W.region ?_))
            refine WL.val (Value.int .i64 (k130 : Int)) _ (op_move hf144) rfl ?_
            refine WL.val (f93 12) _ (op_move hf142) rfl ?_
            have hr148 := inR_len (St.rep (t := (Ty.sl (Ty.i .i64))) hS147 1 rfl)
            refine WL.val (Value.int .i64 ((x131).length : Int)) _ (op_lenL sl_25 (St.rep (t := (Ty.sl (Ty.i .i64))) hS147 1 rfl) rfl) rfl ?_
            refine WL.val (Value.bool (decide ((k130 : Int) < ((x131).length : Int)))) _ (op_lss rfl rfl) rfl ?_
            have hl149 : (k130 : Int) < ((x131).length : Int) := by omega
            refine WL.nil ?_
            show W _ _ _ _ _ _
            refine W.condT (decide ((k130 : Int) < ((x131).length : Int))) rfl (decide_eq_true hl149) ?_
            refine W.skip ?_
            show W _ _ _ _ _ _
            refine W.seq ?_
            refine W.block ?_
            obtain ⟨x194, hx197, hb136⟩ := bs hb136
            obtain ⟨ha195, hb196, hx197⟩ := idx_some hx197
            obtain ⟨u208, hc209, hr210⟩ := repSl.el (St.rep (t := (Ty.sl (Ty.i .i64))) hS147 1 rfl) hx197
            obtain ⟨rfl, hr210⟩ := hr210
            obtain ⟨x250, hx253, hb136⟩ := bs hb136
            obtain ⟨ha251, hb252, hx253⟩ := idx_some hx253
            obtain ⟨u264, hc265, hr266⟩ := repSl.el r_r_Table hx253
            obtain ⟨x296, hx299, hb136⟩ := bs hb136
            obtain ⟨ha297, hb298, hx299⟩ := idx_some hx299
            obtain ⟨u310, hc311, hr312⟩ := repSl.el (St.rep (t := (Ty.sl (Ty.i .i64))) hS147 0 rfl) hx299
            obtain ⟨rfl, hr312⟩ := hr312
            obtain ⟨x328, hx331, hb136⟩ := bs hb136
            obtain ⟨ha329, hb330, hx331⟩ := idx_some hx331
            obtain ⟨u342, hc343, hr344⟩ := repSl.el hr266 hx331
            obtain ⟨x367, hx370, hb136⟩ := bs hb136
            obtain ⟨ha368, hb369, hx370⟩ := idx_some hx370
            obtain ⟨u381, hc382, hr383⟩ := repSl.el hr344 hx370
            obtain ⟨rfl, hr383⟩ := hr383
            refine W.drawR mixo 21 [] [fun _ v _ _ => v = (f93 12), fun _ v _ _ => v = (Value.int .i64 (k130 : Int)) ∧ InR .i64 (k130 : Int), fun _ v _ _ => v = (f93 12), fun _ v _ _ => v = (Value.int .i64 (k130 : Int)) ∧ InR .i64 (k130 : Int), fun _ v _ _ => v = (Value.pointer (some (elA (f93 12) ((k130 : Int)).toNat))), fun _ v _ _ => v = (Value.int .i64 x194) ∧ InR .i64 x194, fun _ v _ _ => v = (Value.pointer (some ⟨b1, 0, none⟩)), fun _ v _ _ => v = v_r_Table, fun _ v _ _ => v = (Value.int .i64 (k109 : Int)) ∧ InR .i64 (k109 : Int), fun _ v _ _ => v = (Value.pointer (some (elA v_r_Table ((k109 : Int)).toNat))), fun _ v _ _ => v = u264, fun _ v _ _ => v = (f93 8), fun _ v _ _ => v = (Value.int .i64 (k109 : Int)) ∧ InR .i64 (k109 : Int), fun _ v _ _ => v = (Value.pointer (some (elA (f93 8) ((k109 : Int)).toNat))), fun _ v _ _ => v = (Value.int .i64 x296) ∧ InR .i64 x296, fun _ v _ _ => v = (Value.pointer (some (elA u264 (x296).toNat))), fun _ v _ _ => v = u342, fun _ v _ _ => v = (Value.int .i64 (k130 : Int)) ∧ InR .i64 (k130 : Int), fun _ v _ _ => v = (Value.pointer (some (elA u342 ((k130 : Int)).toNat))), fun _ v _ _ => v = (Value.int .i64 x367) ∧ InR .i64 x367, fun _ v _ _ => v = (Value.int .i64 (w64 (x194 + x367))) ∧ InR .i64 (w64 (x194 + x367))] (by kernel_rfl) (by kernel_rfl) ⟨⟨fun _ _ _ _ _ _ h => h, fun _ _ _ _ _ _ h => h⟩, ⟨fun _ _ _ _ _ _ h => h, fun _ _ _ _ _ _ h => h⟩, ⟨fun _ _ _ _ _ _ h => h, fun _ _ _ _ _ _ h => h⟩, ⟨fun _ _ _ _ _ _ h => h, fun _ _ _ _ _ _ h => h⟩, ⟨fun _ _ _ _ _ _ h => h, fun _ _ _ _ _ _ h => h⟩, ⟨fun _ _ _ _ _ _ h => h, fun _ _ _ _ _ _ h => h⟩, ⟨fun _ _ _ _ _ _ h => h, fun _ _ _ _ _ _ h => h⟩, ⟨fun _ _ _ _ _ _ h => h, fun _ _ _ _ _ _ h => h⟩, ⟨fun _ _ _ _ _ _ h => h, fun _ _ _ _ _ _ h => h⟩, ⟨fun _ _ _ _ _ _ h => h, fun _ _ _ _ _ _ h => h⟩, ⟨fun _ _ _ _ _ _ h => h, fun _ _ _ _ _ _ h => h⟩, ⟨fun _ _ _ _ _ _ h => h, fun _ _ _ _ _ _ h => h⟩, ⟨fun _ _ _ _ _ _ h => h, fun _ _ _ _ _ _ h => h⟩, ⟨fun _ _ _ _ _ _ h => h, fun _ _ _ _ _ _ h => h⟩, ⟨fun _ _ _ _ _ _ h => h, fun _ _ _ _ _ _ h => h⟩, ⟨fun _ _ _ _ _ _ h => h, fun _ _ _ _ _ _ h => h⟩, ⟨fun _ _ _ _ _ _ h => h, fun _ _ _ _ _ _ h => h⟩, ⟨fun _ _ _ _ _ _ h => h, fun _ _ _ _ _ _ h => h⟩, ⟨fun _ _ _ _ _ _ h => h, fun _ _ _ _ _ _ h => h⟩, ⟨fun _ _ _ _ _ _ h => h, fun _ _ _ _ _ _ h => h⟩, ⟨fun _ _ _ _ _ _ h => h, fun _ _ _ _ _ _ h => h⟩, trivial⟩ ⟨?_, ?_, ?_, ?_, ?_, ?_, ?_, ?_, ?_, ?_, ?_, ?_, ?_, ?_, ?_, ?_, ?_, ?_, ?_, ?_, ?_, trivial⟩ ?_
            · refine ObX.op rfl ?_
              intro f151 wd152 he153 hout154 hphi155
              have hS156 : St wd2 wd152 [(Ty.sl (Ty.i .i64)).at (f93 8) x28, (Ty.sl (Ty.i .i64)).at (f93 12) x131] := St.extend hS147 he153
              have e157 : f151 4 = (f93 12) := (hout154 4 rfl).trans hf142
              exact OpX.val (f93 12) wd152 rfl (op_move e157) (Ext.refl _) rfl
            · refine ObX.op rfl ?_
              intro f158 wd159 he160 hout161 hphi162
              have hS163 : St wd2 wd159 [(Ty.sl (Ty.i .i64)).at (f93 8) x28, (Ty.sl (Ty.i .i64)).at (f93 12) x131] := St.extend hS147 he160
              have e164 : f158 6 = (Value.int .i64 (k130 : Int)) := (hout161 6 rfl).trans hf144
              exact OpX.val (Value.int .i64 (k130 : Int)) wd159 rfl (op_move e164) (Ext.refl _) ⟨rfl, hr145⟩
            · refine ObX.op rfl ?_
              intro f165 wd166 he167 hout168 hphi169
              have hS170 : St wd2 wd166 [(Ty.sl (Ty.i .i64)).at (f93 8) x28, (Ty.sl (Ty.i .i64)).at (f93 12) x131] := St.extend hS147 he167
              have e171 : f165 4 = (f93 12) := (hout168 4 rfl).trans hf142
              exact OpX.val (f93 12) wd166 rfl (op_move e171) (Ext.refl _) rfl
            · refine ObX.op rfl ?_
              intro f172 wd173 he174 hout175 hphi176
              have hS177 : St wd2 wd173 [(Ty.sl (Ty.i .i64)).at (f93 8) x28, (Ty.sl (Ty.i .i64)).at (f93 12) x131] := St.extend hS147 he174
              have e178 : f172 6 = (Value.int .i64 (k130 : Int)) := (hout175 6 rfl).trans hf144
              exact OpX.val (Value.int .i64 (k130 : Int)) wd173 rfl (op_move e178) (Ext.refl _) ⟨rfl, hr145⟩
            · refine ObX.op rfl ?_
              intro f179 wd180 he181 hout182 hphi183
              have hS184 : St wd2 wd180 [(Ty.sl (Ty.i .i64)).at (f93 8) x28, (Ty.sl (Ty.i .i64)).at (f93 12) x131] := St.extend hS147 he181
              obtain ⟨S185, hS186, hf187⟩ := hphi183 2 28 _ rfl rfl rfl
              have e188 : f179 28 = (f93 12) := hf187
              obtain ⟨S189, hS190, hf191⟩ := hphi183 3 29 _ rfl rfl rfl
              obtain ⟨e192, hr193⟩ : f179 29 = (Value.int .i64 (k130 : Int)) ∧ InR .i64 (k130 : Int) := hf191
              exact OpX.val (Value.pointer (some (elA (f93 12) ((k130 : Int)).toNat))) wd180 rfl (op_idx sl_25 (St.rep (t := (Ty.sl (Ty.i .i64))) hS184 1 rfl) e188 e192 ha195 hb196) (Ext.refl _) rfl
            · refine ObX.op rfl ?_
              intro f198 wd199 he200 hout201 hphi202
              have hS203 : St wd2 wd199 [(Ty.sl (Ty.i .i64)).at (f93 8) x28, (Ty.sl (Ty.i .i64)).at (f93 12) x131] := St.extend hS147 he200
              obtain ⟨S204, hS205, hf206⟩ := hphi202 4 30 _ rfl rfl rfl
              have e207 : f198 30 = (Value.pointer (some (elA (f93 12) ((k130 : Int)).toNat))) := hf206
              exact OpX.val (Value.int .i64 x194) wd199 rfl (op_load one_2 e207 (Ext.cell he200 hc209)) (Ext.refl _) ⟨rfl, hr210⟩
            · refine ObX.op rfl ?_
              intro f211 wd212 he213 hout214 hphi215
              have hS216 : St wd2 wd212 [(Ty.sl (Ty.i .i64)).at (f93 8) x28, (Ty.sl (Ty.i .i64)).at (f93 12) x131] := St.extend hS147 he213
              have e217 : f211 1 = (Value.pointer (some ⟨b1, 0, none⟩)) := (hout214 1 rfl).trans hf140
              exact OpX.val (Value.pointer (some ⟨b1, 0, none⟩)) wd212 rfl (op_fieldAddr fd_29_0 e217) (Ext.refl _) rfl
            · refine ObX.op rfl ?_
              intro f218 wd219 he220 hout221 hphi222
              have hS223 : St wd2 wd219 [(Ty.sl (Ty.i .i64)).at (f93 8) x28, (Ty.sl (Ty.i .i64)).at (f93 12) x131] := St.extend hS147 he220
              obtain ⟨S224, hS225, hf226⟩ := hphi222 6 32 _ rfl rfl rfl
              have e227 : f218 32 = (Value.pointer (some ⟨b1, 0, none⟩)) := hf226
              exact OpX.val v_r_Table wd219 rfl (op_load one_22 e227 (BoxAt.cell (BoxAt.lift hS223.ext hx6) rfl)) (Ext.refl _) rfl
            · refine ObX.op rfl ?_
              intro f228 wd229 he230 hout231 hphi232
              have hS233 : St wd2 wd229 [(Ty.sl (Ty.i .i64)).at (f93 8) x28, (Ty.sl (Ty.i .i64)).at (f93 12) x131] := St.extend hS147 he230
              have e234 : f228 5 = (Value.int .i64 (k109 : Int)) := (hout231 5 rfl).trans hf143
              exact OpX.val (Value.int .i64 (k109 : Int)) wd229 rfl (op_move e234) (Ext.refl _) ⟨rfl, hr123⟩
            · refine ObX.op rfl ?_
              intro f235 wd236 he237 hout238 hphi239
              have hS240 : St wd2 wd236 [(Ty.sl (Ty.i .i64)).at (f93 8) x28, (Ty.sl (Ty.i .i64)).at (f93 12) x131] := St.extend hS147 he237
              obtain ⟨S241, hS242, hf243⟩ := hphi239 7 33 _ rfl rfl rfl
              have e244 : f235 33 = v_r_Table := hf243
              obtain ⟨S245, hS246, hf247⟩ := hphi239 8 34 _ rfl rfl rfl
              obtain ⟨e248, hr249⟩ : f235 34 = (Value.int .i64 (k109 : Int)) ∧ InR .i64 (k109 : Int) := hf247
              exact OpX.val (Value.pointer (some (elA v_r_Table ((k109 : Int)).toNat))) wd236 rfl (op_idx sl_22 (Ty.lift _ (Ext.trans hE7 hS240.ext) r_r_Table) e244 e248 ha251 hb252) (Ext.refl _) rfl
            · refine ObX.op rfl ?_
              intro f254 wd255 he256 hout257 hphi258
              have hS259 : St wd2 wd255 [(Ty.sl (Ty.i .i64)).at (f93 8) x28, (Ty.sl (Ty.i .i64)).at (f93 12) x131] := St.extend hS147 he256
              obtain ⟨S260, hS261, hf262⟩ := hphi258 9 35 _ rfl rfl rfl
              have e263 : f254 35 = (Value.pointer (some (elA v_r_Table ((k109 : Int)).toNat))) := hf262
              exact OpX.val u264 wd255 rfl (op_load one_65 e263 (Ext.cell (Ext.trans hE7 hS259.ext) hc265)) (Ext.refl _) rfl
            · refine ObX.op rfl ?_
              intro f267 wd268 he269 hout270 hphi271
              have hS272 : St wd2 wd268 [(Ty.sl (Ty.i .i64)).at (f93 8) x28, (Ty.sl (Ty.i .i64)).at (f93 12) x131] := St.extend hS147 he269
              have e273 : f267 3 = (f93 8) := (hout270 3 rfl).trans hf141
              exact OpX.val (f93 8) wd268 rfl (op_move e273) (Ext.refl _) rfl
            · refine ObX.op rfl ?_
              intro f274 wd275 he276 hout277 hphi278
              have hS279 : St wd2 wd275 [(Ty.sl (Ty.i .i64)).at (f93 8) x28, (Ty.sl (Ty.i .i64)).at (f93 12) x131] := St.extend hS147 he276
              have e280 : f274 5 = (Value.int .i64 (k109 : Int)) := (hout277 5 rfl).trans hf143
              exact OpX.val (Value.int .i64 (k109 : Int)) wd275 rfl (op_move e280) (Ext.refl _) ⟨rfl, hr123⟩
            · refine ObX.op rfl ?_
              intro f281 wd282 he283 hout284 hphi285
              have hS286 : St wd2 wd282 [(Ty.sl (Ty.i .i64)).at (f93 8) x28, (Ty.sl (Ty.i .i64)).at (f93 12) x131] := St.extend hS147 he283
              obtain ⟨S287, hS288, hf289⟩ := hphi285 11 37 _ rfl rfl rfl
              have e290 : f281 37 = (f93 8) := hf289
              obtain ⟨S291, hS292, hf293⟩ := hphi285 12 38 _ rfl rfl rfl
              obtain ⟨e294, hr295⟩ : f281 38 = (Value.int .i64 (k109 : Int)) ∧ InR .i64 (k109 : Int) := hf293
              exact OpX.val (Value.pointer (some (elA (f93 8) ((k109 : Int)).toNat))) wd282 rfl (op_idx sl_25 (St.rep (t := (Ty.sl (Ty.i .i64))) hS286 0 rfl) e290 e294 ha297 hb298) (Ext.refl _) rfl
            · refine ObX.op rfl ?_
              intro f300 wd301 he302 hout303 hphi304
              have hS305 : St wd2 wd301 [(Ty.sl (Ty.i .i64)).at (f93 8) x28, (Ty.sl (Ty.i .i64)).at (f93 12) x131] := St.extend hS147 he302
              obtain ⟨S306, hS307, hf308⟩ := hphi304 13 39 _ rfl rfl rfl
              have e309 : f300 39 = (Value.pointer (some (elA (f93 8) ((k109 : Int)).toNat))) := hf308
              exact OpX.val (Value.int .i64 x296) wd301 rfl (op_load one_2 e309 (Ext.cell he302 hc311)) (Ext.refl _) ⟨rfl, hr312⟩
            · refine ObX.op rfl ?_
              intro f313 wd314 he315 hout316 hphi317
              have hS318 : St wd2 wd314 [(Ty.sl (Ty.i .i64)).at (f93 8) x28, (Ty.sl (Ty.i .i64)).at (f93 12) x131] := St.extend hS147 he315
              obtain ⟨S319, hS320, hf321⟩ := hphi317 10 36 _ rfl rfl rfl
              have e322 : f313 36 = u264 := hf321
              obtain ⟨S323, hS324, hf325⟩ := hphi317 14 40 _ rfl rfl rfl
              obtain ⟨e326, hr327⟩ : f313 40 = (Value.int .i64 x296) ∧ InR .i64 x296 := hf325
              exact OpX.val (Value.pointer (some (elA u264 (x296).toNat))) wd314 rfl (op_idx sl_65 (Ty.lift _ (Ext.trans hE7 hS318.ext) hr266) e322 e326 ha329 hb330) (Ext.refl _) rfl
            · refine ObX.op rfl ?_
              intro f332 wd333 he334 hout335 hphi336
              have hS337 : St wd2 wd333 [(Ty.sl (Ty.i .i64)).at (f93 8) x28, (Ty.sl (Ty.i .i64)).at (f93 12) x131] := St.extend hS147 he334
              obtain ⟨S338, hS339, hf340⟩ := hphi336 15 41 _ rfl rfl rfl
              have e341 : f332 41 = (Value.pointer (some (elA u264 (x296).toNat))) := hf340
              exact OpX.val u342 wd333 rfl (op_load one_25 e341 (Ext.cell (Ext.trans hE7 hS337.ext) hc343)) (Ext.refl _) rfl
            · refine ObX.op rfl ?_
              intro f345 wd346 he347 hout348 hphi349
              have hS350 : St wd2 wd346 [(Ty.sl (Ty.i .i64)).at (f93 8) x28, (Ty.sl (Ty.i .i64)).at (f93 12) x131] := St.extend hS147 he347
              have e351 : f345 6 = (Value.int .i64 (k130 : Int)) := (hout348 6 rfl).trans hf144
              exact OpX.val (Value.int .i64 (k130 : Int)) wd346 rfl (op_move e351) (Ext.refl _) ⟨rfl, hr145⟩
            · refine ObX.op rfl ?_
              intro f352 wd353 he354 hout355 hphi356
              have hS357 : St wd2 wd353 [(Ty.sl (Ty.i .i64)).at (f93 8) x28, (Ty.sl (Ty.i .i64)).at (f93 12) x131] := St.extend hS147 he354
              obtain ⟨S358, hS359, hf360⟩ := hphi356 16 42 _ rfl rfl rfl
              have e361 : f352 42 = u342 := hf360
              obtain ⟨S362, hS363, hf364⟩ := hphi356 17 43 _ rfl rfl rfl
              obtain ⟨e365, hr366⟩ : f352 43 = (Value.int .i64 (k130 : Int)) ∧ InR .i64 (k130 : Int) := hf364
              exact OpX.val (Value.pointer (some (elA u342 ((k130 : Int)).toNat))) wd353 rfl (op_idx sl_25 (Ty.lift _ (Ext.trans hE7 hS357.ext) hr344) e361 e365 ha368 hb369) (Ext.refl _) rfl
            · refine ObX.op rfl ?_
              intro f371 wd372 he373 hout374 hphi375
              have hS376 : St wd2 wd372 [(Ty.sl (Ty.i .i64)).at (f93 8) x28, (Ty.sl (Ty.i .i64)).at (f93 12) x131] := St.extend hS147 he373
              obtain ⟨S377, hS378, hf379⟩ := hphi375 18 44 _ rfl rfl rfl
              have e380 : f371 44 = (Value.pointer (some (elA u342 ((k130 : Int)).toNat))) := hf379
              exact OpX.val (Value.int .i64 x367) wd372 rfl (op_load one_2 e380 (Ext.cell (Ext.trans hE7 hS376.ext) hc382)) (Ext.refl _) ⟨rfl, hr383⟩
            · refine ObX.op rfl ?_
              intro f384 wd385 he386 hout387 hphi388
              have hS389 : St wd2 wd385 [(Ty.sl (Ty.i .i64)).at (f93 8) x28, (Ty.sl (Ty.i .i64)).at (f93 12) x131] := St.extend hS147 he386
              obtain ⟨S390, hS391, hf392⟩ := hphi388 5 31 _ rfl rfl rfl
              obtain ⟨e393, hr394⟩ : f384 31 = (Value.int .i64 x194) ∧ InR .i64 x194 := hf392
              obtain ⟨S395, hS396, hf397⟩ := hphi388 19 45 _ rfl rfl rfl
              obtain ⟨e398, hr399⟩ : f384 45 = (Value.int .i64 x367) ∧ InR .i64 x367 := hf397
              exact OpX.val (Value.int .i64 (w64 (x194 + x367))) wd385 rfl (op_add e393 e398) (Ext.refl _) ⟨rfl, (inR_wrap _ _)⟩
            · intro f400 wd401 Ss402 he403 hout404 hSn405 hSd406 hphi407
              show WL _ _ _ _ _ _ _
              have hS408 : St wd2 wd401 [(Ty.sl (Ty.i .i64)).at (f93 8) x28, (Ty.sl (Ty.i .i64)).at (f93 12) x131] := St.extend hS147 he403
              have e409 : f400 26 = (f93 12) := hphi407 0 26 _ (by decide) rfl rfl
              obtain ⟨e410, hr411⟩ : f400 27 = (Value.int .i64 (k130 : Int)) ∧ InR .i64 (k130 : Int) := hphi407 1 27 _ (by decide) rfl rfl
              obtain ⟨e412, hr413⟩ : f400 46 = (Value.int .i64 (w64 (x194 + x367))) ∧ InR .i64 (w64 (x194 + x367)) := hphi407 20 46 _ (by decide) rfl rfl
              have e414 : f400 1 = (Value.pointer (some ⟨b1, 0, none⟩)) := (hout404 1 rfl).trans hf140
              have e415 : f400 3 = (f93 8) := (hout404 3 rfl).trans hf141
              have e416 : f400 4 = (f93 12) := (hout404 4 rfl).trans hf142
              have e417 : f400 5 = (Value.int .i64 (k109 : Int)) := (hout404 5 rfl).trans hf143
              have e418 : f400 6 = (Value.int .i64 (k130 : Int)) := (hout404 6 rfl).trans hf144
              refine WL.val (Value.pointer (some (elA (f93 12) ((k130 : Int)).toNat))) _ (op_idx sl_25 (St.rep (t := (Ty.sl (Ty.i .i64))) hS408 1 rfl) e409 e410 ha195 hb196) rfl ?_
              refine WL.storeEl (flat_i .i64) hS408 (k := 1) rfl sz_2 rfl e412 (lt_of_idx ha195 hb196) ⟨rfl, hr413⟩ ?_
              intro wd419 hS420
              replace hS420 : St wd2 wd419 [(Ty.sl (Ty.i .i64)).at (f93 8) x28, (Ty.sl (Ty.i .i64)).at (f93 12) ((x131).set ((k130 : Int)).toNat (w64 (x194 + x367)))] := hS420
              refine WL.nil ?_
              show W _ _ _ _ _ _
              refine W.region ?_
              refine WL.val (Value.int .i64 (k130 : Int)) _ (op_move e418) rfl ?_
              refine WL.val (Value.int .i64 (w64 ((k130 : Int) + (1 : Int)))) _ (op_add rfl rfl) rfl ?_
              refine WL.val (Value.int .i64 (w64 ((k130 : Int) + (1 : Int)))) _ (op_assign rfl) rfl ?_
              refine WL.nil ?_
              obtain rfl := Option.some.inj hb136
              show ∃ s, _ = Ctl.next s ∧ _
              exact ⟨_, rfl, e414, e415, e416, e417, (ctr_next hl149 hr148), (ctr_rng hl149 hr148), (by first | exact hL146 | (simp only [List.length_set]; exact hL146)), hS420⟩
          · intro x427 f422 wd423 hs424 hI425
            replace hI425 : f422 1 = (Value.pointer (some ⟨b1, 0, none⟩)) ∧ f422 3 = (f93 8) ∧ f422 4 = (f93 12) ∧ f422 5 = (Value.int .i64 (k109 : Int)) ∧ f422 6 = Value.int .i64 (((x110).length : Nat) : Int) ∧ InR .i64 (((x110).length : Nat) : Int) ∧ (x427).length = (x110).length ∧ St wd2 wd423 [(Ty.sl (Ty.i .i64)).at (f93 8) x28, (Ty.sl (Ty.i .i64)).at (f93 12) x427] := hI425
            obtain ⟨hf428, hf429, hf430, hf431, hf432, hr433, hL434, hS435⟩ := hI425
            refine W.seq (W.seq (W.region ?_))
            refine WL.val (Value.int .i64 (((x110).length : Nat) : Int)) _ (op_move hf432) rfl ?_
            refine WL.val (f93 12) _ (op_move hf430) rfl ?_
            have hr436 := inR_len (St.rep (t := (Ty.sl (Ty.i .i64))) hS435 1 rfl)
            refine WL.val (Value.int .i64 ((x427).length : Int)) _ (op_lenL sl_25 (St.rep (t := (Ty.sl (Ty.i .i64))) hS435 1 rfl) rfl) rfl ?_
            refine WL.val (Value.bool (decide ((((x110).length : Nat) : Int) < ((x427).length : Int)))) _ (op_lss rfl rfl) rfl ?_
            have hl437 : ¬ (((x110).length : Nat) : Int) < ((x427).length : Int) := by omega
            refine WL.nil ?_
            show W _ _ _ _ _ _
            refine W.condF (decide ((((x110).length : Nat) : Int) < ((x427).length : Int))) rfl (decide_eq_false hl437) ?_
            refine W.exit ?_
            show _ = _ ∧ _
            exact ⟨rfl, _, hs424, hf428, hf429, hf430, hf431, (by first | exact hL434 | (simp only [List.length_set]; exact hL434)), hS435⟩
        · rintro f438 wd439 ⟨x442, rfl, hq440⟩
          replace hb115 := onRes_fin hb115
          replace hq440 : f438 1 = (Value.pointer (some ⟨b1, 0, none⟩)) ∧ f438 3 = (f93 8) ∧ f438 4 = (f93 12) ∧ f438 5 = (Value.int .i64 (k109 : Int)) ∧ (x442).length = (x110).length ∧ St wd2 wd439 [(Ty.sl (Ty.i .i64)).at (f93 8) x28, (Ty.sl (Ty.i .i64)).at (f93 12) x442] := hq440
          obtain ⟨hf443, hf444, hf445, hf446, hL447, hS448⟩ := hq440
          show W _ _ _ _ _ _
          refine W.region ?_
          refine WL.val (Value.int .i64 (k109 : Int)) _ (op_move hf446) rfl ?_
          refine WL.val (Value.int .i64 (w64 ((k109 : Int) + (1 : Int)))) _ (op_add rfl rfl) rfl ?_
          refine WL.val (Value.int .i64 (w64 ((k109 : Int) + (1 : Int)))) _ (op_assign rfl) rfl ?_
          refine WL.nil ?_
          obtain rfl := Option.some.inj hb115
          show ∃ s, _ = Ctl.next s ∧ _
          exact ⟨_, rfl, hf443, hf444, hf445, (ctr_next hl126 hr125), (ctr_rng hl126 hr125), hS448⟩
      · intro x456 f451 wd452 hs453 hI454
        replace hI454 : f451 1 = (Value.pointer (some ⟨b1, 0, none⟩)) ∧ f451 3 = (f93 8) ∧ f451 4 = (f93 12) ∧ f451 5 = Value.int .i64 (((r_Table).length : Nat) : Int) ∧ InR .i64 (((r_Table).length : Nat) : Int) ∧ St wd2 wd452 [(Ty.sl (Ty.i .i64)).at (f93 8) x28, (Ty.sl (Ty.i .i64)).at (f93 12) x456] := hI454
        obtain ⟨hf457, hf458, hf459, hf460, hr461, hS462⟩ := hI454
        refine W.seq (W.seq (W.region ?_))
        refine WL.val (Value.int .i64 (((r_Table).length : Nat) : Int)) _ (op_move hf460) rfl ?_
        refine WL.val (Value.pointer (some ⟨b1, 0, none⟩)) _ (op_fieldAddr fd_29_0 hf457) rfl ?_
        refine WL.val v_r_Table _ (op_load one_22 rfl (BoxAt.cell (BoxAt.lift hS462.ext hx6) rfl)) rfl ?_
        have hr463 := inR_len (Ty.lift _ (Ext.trans hE7 hS462.ext) r_r_Table)
        refine WL.val (Value.int .i64 ((r_Table).length : Int)) _ (op_lenL sl_22 (Ty.lift _ (Ext.trans hE7 hS462.ext) r_r_Table) rfl) rfl ?_
        refine WL.val (Value.bool (decide ((((r_Table).length : Nat) : Int) < ((r_Table).length : Int)))) _ (op_lss rfl rfl) rfl ?_
        have hl464 : ¬ (((r_Table).length : Nat) : Int) < ((r_Table).length : Int) := by omega
        refine WL.nil ?_
        show W _ _ _ _ _ _
        refine W.condF (decide ((((r_Table).length : Nat) : Int) < ((r_Table).length : Int))) rfl (decide_eq_false hl464) ?_
        refine W.exit ?_
        show _ = _ ∧ _
        exact ⟨rfl, _, hs453, hf459, (St.pick hS462 [1] rfl)⟩
    · rintro f465 wd466 ⟨x469, rfl, hq467⟩
      replace h := onRes_fin h
      replace hq467 : f465 4 = (f93 12) ∧ St wd2 wd466 [(Ty.sl (Ty.i .i64)).at (f93 12) x469] := hq467
      obtain ⟨hf470, hS471⟩ := hq467
      show W _ _ _ _ _ _
      refine W.seq (W.region ?_)
      refine WL.val (f93 12) _ (op_move hf470) rfl ?_
      refine WL.val (f93 12) _ (op_assign rfl) rfl ?_
      refine WL.nil ?_
      show W _ _ _ _ _ _
      refine W.ret ?_
      obtain rfl := Option.some.inj h
      show FinP _ _ _ _ _ _ _
      exact FinP.ret _ (res1 rfl rfl) ⟨(f93 12), rfl, (Ext.trans hE7 hS471.ext), (St.out (St.pick hS471 [0] rfl) (hE7))⟩

theorem c_spec_HandleOf {w : World} {r_Table : (List (List (List Int)))} {v_r_Table : Value} (r_r_Table : (Ty.sl (Ty.sl (Ty.sl (Ty.i .i64)))).rep w v_r_Table r_Table) {res : (List Int) × Int} (h : p_spec_HandleOf r_Table  = some res) :
    Ret Try.prog 30 #[(Value.agg #[v_r_Table])] w (fun v w' => ∃ (u0 : Value), v = (Value.tuple #[u0, Value.int .i64 res.2]) ∧ InR .i64 res.2 ∧ Ext w w' ∧ Sep w.heap.size w' [(Ty.sl (Ty.i .i64)).at u0 res.1]) := by
  unfold p_spec_HandleOf at h
  have hS0 : St w w [] := St.start w
  refine Ret.start (fn := Try.f30) Try.func30 rfl 12 rfl rfl ?_
  refine W.seq (W.region ?_)
  refine WL.box hS0 rfl (cs := [v_r_Table]) rfl rfl ?_
  intro b1 wd2 hS3 he4 hx5
  replace hS3 : St w wd2 [bx b1 [v_r_Table]] := hS3
  have hx6 := St.boxAt hS3 0 rfl
  have hE7 : Ext w wd2 := hS3.ext
  have hS8 : St wd2 wd2 [] := St.start wd2
  refine WL.val (Value.slice none 0 0) _ (op_assign rfl) rfl ?_
  refine WL.val (Value.int .i64 (0 : Int)) _ (op_assign rfl) rfl ?_
  refine WL.nil ?_
  show W _ _ _ _ _ _
  refine W.seq (W.region ?_)
  refine WL.val (Value.agg #[v_r_Table]) _ (op_loadBox st_29 rfl (BoxAt.lift hS8.ext hx6) rfl rfl) rfl ?_
  obtain ⟨x9, hx10, h⟩ := bs h
  refine WL.call _ (op_call fn_64 (args1 rfl)) (c_spec_l08Code (Ty.lift _ (Ext.trans hE7 hS8.ext) r_r_Table) hx10) rfl ?_
  rintro _ wd12 ⟨rfl, hr11, he13⟩
  have hS15 := St.extend hS8 he13
  replace hS15 : St wd2 wd12 [] := hS15
  refine WL.val (Value.int .i64 x9) _ (op_assign rfl) rfl ?_
  refine WL.nil ?_
  show W _ _ _ _ _ _
  refine W.seq (W.seq (W.region ?_))
  refine WL.val (Value.int .i64 x9) _ (op_move rfl) rfl ?_
  refine WL.val (Value.bool (x9 != (0 : Int))) _ (op_neq rfl rfl) rfl ?_
  refine WL.nil ?_
  show W _ _ _ _ _ _
  refine W.cond (x9 != (0 : Int)) rfl (fun hc16 => ?_) (fun hc16 => ?_)
  · replace h := ip h hc16
    refine W.seq (W.region ?_)
    refine WL.val (Value.int .i64 x9) _ (op_move rfl) rfl ?_
    refine WL.val (Value.slice none 0 0) _ (op_assign rfl) rfl ?_
    refine WL.val (Value.int .i64 x9) _ (op_assign rfl) rfl ?_
    refine WL.nil ?_
    show W _ _ _ _ _ _
    refine W.ret ?_
    obtain rfl := Option.some.inj h
    show FinP _ _ _ _ _ _ _
    exact FinP.ret _ (res2 rfl rfl rfl) ⟨(Value.slice none 0 0), rfl, hr11, (Ext.trans hE7 hS15.ext), (St.out (St.pick (St.addNil (Ty.i .i64) hS15) [0] rfl) (hE7))⟩
  · replace h := inegb h hc16
    refine W.skip ?_
    show W _ _ _ _ _ _
    refine W.seq (W.region ?_)
    refine WL.val (Value.agg #[v_r_Table]) _ (op_loadBox st_29 rfl (BoxAt.lift hS15.ext hx6) rfl rfl) rfl ?_
    obtain ⟨x18, hx19, h⟩ := bs h
    refine WL.call _ (op_call fn_65 (args1 rfl)) (c_spec_l15Handle (Ty.lift _ (Ext.trans hE7 hS15.ext) r_r_Table) hx19) rfl ?_
    rintro u20 wd21 ⟨_, rfl, he22, hs23⟩
    have hS24 := St.join hS15 he22 hs23
    replace hS24 : St wd2 wd21 [(Ty.sl (Ty.i .i64)).at u20 x18] := hS24
    refine WL.val u20 _ (op_assign rfl) rfl ?_
    refine WL.val (Value.int .i64 (0 : Int)) _ (op_assign rfl) rfl ?_
    refine WL.nil ?_
    show W _ _ _ _ _ _
    refine W.ret ?_
    obtain rfl := Option.some.inj h
    show FinP _ _ _ _ _ _ _
    exact FinP.ret _ (res2 rfl rfl rfl) ⟨u20, rfl, (inR_i64.2 (show (-9223372036854775808 : Int) ≤ 0 ∧ (0 : Int) ≤ 9223372036854775807 from by decide)), (Ext.trans hE7 hS24.ext), (St.out (St.pick hS24 [0] rfl) (hE7))⟩

theorem c_impl_addTo {w : World} {sum : (List Int)} {v_sum : Value} {list : (List Int)} {v_list : Value} {w0 : World} {R : Ent} (hS0 : St w0 w [(Ty.sl (Ty.i .i64)).at v_sum sum, R]) (r_list : (Ty.sl (Ty.i .i64)).rep w0 v_list list) {res : (List Int)} (h : p_impl_addTo sum list  = some res) :
    Ret Try.prog 94 #[v_sum, v_list] w (fun v w' => v = (Value.tuple #[]) ∧ St w0 w' [(Ty.sl (Ty.i .i64)).at v_sum res, R]) := by
  unfold p_impl_addTo at h
  refine Ret.start (fn := Try.f94) Try.func94 rfl 21 rfl rfl ?_
  refine W.seq (W.region ?_)
  refine WL.val v_list _ (op_move rfl) rfl ?_
  have hr1 := inR_len (Ty.lift _ hS0.ext r_list)
  refine WL.val (Value.int .i64 ((list).length : Int)) _ (op_lenL sl_25 (Ty.lift _ hS0.ext r_list) rfl) rfl ?_
  refine WL.val (Value.int .i64 (0 : Int)) _ (op_move rfl) rfl ?_
  refine WL.nil ?_
  show W _ _ _ _ _ _
  obtain ⟨res2, hres3, h⟩ := bs h
  refine W.blockLoop (fun fq wq => ∃ s, res2 = Res.fin s ∧ St w0 wq [(Ty.sl (Ty.i .i64)).at v_sum s, R]) ?_ ?_
  · refine W.forN (fun k (s : (List Int)) fq wq => fq 0 = v_sum ∧ fq 6 = v_list ∧ fq 7 = (Value.int .i64 ((list).length : Int)) ∧ fq 8 = Value.int .i64 (k : Int) ∧ InR .i64 (k : Int) ∧ St w0 wq [(Ty.sl (Ty.i .i64)).at v_sum s, R]) hres3 ⟨rfl, rfl, rfl, rfl, (inR_i64.2 (show (-9223372036854775808 : Int) ≤ 0 ∧ (0 : Int) ≤ 9223372036854775807 from by decide)), hS0⟩ ?_ ?_
    · intro k4 x5 ct6 f7 wd8 hk9 hb10 hI11 hbrk12 hret13
      replace hI11 : f7 0 = v_sum ∧ f7 6 = v_list ∧ f7 7 = (Value.int .i64 ((list).length : Int)) ∧ f7 8 = Value.int .i64 (k4 : Int) ∧ InR .i64 (k4 : Int) ∧ St w0 wd8 [(Ty.sl (Ty.i .i64)).at v_sum x5, R] := hI11
      replace hb10 : p_impl_addTo_L1 list k4 x5 = some ct6 := hb10
      unfold p_impl_addTo_L1 at hb10
      obtain ⟨hf14, hf15, hf16, hf17, hr18, hS19⟩ := hI11
      refine W.seq (W.region ?_)
      refine WL.val (Value.bool (decide ((k4 : Int) < ((list).length : Int)))) _ (op_lss hf17 hf16) rfl ?_
      have hl20 : (k4 : Int) < ((list).length : Int) := by omega
      refine WL.nil ?_
      show W _ _ _ _ _ _
      refine W.seq ?_
      refine W.condT (decide ((k4 : Int) < ((list).length : Int))) rfl (decide_eq_true hl20) ?_
      refine W.skip ?_
      show W _ _ _ _ _ _
      refine W.seq ?_
      refine W.block ?_
      refine W.seq (W.region ?_)
      refine WL.val (Value.int .i64 (k4 : Int)) _ (op_move hf17) rfl ?_
      obtain ⟨x22, hx25, hb10⟩ := bs hb10
      obtain ⟨ha23, hb24, hx25⟩ := idx_some hx25
      refine WL.val (Value.pointer (some (elA v_list ((k4 : Int)).toNat))) _ (op_idx sl_25 (Ty.lift _ hS19.ext r_list) hf15 hf17 ha23 hb24) rfl ?_
      obtain ⟨u26, hc27, hr28⟩ := repSl.el r_list hx25
      obtain ⟨rfl, hr28⟩ := hr28
      refine WL.val (Value.int .i64 x22) _ (op_load one_2 rfl (Ext.cell hS19.ext hc27)) rfl ?_
      refine WL.val (Value.int .i64 (k4 : Int)) _ (op_assign rfl) rfl ?_
      refine WL.val (Value.int .i64 x22) _ (op_assign rfl) rfl ?_
      refine WL.nil ?_
      show W _ _ _ _ _ _
      refine W.region ?_
      refine WL.val v_sum _ (op_move hf14) rfl ?_
      refine WL.val (Value.int .i64 (k4 : Int)) _ (op_move rfl) rfl ?_
      obtain ⟨x29, hx32, hb10⟩ := bs hb10
      obtain ⟨ha30, hb31, hx32⟩ := idx_some hx32
      refine WL.val (Value.pointer (some (elA v_sum ((k4 : Int)).toNat))) _ (op_idx sl_25 (St.rep (t := (Ty.sl (Ty.i .i64))) hS19 0 rfl) rfl rfl ha30 hb31) rfl ?_
      obtain ⟨u33, hc34, hr35⟩ := repSl.el (St.rep (t := (Ty.sl (Ty.i .i64))) hS19 0 rfl) hx32
      obtain ⟨rfl, hr35⟩ := hr35
      refine WL.val (Value.int .i64 x29) _ (op_load one_2 rfl hc34) rfl ?_
      refine WL.val (Value.int .i64 x22) _ (op_move rfl) rfl ?_
      refine WL.val (Value.int .i64 (w64 (x29 + x22))) _ (op_add rfl rfl) rfl ?_
      refine WL.val (Value.pointer (some (elA v_sum ((k4 : Int)).toNat))) _ (op_idx sl_25 (St.rep (t := (Ty.sl (Ty.i .i64))) hS19 0 rfl) rfl rfl ha30 hb31) rfl ?_
      refine WL.storeEl (flat_i .i64) hS19 (k := 0) rfl sz_2 rfl rfl (lt_of_idx ha30 hb31) ⟨rfl, (inR_wrap _ _)⟩ ?_
      intro wd36 hS37
      replace hS37 : St w0 wd36 [(Ty.sl (Ty.i .i64)).at v_sum ((x5).set ((k4 : Int)).toNat (w64 (x29 + x22))), R] := hS37
      refine WL.nil ?_
      show W _ _ _ _ _ _
      refine W.region ?_
      refine WL.val (Value.int .i64 (w64 ((k4 : Int) + (1 : Int)))) _ (op_add hf17 rfl) rfl ?_
      refine WL.val (Value.int .i64 (w64 ((k4 : Int) + (1 : Int)))) _ (op_move rfl) rfl ?_
      refine WL.nil ?_
      obtain rfl := Option.some.inj hb10
      show ∃ s, _ = Ctl.next s ∧ _
      exact ⟨_, rfl, hf14, hf15, hf16, (ctr_next hl20 hr1), (ctr_rng hl20 hr1), hS37⟩
    · intro x44 f39 wd40 hs41 hI42
      replace hI42 : f39 0 = v_sum ∧ f39 6 = v_list ∧ f39 7 = (Value.int .i64 ((list).length : Int)) ∧ f39 8 = Value.int .i64 (((list).length : Nat) : Int) ∧ InR .i64 (((list).length : Nat) : Int) ∧ St w0 wd40 [(Ty.sl (Ty.i .i64)).at v_sum x44, R] := hI42
      obtain ⟨hf45, hf46, hf47, hf48, hr49, hS50⟩ := hI42
      refine W.seq (W.region ?_)
      refine WL.val (Value.bool (decide ((((list).length : Nat) : Int) < ((list).length : Int)))) _ (op_lss hf48 hf47) rfl ?_
      have hl51 : ¬ (((list).length : Nat) : Int) < ((list).length : Int) := by omega
      refine WL.nil ?_
      show W _ _ _ _ _ _
      refine W.seq ?_
      refine W.condF (decide ((((list).length : Nat) : Int) < ((list).length : Int))) rfl (decide_eq_false hl51) ?_
      refine W.exit ?_
      show _ = _ ∧ _
      exact ⟨rfl, _, hs41, hS50⟩
  · rintro f52 wd53 ⟨x56, rfl, hq54⟩
    replace h := onRes_fin h
    replace hq54 : St w0 wd53 [(Ty.sl (Ty.i .i64)).at v_sum x56, R] := hq54
    have hS57 := hq54
    obtain rfl := Option.some.inj h
    show FinP _ _ _ _ _ _ _
    refine FinP.end (Value.tuple #[]) (res0 rfl) ?_
    exact ⟨rfl, (St.pick hS57 [0, 1] rfl)⟩

theorem c_impl_Ring_handle {w : World} {r_Table : (List (List (List Int)))} {v_r_Table : Value} (r_r_Table : (Ty.sl (Ty.sl (Ty.sl (Ty.i .i64)))).rep w v_r_Table r_Table) {res : (List Int)} (h : p_impl_Ring_handle r_Table  = some res) :
    Ret Try.prog 66 #[(Value.agg #[v_r_Table])] w (fun v w' => ∃ (u0 : Value), v = u0 ∧ Ext w w' ∧ Sep w.heap.size w' [(Ty.sl (Ty.i .i64)).at u0 res]) := by
  unfold p_impl_Ring_handle at h
  have hS0 : St w w [] := St.start w
  refine Ret.start (fn := Try.f66) Try.func66 rfl 30 rfl rfl ?_
  refine W.seq (W.region ?_)
  refine WL.box hS0 rfl (cs := [v_r_Table]) rfl rfl ?_
  intro b1 wd2 hS3 he4 hx5
  replace hS3 : St w wd2 [bx b1 [v_r_Table]] := hS3
  have hx6 := St.boxAt hS3 0 rfl
  have hE7 : Ext w wd2 := hS3.ext
  have hS8 : St wd2 wd2 [] := St.start wd2
  refine WL.val (Value.slice none 0 0) _ (op_assign rfl) rfl ?_
  refine WL.nil ?_
  show W _ _ _ _ _ _
  refine W.seq (W.region ?_)
  refine WL.val (Value.pointer (some ⟨b1, 0, none⟩)) _ (op_fieldAddr fd_29_0 rfl) rfl ?_
  refine WL.val v_r_Table _ (op_load one_22 rfl (BoxAt.cell (BoxAt.lift hS8.ext hx6) rfl)) rfl ?_
  have hr9 := inR_len (Ty.lift _ (Ext.trans hE7 hS8.ext) r_r_Table)
  refine WL.val (Value.int .i64 ((r_Table).length : Int)) _ (op_lenL sl_22 (Ty.lift _ (Ext.trans hE7 hS8.ext) r_r_Table) rfl) rfl ?_
  obtain ⟨x10, hx11, h⟩ := bs h
  refine WL.make (t := (Ty.i .i64)) hS8 sl_25 (fun _ _ => ⟨rfl, (inR_i64.2 (show (-9223372036854775808 : Int) ≤ 0 ∧ (0 : Int) ≤ 9223372036854775807 from by decide))⟩) rfl rfl hx11 rfl rfl ?_
  intro u12 wd13 hS14 he15
  replace hS14 : St wd2 wd13 [(Ty.sl (Ty.i .i64)).at u12 x10] := hS14
  refine WL.val u12 _ (op_assign rfl) rfl ?_
  refine WL.nil ?_
  show W _ _ _ _ _ _
  refine W.seq (W.seq (W.region ?_))
  refine WL.val (Value.agg #[v_r_Table]) _ (op_loadBox st_29 rfl (BoxAt.lift hS14.ext hx6) rfl rfl) rfl ?_
  obtain ⟨x16, hx17, h⟩ := bs h
  refine WL.call _ (op_call fn_87 (args1 rfl)) (c_impl_Ring_duals (Ty.lift _ (Ext.trans hE7 hS14.ext) r_r_Table) hx17) rfl ?_
  rintro u18 wd19 ⟨_, rfl, he20, hs21⟩
  have hS22 := St.join hS14 he20 hs21
  replace hS22 : St wd2 wd19 [(Ty.sl (Ty.i .i64)).at u12 x10, (Ty.sl (Ty.i .i64)).at u18 x16] := hS22
  have hr23 := inR_len (St.rep (t := (Ty.sl (Ty.i .i64))) hS22 1 rfl)
  refine WL.val (Value.int .i64 ((x16).length : Int)) _ (op_lenL sl_88 (St.rep (t := (Ty.sl (Ty.i .i64))) hS22 1 rfl) rfl) rfl ?_
  refine WL.val (Value.int .i64 (0 : Int)) _ (op_move rfl) rfl ?_
  refine WL.nil ?_
  show W _ _ _ _ _ _
  obtain ⟨res24, hres25, h⟩ := bs h
  refine W.blockLoop (fun fq wq => ∃ s, res24 = Res.fin s ∧ fq 3 = u12 ∧ St wd2 wq [(Ty.sl (Ty.i .i64)).at u12 s]) ?_ ?_
  · refine W.forN (fun k (s : (List Int)) fq wq => fq 1 = (Value.pointer (some ⟨b1, 0, none⟩)) ∧ fq 3 = u12 ∧ fq 11 = u18 ∧ fq 12 = (Value.int .i64 ((x16).length : Int)) ∧ fq 13 = Value.int .i64 (k : Int) ∧ InR .i64 (k : Int) ∧ St wd2 wq [(Ty.sl (Ty.i .i64)).at u12 s, (Ty.sl (Ty.i .i64)).at u18 x16]) hres25 ⟨rfl, rfl, rfl, rfl, rfl, (inR_i64.2 (show (-9223372036854775808 : Int) ≤ 0 ∧ (0 : Int) ≤ 9223372036854775807 from by decide)), hS22⟩ ?_ ?_
    · intro k26 x27 ct28 f29 wd30 hk31 hb32 hI33 hbrk34 hret35
      replace hI33 : f29 1 = (Value.pointer (some ⟨b1, 0, none⟩)) ∧ f29 3 = u12 ∧ f29 11 = u18 ∧ f29 12 = (Value.int .i64 ((x16).length : Int)) ∧ f29 13 = Value.int .i64 (k26 : Int) ∧ InR .i64 (k26 : Int) ∧ St wd2 wd30 [(Ty.sl (Ty.i .i64)).at u12 x27, (Ty.sl (Ty.i .i64)).at u18 x16] := hI33
      replace hb32 : p_impl_Ring_handle_L1 x16 r_Table k26 x27 = some ct28 := hb32
      unfold p_impl_Ring_handle_L1 at hb32
      obtain ⟨hf36, hf37, hf38, hf39, hf40, hr41, hS42⟩ := hI33
      refine W.seq (W.region ?_)
      refine WL.val (Value.bool (decide ((k26 : Int) < ((x16).length : Int)))) _ (op_lss hf40 hf39) rfl ?_
      have hl43 : (k26 : Int) < ((x16).length : Int) := by omega
      refine WL.nil ?_
      show W _ _ _ _ _ _
      refine W.seq ?_
      refine W.condT (decide ((k26 : Int) < ((x16).length : Int))) rfl (decide_eq_true hl43) ?_
      refine W.skip ?_
      show W _ _ _ _ _ _
      refine W.seq ?_
      refine W.block ?_
      refine W.seq (W.region ?_)
      refine WL.val (Value.int .i64 (k26 : Int)) _ (op_move hf40) rfl ?_
      obtain ⟨x45, hx48, hb32⟩ := bs hb32
      obtain ⟨ha46, hb47, hx48⟩ := idx_some hx48
      refine WL.val (Value.pointer (some (elA u18 ((k26 : Int)).toNat))) _ (op_idx sl_88 (St.rep (t := (Ty.sl (Ty.i .i64))) hS42 1 rfl) hf38 hf40 ha46 hb47) rfl ?_
      obtain ⟨u49, hc50, hr51⟩ := repSl.el (St.rep (t := (Ty.sl (Ty.i .i64))) hS42 1 rfl) hx48
      obtain ⟨rfl, hr51⟩ := hr51
      refine WL.val (Value.int .i64 x45) _ (op_load one_3 rfl hc50) rfl ?_
      refine WL.val (Value.int .i64 (k26 : Int)) _ (op_assign rfl) rfl ?_
      refine WL.val (Value.int .i64 x45) _ (op_assign rfl) rfl ?_
      refine WL.nil ?_
      show W _ _ _ _ _ _
      refine W.region ?_
      refine WL.val u12 _ (op_move hf37) rfl ?_
      refine WL.val (Value.pointer (some ⟨b1, 0, none⟩)) _ (op_fieldAddr fd_29_0 hf36) rfl ?_
      refine WL.val v_r_Table _ (op_load one_22 rfl (BoxAt.cell (BoxAt.lift hS42.ext hx6) rfl)) rfl ?_
      refine WL.val (Value.int .i64 (k26 : Int)) _ (op_move rfl) rfl ?_
      obtain ⟨x52, hx55, hb32⟩ := bs hb32
      obtain ⟨ha53, hb54, hx55⟩ := idx_some hx55
      refine WL.val (Value.pointer (some (elA v_r_Table ((k26 : Int)).toNat))) _ (op_idx sl_22 (Ty.lift _ (Ext.trans hE7 hS42.ext) r_r_Table) rfl rfl ha53 hb54) rfl ?_
      obtain ⟨u56, hc57, hr58⟩ := repSl.el r_r_Table hx55
      refine WL.val u56 _ (op_load one_65 rfl (Ext.cell (Ext.trans hE7 hS42.ext) hc57)) rfl ?_
      refine WL.val (Value.int .i64 x45) _ (op_move rfl) rfl ?_
      obtain ⟨x59, hx62, hb32⟩ := bs hb32
      obtain ⟨ha60, hb61, hx62⟩ := idx_some hx62
      refine WL.val (Value.pointer (some (elA u56 (x45).toNat))) _ (op_idx sl_65 (Ty.lift _ (Ext.trans hE7 hS42.ext) hr58) rfl rfl ha60 hb61) rfl ?_
      obtain ⟨u63, hc64, hr65⟩ := repSl.el hr58 hx62
      refine WL.val u63 _ (op_load one_25 rfl (Ext.cell (Ext.trans hE7 hS42.ext) hc64)) rfl ?_
      obtain ⟨x66, hx67, hb32⟩ := bs hb32
      have hS68 := St.fold [(Ty.sl (Ty.i .i64)).at u12 x27] [(Ty.sl (Ty.i .i64)).at u18 x16] (St.pick hS42 [0, 1] rfl)
      refine WL.call _ (op_call fn_94 (args2 rfl rfl)) (c_impl_addTo hS68 (Ty.lift _ hE7 hr65) hx67) rfl ?_
      rintro _ wd71 ⟨rfl, hS69⟩
      have hS70 := St.pick (St.unfold [(Ty.sl (Ty.i .i64)).at u12 x66] [(Ty.sl (Ty.i .i64)).at u18 x16] hS69) [0, 1] rfl
      replace hS70 : St wd2 wd71 [(Ty.sl (Ty.i .i64)).at u12 x66, (Ty.sl (Ty.i .i64)).at u18 x16] := hS70
      refine WL.nil ?_
      show W _ _ _ _ _ _
      refine W.region ?_
      refine WL.val (Value.int .i64 (w64 ((k26 : Int) + (1 : Int)))) _ (op_add hf40 rfl) rfl ?_
      refine WL.val (Value.int .i64 (w64 ((k26 : Int) + (1 : Int)))) _ (op_move rfl) rfl ?_
      refine WL.nil ?_
      obtain rfl := Option.some.inj hb32
      show ∃ s, _ = Ctl.next s ∧ _
      exact ⟨_, rfl, hf36, hf37, hf38, hf39, (ctr_next hl43 hr23), (ctr_rng hl43 hr23), hS70⟩
    · intro x78 f73 wd74 hs75 hI76
      replace hI76 : f73 1 = (Value.pointer (some ⟨b1, 0, none⟩)) ∧ f73 3 = u12 ∧ f73 11 = u18 ∧ f73 12 = (Value.int .i64 ((x16).length : Int)) ∧ f73 13 = Value.int .i64 (((x16).length : Nat) : Int) ∧ InR .i64 (((x16).length : Nat) : Int) ∧ St wd2 wd74 [(Ty.sl (Ty.i .i64)).at u12 x78, (Ty.sl (Ty.i .i64)).at u18 x16] := hI76
      obtain ⟨hf79, hf80, hf81, hf82, hf83, hr84, hS85⟩ := hI76
      refine W.seq (W.region ?_)
      refine WL.val (Value.bool (decide ((((x16).length : Nat) : Int) < ((x16).length : Int)))) _ (op_lss hf83 hf82) rfl ?_
      have hl86 : ¬ (((x16).length : Nat) : Int) < ((x16).length : Int) := by omega
      refine WL.nil ?_
      show W _ _ _ _ _ _
      refine W.seq ?_
      refine W.condF (decide ((((x16).length : Nat) : Int) < ((x16).length : Int))) rfl (decide_eq_false hl86) ?_
      refine W.exit ?_
      show _ = _ ∧ _
      exact ⟨rfl, _, hs75, hf80, (St.pick hS85 [0] rfl)⟩
  · rintro f87 wd88 ⟨x91, rfl, hq89⟩
    replace h := onRes_fin h
    replace hq89 : f87 3 = u12 ∧ St wd2 wd88 [(Ty.sl (Ty.i .i64)).at u12 x91] := hq89
    obtain ⟨hf92, hS93⟩ := hq89
    show W _ _ _ _ _ _
    refine W.seq (W.region ?_)
    refine WL.val u12 _ (op_move hf92) rfl ?_
    refine WL.val u12 _ (op_assign rfl) rfl ?_
    refine WL.nil ?_
    show W _ _ _ _ _ _
    refine W.ret ?_
    obtain rfl := Option.some.inj h
    show FinP _ _ _ _ _ _ _
    exact FinP.ret _ (res1 rfl rfl) ⟨u12, rfl, (Ext.trans hE7 hS93.ext), (St.out (St.pick hS93 [0] rfl) (hE7))⟩

theorem c_impl_HandleOf {w : World} {r_Table : (List (List (List Int)))} {v_r_Table : Value} (r_r_Table : (Ty.sl (Ty.sl (Ty.sl (Ty.i .i64)))).rep w v_r_Table r_Table) {res : (List Int) × Int} (h : p_impl_HandleOf r_Table  = some res) :
    Ret Try.prog 31 #[(Value.agg #[v_r_Table])] w (fun v w' => ∃ (u0 : Value), v = (Value.tuple #[u0, Value.int .i64 res.2]) ∧ InR .i64 res.2 ∧ Ext w w' ∧ Sep w.heap.size w' [(Ty.sl (Ty.i .i64)).at u0 res.1]) := by
  unfold p_impl_HandleOf at h
  have hS0 : St w w [] := St.start w
  refine Ret.start (fn := Try.f31) Try.func31 rfl 12 rfl rfl ?_
  refine W.seq (W.region ?_)
  refine WL.box hS0 rfl (cs := [v_r_Table]) rfl rfl ?_
  intro b1 wd2 hS3 he4 hx5
  replace hS3 : St w wd2 [bx b1 [v_r_Table]] := hS3
  have hx6 := St.boxAt hS3 0 rfl
  have hE7 : Ext w wd2 := hS3.ext
  have hS8 : St wd2 wd2 [] := St.start wd2
  refine WL.val (Value.slice none 0 0) _ (op_assign rfl) rfl ?_
  refine WL.val (Value.int .i64 (0 : Int)) _ (op_assign rfl) rfl ?_
  refine WL.nil ?_
  show W _ _ _ _ _ _
  refine W.seq (W.seq (W.region ?_))
  refine WL.val (Value.agg #[v_r_Table]) _ (op_loadBox st_29 rfl (BoxAt.lift hS8.ext hx6) rfl rfl) rfl ?_
  obtain ⟨x9, hx10, h⟩ := bs h
  refine WL.call _ (op_call fn_38 (args1 rfl)) (c_impl_commuteCode (Ty.lift _ (Ext.trans hE7 hS8.ext) r_r_Table) hx10) rfl ?_
  rintro _ wd12 ⟨rfl, hr11, he13⟩
  have hS15 := St.extend hS8 he13
  replace hS15 : St wd2 wd12 [] := hS15
  refine WL.val (Value.int .i64 x9) _ (op_assign rfl) rfl ?_
  refine WL.nil ?_
  show W _ _ _ _ _ _
  refine W.seq (W.region ?_)
  refine WL.val (Value.int .i64 x9) _ (op_move rfl) rfl ?_
  refine WL.val (Value.bool (x9 != (0 : Int))) _ (op_neq rfl rfl) rfl ?_
  refine WL.nil ?_
  show W _ _ _ _ _ _
  refine W.cond (x9 != (0 : Int)) rfl (fun hc16 => ?_) (fun hc16 => ?_)
  · replace h := ip h hc16
    refine W.seq (W.region ?_)
    refine WL.val (Value.int .i64 x9) _ (op_move rfl) rfl ?_
    refine WL.val (Value.slice none 0 0) _ (op_assign rfl) rfl ?_
    refine WL.val (Value.int .i64 x9) _ (op_assign rfl) rfl ?_
    refine WL.nil ?_
    show W _ _ _ _ _ _
    refine W.ret ?_
    obtain rfl := Option.some.inj h
    show FinP _ _ _ _ _ _ _
    exact FinP.ret _ (res2 rfl rfl rfl) ⟨(Value.slice none 0 0), rfl, hr11, (Ext.trans hE7 hS15.ext), (St.out (St.pick (St.addNil (Ty.i .i64) hS15) [0] rfl) (hE7))⟩
  · replace h := inegb h hc16
    refine W.skip ?_
    show W _ _ _ _ _ _
    refine W.seq (W.region ?_)
    refine WL.val (Value.agg #[v_r_Table]) _ (op_loadBox st_29 rfl (BoxAt.lift hS15.ext hx6) rfl rfl) rfl ?_
    obtain ⟨x18, hx19, h⟩ := bs h
    refine WL.call _ (op_call fn_66 (args1 rfl)) (c_impl_Ring_handle (Ty.lift _ (Ext.trans hE7 hS15.ext) r_r_Table) hx19) rfl ?_
    rintro u20 wd21 ⟨_, rfl, he22, hs23⟩
    have hS24 := St.join hS15 he22 hs23
    replace hS24 : St wd2 wd21 [(Ty.sl (Ty.i .i64)).at u20 x18] := hS24
    refine WL.val u20 _ (op_assign rfl) rfl ?_
    refine WL.val (Value.int .i64 (0 : Int)) _ (op_assign rfl) rfl ?_
    refine WL.nil ?_
    show W _ _ _ _ _ _
    refine W.ret ?_
    obtain rfl := Option.some.inj h
    show FinP _ _ _ _ _ _ _
    exact FinP.ret _ (res2 rfl rfl rfl) ⟨u20, rfl, (inR_i64.2 (show (-9223372036854775808 : Int) ≤ 0 ∧ (0 : Int) ≤ 9223372036854775807 from by decide)), (Ext.trans hE7 hS24.ext), (St.out (St.pick hS24 [0] rfl) (hE7))⟩

end Go.VG
