/- The walks, part 3: each Go function returns what its plain twin returns. No condition beyond what each names. -/
import Derived.Test.YtfbjoncpgjgppaaGWalk2
set_option linter.all false
namespace Go.VG
open Go.Proofs
attribute [local irreducible] W WL Sep FinP

theorem c_impl_Ring_bracketFault {w : World} {r_Table : (List (List (List Int)))} {v_r_Table : Value} (r_r_Table : (Ty.sl (Ty.sl (Ty.sl (Ty.i .i64)))).rep w v_r_Table r_Table) {res : (List Int)} (h : p_impl_Ring_bracketFault r_Table  = some res) :
    Ret Try.prog 55 #[(Value.agg #[v_r_Table])] w (fun v w' => ∃ (u0 : Value), v = u0 ∧ NilIff u0 res ∧ Ext w w' ∧ Sep w.heap.size w' [(Ty.sl (Ty.i .i64)).at u0 res]) := by
  unfold p_impl_Ring_bracketFault at h
  have hS0 : St w w [] := St.start w
  refine Ret.start (fn := Try.f55) Try.func55 rfl 97 rfl rfl ?_
  refine W.seq (W.region ?_)
  refine WL.box hS0 rfl (cs := [v_r_Table]) rfl rfl ?_
  intro b1 wd2 hS3 he4 hx5
  replace hS3 : St w wd2 [bx b1 [v_r_Table]] := hS3
  have hx6 := St.boxAt hS3 0 rfl
  have hE7 : Ext w wd2 := hS3.ext
  have hS8 : St wd2 wd2 [] := St.start wd2
  refine WL.val (Value.slice none 0 0) _ (op_assign rfl) rfl ?_
  refine WL.nil ?_
  refine W.seq (W.seq (W.region ?_))
  refine WL.val (Value.pointer (some ⟨b1, 0, none⟩)) _ (op_fieldAddr fd_28_0 rfl) rfl ?_
  refine WL.val v_r_Table _ (op_load one_22 rfl (BoxAt.cell (BoxAt.lift hS8.ext hx6) rfl)) rfl ?_
  have hr9 := inR_len (Ty.lift _ (Ext.trans hE7 hS8.ext) r_r_Table)
  refine WL.val (Value.int .i64 ((r_Table).length : Int)) _ (op_lenL sl_22 (Ty.lift _ (Ext.trans hE7 hS8.ext) r_r_Table) rfl) rfl ?_
  refine WL.val (Value.int .i64 (0 : Int)) _ (op_move rfl) rfl ?_
  refine WL.nil ?_
  show W _ _ _ _ _ _
  obtain ⟨res10, hres11, h⟩ := bs h
  refine W.blockLoop (fun fq wq => ∃ s, res10 = Res.fin s ∧ St wd2 wq []) ?_ ?_
  · refine W.forN (fun k (s : Unit) fq wq => fq 1 = (Value.pointer (some ⟨b1, 0, none⟩)) ∧ fq 13 = v_r_Table ∧ fq 14 = (Value.int .i64 ((r_Table).length : Int)) ∧ fq 15 = Value.int .i64 (k : Int) ∧ InR .i64 (k : Int) ∧ St wd2 wq []) hres11 ⟨rfl, rfl, rfl, rfl, (inL rfl), hS8⟩ ?_ ?_
    · intro k12 s850 ct13 f14 wd15 hk16 hb17 hI18 hbrk19 hret20
      obtain ⟨⟩ := s850
      replace hI18 : f14 1 = (Value.pointer (some ⟨b1, 0, none⟩)) ∧ f14 13 = v_r_Table ∧ f14 14 = (Value.int .i64 ((r_Table).length : Int)) ∧ f14 15 = Value.int .i64 (k12 : Int) ∧ InR .i64 (k12 : Int) ∧ St wd2 wd15 [] := hI18
      replace hb17 : p_impl_Ring_bracketFault_L1 r_Table k12  = some ct13 := hb17
      unfold p_impl_Ring_bracketFault_L1 at hb17
      obtain ⟨hf21, hf22, hf23, hf24, hr25, hS26⟩ := hI18
      refine W.seq (W.region ?_)
      refine WL.val (Value.bool (decide ((k12 : Int) < ((r_Table).length : Int)))) _ (op_lss hf24 hf23) rfl ?_
      have hl27 : (k12 : Int) < ((r_Table).length : Int) := by omega
      refine WL.nil ?_
      refine W.seq ?_
      refine W.condT (decide ((k12 : Int) < ((r_Table).length : Int))) rfl (decide_eq_true hl27) ?_
      refine W.skip ?_
      refine W.seq ?_
      refine W.block ?_
      refine W.seq (W.region ?_)
      refine WL.val (Value.int .i64 (k12 : Int)) _ (op_move hf24) rfl ?_
      obtain ⟨x29, hx32, hb17⟩ := bs hb17
      obtain ⟨ha30, hb31, hx32⟩ := idx_some hx32
      refine WL.val (Value.pointer (some (elA v_r_Table ((k12 : Int)).toNat))) _ (op_idx sl_22 (Ty.lift _ (Ext.trans hE7 hS26.ext) r_r_Table) hf22 hf24 ha30 hb31) rfl ?_
      obtain ⟨u33, hc34, hr35⟩ := repSl.el r_r_Table hx32
      refine WL.val u33 _ (op_load one_54 rfl (Ext.cell (Ext.trans hE7 hS26.ext) hc34)) rfl ?_
      refine WL.val (Value.int .i64 (k12 : Int)) _ (op_assign rfl) rfl ?_
      refine WL.val u33 _ (op_assign rfl) rfl ?_
      refine WL.nil ?_
      refine W.seq (W.region ?_)
      refine WL.val (Value.pointer (some ⟨b1, 0, none⟩)) _ (op_fieldAddr fd_28_0 hf21) rfl ?_
      refine WL.val v_r_Table _ (op_load one_22 rfl (BoxAt.cell (BoxAt.lift hS26.ext hx6) rfl)) rfl ?_
      have hr36 := inR_len (Ty.lift _ (Ext.trans hE7 hS26.ext) r_r_Table)
      refine WL.val (Value.int .i64 ((r_Table).length : Int)) _ (op_lenL sl_22 (Ty.lift _ (Ext.trans hE7 hS26.ext) r_r_Table) rfl) rfl ?_
      refine WL.val (Value.int .i64 (0 : Int)) _ (op_move rfl) rfl ?_
      refine WL.nil ?_
      show W _ _ _ _ _ _
      obtain ⟨res37, hres38, hb17⟩ := bs hb17
      refine W.blockLoop (fun fq wq => ∃ s, res37 = Res.fin s ∧ fq 1 = (Value.pointer (some ⟨b1, 0, none⟩)) ∧ fq 13 = v_r_Table ∧ fq 14 = (Value.int .i64 ((r_Table).length : Int)) ∧ fq 15 = (Value.int .i64 (k12 : Int)) ∧ St wd2 wq []) ?_ ?_
      · refine W.forN (fun k (s : Unit) fq wq => fq 1 = (Value.pointer (some ⟨b1, 0, none⟩)) ∧ fq 3 = (Value.int .i64 (k12 : Int)) ∧ fq 4 = u33 ∧ fq 13 = v_r_Table ∧ fq 14 = (Value.int .i64 ((r_Table).length : Int)) ∧ fq 15 = (Value.int .i64 (k12 : Int)) ∧ fq 21 = v_r_Table ∧ fq 22 = (Value.int .i64 ((r_Table).length : Int)) ∧ fq 23 = Value.int .i64 (k : Int) ∧ InR .i64 (k : Int) ∧ St wd2 wq []) hres38 ⟨hf21, rfl, rfl, hf22, hf23, hf24, rfl, rfl, rfl, (inL rfl), hS26⟩ ?_ ?_
        · intro k39 s822 ct40 f41 wd42 hk43 hb44 hI45 hbrk46 hret47
          obtain ⟨⟩ := s822
          replace hI45 : f41 1 = (Value.pointer (some ⟨b1, 0, none⟩)) ∧ f41 3 = (Value.int .i64 (k12 : Int)) ∧ f41 4 = u33 ∧ f41 13 = v_r_Table ∧ f41 14 = (Value.int .i64 ((r_Table).length : Int)) ∧ f41 15 = (Value.int .i64 (k12 : Int)) ∧ f41 21 = v_r_Table ∧ f41 22 = (Value.int .i64 ((r_Table).length : Int)) ∧ f41 23 = Value.int .i64 (k39 : Int) ∧ InR .i64 (k39 : Int) ∧ St wd2 wd42 [] := hI45
          replace hb44 : p_impl_Ring_bracketFault_L2 r_Table x29 k12 k39  = some ct40 := hb44
          unfold p_impl_Ring_bracketFault_L2 at hb44
          obtain ⟨hf48, hf49, hf50, hf51, hf52, hf53, hf54, hf55, hf56, hr57, hS58⟩ := hI45
          refine W.seq (W.region ?_)
          refine WL.val (Value.bool (decide ((k39 : Int) < ((r_Table).length : Int)))) _ (op_lss hf56 hf55) rfl ?_
          have hl59 : (k39 : Int) < ((r_Table).length : Int) := by omega
          refine WL.nil ?_
          refine W.seq ?_
          refine W.condT (decide ((k39 : Int) < ((r_Table).length : Int))) rfl (decide_eq_true hl59) ?_
          refine W.skip ?_
          refine W.seq ?_
          refine W.block ?_
          refine W.seq (W.region ?_)
          refine WL.val (Value.int .i64 (k39 : Int)) _ (op_move hf56) rfl ?_
          obtain ⟨x61, hx64, hb44⟩ := bs hb44
          obtain ⟨ha62, hb63, hx64⟩ := idx_some hx64
          refine WL.val (Value.pointer (some (elA v_r_Table ((k39 : Int)).toNat))) _ (op_idx sl_22 (Ty.lift _ (Ext.trans hE7 hS58.ext) r_r_Table) hf54 hf56 ha62 hb63) rfl ?_
          obtain ⟨u65, hc66, hr67⟩ := repSl.el r_r_Table hx64
          refine WL.val u65 _ (op_load one_54 rfl (Ext.cell (Ext.trans hE7 hS58.ext) hc66)) rfl ?_
          refine WL.val (Value.int .i64 (k39 : Int)) _ (op_assign rfl) rfl ?_
          refine WL.val u65 _ (op_assign rfl) rfl ?_
          refine WL.nil ?_
          refine W.seq (W.region ?_)
          refine WL.val (Value.pointer (some ⟨b1, 0, none⟩)) _ (op_fieldAddr fd_28_0 hf48) rfl ?_
          refine WL.val v_r_Table _ (op_load one_22 rfl (BoxAt.cell (BoxAt.lift hS58.ext hx6) rfl)) rfl ?_
          have hr68 := inR_len (Ty.lift _ (Ext.trans hE7 hS58.ext) r_r_Table)
          refine WL.val (Value.int .i64 ((r_Table).length : Int)) _ (op_lenL sl_22 (Ty.lift _ (Ext.trans hE7 hS58.ext) r_r_Table) rfl) rfl ?_
          refine WL.val (Value.int .i64 (0 : Int)) _ (op_move rfl) rfl ?_
          refine WL.nil ?_
          show W _ _ _ _ _ _
          obtain ⟨res69, hres70, hb44⟩ := bs hb44
          refine W.blockLoop (fun fq wq => ∃ s, res69 = Res.fin s ∧ fq 1 = (Value.pointer (some ⟨b1, 0, none⟩)) ∧ fq 3 = (Value.int .i64 (k12 : Int)) ∧ fq 4 = u33 ∧ fq 13 = v_r_Table ∧ fq 14 = (Value.int .i64 ((r_Table).length : Int)) ∧ fq 15 = (Value.int .i64 (k12 : Int)) ∧ fq 21 = v_r_Table ∧ fq 22 = (Value.int .i64 ((r_Table).length : Int)) ∧ fq 23 = (Value.int .i64 (k39 : Int)) ∧ St wd2 wq []) ?_ ?_
          · refine W.forN (fun k (s : Unit) fq wq => fq 1 = (Value.pointer (some ⟨b1, 0, none⟩)) ∧ fq 3 = (Value.int .i64 (k12 : Int)) ∧ fq 4 = u33 ∧ fq 5 = (Value.int .i64 (k39 : Int)) ∧ fq 6 = u65 ∧ fq 13 = v_r_Table ∧ fq 14 = (Value.int .i64 ((r_Table).length : Int)) ∧ fq 15 = (Value.int .i64 (k12 : Int)) ∧ fq 21 = v_r_Table ∧ fq 22 = (Value.int .i64 ((r_Table).length : Int)) ∧ fq 23 = (Value.int .i64 (k39 : Int)) ∧ fq 30 = (Value.int .i64 ((r_Table).length : Int)) ∧ fq 31 = Value.int .i64 (k : Int) ∧ InR .i64 (k : Int) ∧ St wd2 wq []) hres70 ⟨hf48, hf49, hf50, rfl, rfl, hf51, hf52, hf53, hf54, hf55, hf56, rfl, rfl, (inL rfl), hS58⟩ ?_ ?_
            · intro k71 s785 ct72 f73 wd74 hk75 hb76 hI77 hbrk78 hret79
              obtain ⟨⟩ := s785
              replace hI77 : f73 1 = (Value.pointer (some ⟨b1, 0, none⟩)) ∧ f73 3 = (Value.int .i64 (k12 : Int)) ∧ f73 4 = u33 ∧ f73 5 = (Value.int .i64 (k39 : Int)) ∧ f73 6 = u65 ∧ f73 13 = v_r_Table ∧ f73 14 = (Value.int .i64 ((r_Table).length : Int)) ∧ f73 15 = (Value.int .i64 (k12 : Int)) ∧ f73 21 = v_r_Table ∧ f73 22 = (Value.int .i64 ((r_Table).length : Int)) ∧ f73 23 = (Value.int .i64 (k39 : Int)) ∧ f73 30 = (Value.int .i64 ((r_Table).length : Int)) ∧ f73 31 = Value.int .i64 (k71 : Int) ∧ InR .i64 (k71 : Int) ∧ St wd2 wd74 [] := hI77
              replace hb76 : p_impl_Ring_bracketFault_L3 x29 k39 r_Table x61 k12 k71  = some ct72 := hb76
              unfold p_impl_Ring_bracketFault_L3 at hb76
              obtain ⟨hf80, hf81, hf82, hf83, hf84, hf85, hf86, hf87, hf88, hf89, hf90, hf91, hf92, hr93, hS94⟩ := hI77
              refine W.seq (W.region ?_)
              refine WL.val (Value.bool (decide ((k71 : Int) < ((r_Table).length : Int)))) _ (op_lss hf92 hf91) rfl ?_
              have hl95 : (k71 : Int) < ((r_Table).length : Int) := by omega
              refine WL.nil ?_
              refine W.seq ?_
              refine W.condT (decide ((k71 : Int) < ((r_Table).length : Int))) rfl (decide_eq_true hl95) ?_
              refine W.skip ?_
              refine W.seq ?_
              refine W.block ?_
              refine W.seq (W.region ?_)
              refine WL.val (Value.int .i64 (k71 : Int)) _ (op_move hf92) rfl ?_
              refine WL.val (Value.int .i64 (k71 : Int)) _ (op_assign rfl) rfl ?_
              refine WL.nil ?_
              refine W.seq (W.region ?_)
              refine WL.val (Value.pointer (some ⟨b1, 0, none⟩)) _ (op_fieldAddr fd_28_0 hf80) rfl ?_
              refine WL.val v_r_Table _ (op_load one_22 rfl (BoxAt.cell (BoxAt.lift hS94.ext hx6) rfl)) rfl ?_
              have hr97 := inR_len (Ty.lift _ (Ext.trans hE7 hS94.ext) r_r_Table)
              refine WL.val (Value.int .i64 ((r_Table).length : Int)) _ (op_lenL sl_22 (Ty.lift _ (Ext.trans hE7 hS94.ext) r_r_Table) rfl) rfl ?_
              refine WL.val (Value.int .i64 (0 : Int)) _ (op_move rfl) rfl ?_
              refine WL.nil ?_
              show W _ _ _ _ _ _
              obtain ⟨res98, hres99, hb76⟩ := bs hb76
              refine W.blockLoop (fun fq wq => ∃ s, res98 = Res.fin s ∧ fq 1 = (Value.pointer (some ⟨b1, 0, none⟩)) ∧ fq 3 = (Value.int .i64 (k12 : Int)) ∧ fq 4 = u33 ∧ fq 5 = (Value.int .i64 (k39 : Int)) ∧ fq 6 = u65 ∧ fq 13 = v_r_Table ∧ fq 14 = (Value.int .i64 ((r_Table).length : Int)) ∧ fq 15 = (Value.int .i64 (k12 : Int)) ∧ fq 21 = v_r_Table ∧ fq 22 = (Value.int .i64 ((r_Table).length : Int)) ∧ fq 23 = (Value.int .i64 (k39 : Int)) ∧ fq 30 = (Value.int .i64 ((r_Table).length : Int)) ∧ fq 31 = (Value.int .i64 (k71 : Int)) ∧ St wd2 wq []) ?_ ?_
              · refine W.forN (fun k (s : Unit) fq wq => fq 1 = (Value.pointer (some ⟨b1, 0, none⟩)) ∧ fq 3 = (Value.int .i64 (k12 : Int)) ∧ fq 4 = u33 ∧ fq 5 = (Value.int .i64 (k39 : Int)) ∧ fq 6 = u65 ∧ fq 7 = (Value.int .i64 (k71 : Int)) ∧ fq 13 = v_r_Table ∧ fq 14 = (Value.int .i64 ((r_Table).length : Int)) ∧ fq 15 = (Value.int .i64 (k12 : Int)) ∧ fq 21 = v_r_Table ∧ fq 22 = (Value.int .i64 ((r_Table).length : Int)) ∧ fq 23 = (Value.int .i64 (k39 : Int)) ∧ fq 30 = (Value.int .i64 ((r_Table).length : Int)) ∧ fq 31 = (Value.int .i64 (k71 : Int)) ∧ fq 36 = (Value.int .i64 ((r_Table).length : Int)) ∧ fq 37 = Value.int .i64 (k : Int) ∧ InR .i64 (k : Int) ∧ St wd2 wq []) hres99 ⟨hf80, hf81, hf82, hf83, hf84, rfl, hf85, hf86, hf87, hf88, hf89, hf90, hf91, hf92, rfl, rfl, (inL rfl), hS94⟩ ?_ ?_
                · intro k100 s741 ct101 f102 wd103 hk104 hb105 hI106 hbrk107 hret108
                  obtain ⟨⟩ := s741
                  replace hI106 : f102 1 = (Value.pointer (some ⟨b1, 0, none⟩)) ∧ f102 3 = (Value.int .i64 (k12 : Int)) ∧ f102 4 = u33 ∧ f102 5 = (Value.int .i64 (k39 : Int)) ∧ f102 6 = u65 ∧ f102 7 = (Value.int .i64 (k71 : Int)) ∧ f102 13 = v_r_Table ∧ f102 14 = (Value.int .i64 ((r_Table).length : Int)) ∧ f102 15 = (Value.int .i64 (k12 : Int)) ∧ f102 21 = v_r_Table ∧ f102 22 = (Value.int .i64 ((r_Table).length : Int)) ∧ f102 23 = (Value.int .i64 (k39 : Int)) ∧ f102 30 = (Value.int .i64 ((r_Table).length : Int)) ∧ f102 31 = (Value.int .i64 (k71 : Int)) ∧ f102 36 = (Value.int .i64 ((r_Table).length : Int)) ∧ f102 37 = Value.int .i64 (k100 : Int) ∧ InR .i64 (k100 : Int) ∧ St wd2 wd103 [] := hI106
                  replace hb105 : p_impl_Ring_bracketFault_L4 x29 k39 r_Table k71 x61 k12 k100  = some ct101 := hb105
                  unfold p_impl_Ring_bracketFault_L4 at hb105
                  obtain ⟨hf109, hf110, hf111, hf112, hf113, hf114, hf115, hf116, hf117, hf118, hf119, hf120, hf121, hf122, hf123, hf124, hr125, hS126⟩ := hI106
                  refine W.seq (W.region ?_)
                  refine WL.val (Value.bool (decide ((k100 : Int) < ((r_Table).length : Int)))) _ (op_lss hf124 hf123) rfl ?_
                  have hl127 : (k100 : Int) < ((r_Table).length : Int) := by omega
                  refine WL.nil ?_
                  refine W.seq ?_
                  refine W.condT (decide ((k100 : Int) < ((r_Table).length : Int))) rfl (decide_eq_true hl127) ?_
                  refine W.skip ?_
                  refine W.seq ?_
                  refine W.block ?_
                  refine W.seq (W.region ?_)
                  refine WL.val (Value.int .i64 (k100 : Int)) _ (op_move hf124) rfl ?_
                  refine WL.val (Value.int .i64 (k100 : Int)) _ (op_assign rfl) rfl ?_
                  refine WL.nil ?_
                  refine W.seq (W.region ?_)
                  refine WL.val (Value.int .i64 (0 : Int)) _ (op_assign rfl) rfl ?_
                  refine WL.val (Value.int .i64 (0 : Int)) _ (op_assign rfl) rfl ?_
                  refine WL.nil ?_
                  refine W.seq (W.seq (W.region ?_))
                  refine WL.val (Value.pointer (some ⟨b1, 0, none⟩)) _ (op_fieldAddr fd_28_0 hf109) rfl ?_
                  refine WL.val v_r_Table _ (op_load one_22 rfl (BoxAt.cell (BoxAt.lift hS126.ext hx6) rfl)) rfl ?_
                  have hr129 := inR_len (Ty.lift _ (Ext.trans hE7 hS126.ext) r_r_Table)
                  refine WL.val (Value.int .i64 ((r_Table).length : Int)) _ (op_lenL sl_22 (Ty.lift _ (Ext.trans hE7 hS126.ext) r_r_Table) rfl) rfl ?_
                  refine WL.val (Value.int .i64 (0 : Int)) _ (op_move rfl) rfl ?_
                  refine WL.nil ?_
                  show W _ _ _ _ _ _
                  obtain ⟨res130, hres131, hb105⟩ := bs hb105
                  refine W.blockLoop (fun fq wq => ∃ s, res130 = Res.fin s ∧ fq 1 = (Value.pointer (some ⟨b1, 0, none⟩)) ∧ fq 3 = (Value.int .i64 (k12 : Int)) ∧ fq 4 = u33 ∧ fq 5 = (Value.int .i64 (k39 : Int)) ∧ fq 6 = u65 ∧ fq 7 = (Value.int .i64 (k71 : Int)) ∧ fq 8 = (Value.int .i64 (k100 : Int)) ∧ fq 9 = Value.int .i64 s.1 ∧ InR .i64 s.1 ∧ fq 10 = Value.int .i64 s.2 ∧ InR .i64 s.2 ∧ fq 13 = v_r_Table ∧ fq 14 = (Value.int .i64 ((r_Table).length : Int)) ∧ fq 15 = (Value.int .i64 (k12 : Int)) ∧ fq 21 = v_r_Table ∧ fq 22 = (Value.int .i64 ((r_Table).length : Int)) ∧ fq 23 = (Value.int .i64 (k39 : Int)) ∧ fq 30 = (Value.int .i64 ((r_Table).length : Int)) ∧ fq 31 = (Value.int .i64 (k71 : Int)) ∧ fq 36 = (Value.int .i64 ((r_Table).length : Int)) ∧ fq 37 = (Value.int .i64 (k100 : Int)) ∧ St wd2 wq []) ?_ ?_
                  · refine W.forN (fun k (s : Int × Int) fq wq => fq 1 = (Value.pointer (some ⟨b1, 0, none⟩)) ∧ fq 3 = (Value.int .i64 (k12 : Int)) ∧ fq 4 = u33 ∧ fq 5 = (Value.int .i64 (k39 : Int)) ∧ fq 6 = u65 ∧ fq 7 = (Value.int .i64 (k71 : Int)) ∧ fq 8 = (Value.int .i64 (k100 : Int)) ∧ fq 9 = Value.int .i64 s.1 ∧ InR .i64 s.1 ∧ fq 10 = Value.int .i64 s.2 ∧ InR .i64 s.2 ∧ fq 13 = v_r_Table ∧ fq 14 = (Value.int .i64 ((r_Table).length : Int)) ∧ fq 15 = (Value.int .i64 (k12 : Int)) ∧ fq 21 = v_r_Table ∧ fq 22 = (Value.int .i64 ((r_Table).length : Int)) ∧ fq 23 = (Value.int .i64 (k39 : Int)) ∧ fq 30 = (Value.int .i64 ((r_Table).length : Int)) ∧ fq 31 = (Value.int .i64 (k71 : Int)) ∧ fq 36 = (Value.int .i64 ((r_Table).length : Int)) ∧ fq 37 = (Value.int .i64 (k100 : Int)) ∧ fq 42 = (Value.int .i64 ((r_Table).length : Int)) ∧ fq 43 = Value.int .i64 (k : Int) ∧ InR .i64 (k : Int) ∧ St wd2 wq []) hres131 ⟨hf109, hf110, hf111, hf112, hf113, hf114, rfl, rfl, (inL rfl), rfl, (inL rfl), hf115, hf116, hf117, hf118, hf119, hf120, hf121, hf122, hf123, hf124, rfl, rfl, (inL rfl), hS126⟩ ?_ ?_
                    · intro k132 s672 ct135 f136 wd137 hk138 hb139 hI140 hbrk141 hret142
                      obtain ⟨x133, x134⟩ := s672
                      replace hI140 : f136 1 = (Value.pointer (some ⟨b1, 0, none⟩)) ∧ f136 3 = (Value.int .i64 (k12 : Int)) ∧ f136 4 = u33 ∧ f136 5 = (Value.int .i64 (k39 : Int)) ∧ f136 6 = u65 ∧ f136 7 = (Value.int .i64 (k71 : Int)) ∧ f136 8 = (Value.int .i64 (k100 : Int)) ∧ f136 9 = Value.int .i64 x133 ∧ InR .i64 x133 ∧ f136 10 = Value.int .i64 x134 ∧ InR .i64 x134 ∧ f136 13 = v_r_Table ∧ f136 14 = (Value.int .i64 ((r_Table).length : Int)) ∧ f136 15 = (Value.int .i64 (k12 : Int)) ∧ f136 21 = v_r_Table ∧ f136 22 = (Value.int .i64 ((r_Table).length : Int)) ∧ f136 23 = (Value.int .i64 (k39 : Int)) ∧ f136 30 = (Value.int .i64 ((r_Table).length : Int)) ∧ f136 31 = (Value.int .i64 (k71 : Int)) ∧ f136 36 = (Value.int .i64 ((r_Table).length : Int)) ∧ f136 37 = (Value.int .i64 (k100 : Int)) ∧ f136 42 = (Value.int .i64 ((r_Table).length : Int)) ∧ f136 43 = Value.int .i64 (k132 : Int) ∧ InR .i64 (k132 : Int) ∧ St wd2 wd137 [] := hI140
                      replace hb139 : p_impl_Ring_bracketFault_L5 x29 k39 r_Table k71 k100 x61 k132 x133 x134 = some ct135 := hb139
                      unfold p_impl_Ring_bracketFault_L5 at hb139
                      obtain ⟨hf143, hf144, hf145, hf146, hf147, hf148, hf149, hf150, hr151, hf152, hr153, hf154, hf155, hf156, hf157, hf158, hf159, hf160, hf161, hf162, hf163, hf164, hf165, hr166, hS167⟩ := hI140
                      refine W.seq (W.region ?_)
                      refine WL.val (Value.bool (decide ((k132 : Int) < ((r_Table).length : Int)))) _ (op_lss hf165 hf164) rfl ?_
                      have hl168 : (k132 : Int) < ((r_Table).length : Int) := by omega
                      refine WL.nil ?_
                      refine W.seq ?_
                      refine W.condT (decide ((k132 : Int) < ((r_Table).length : Int))) rfl (decide_eq_true hl168) ?_
                      refine W.skip ?_
                      refine W.seq ?_
                      refine W.block ?_
                      refine W.seq (W.region ?_)
                      refine WL.val (Value.int .i64 (k132 : Int)) _ (op_move hf165) rfl ?_
                      refine WL.val (Value.int .i64 (k132 : Int)) _ (op_assign rfl) rfl ?_
                      refine WL.nil ?_
                      refine W.seq ?_
                      obtain ⟨x206, hx209, hb139⟩ := bs hb139
                      obtain ⟨ha207, hb208, hx209⟩ := idx_some hx209
                      obtain ⟨u220, hc221, hr222⟩ := repSl.el hr35 hx209
                      obtain ⟨x245, hx248, hb139⟩ := bs hb139
                      obtain ⟨ha246, hb247, hx248⟩ := idx_some hx248
                      obtain ⟨u259, hc260, hr261⟩ := repSl.el hr222 hx248
                      obtain ⟨rfl, hr261⟩ := hr261
                      obtain ⟨x301, hx304, hb139⟩ := bs hb139
                      obtain ⟨ha302, hb303, hx304⟩ := idx_some hx304
                      obtain ⟨u315, hc316, hr317⟩ := repSl.el r_r_Table hx304
                      obtain ⟨x340, hx343, hb139⟩ := bs hb139
                      obtain ⟨ha341, hb342, hx343⟩ := idx_some hx343
                      obtain ⟨u354, hc355, hr356⟩ := repSl.el hr317 hx343
                      obtain ⟨x379, hx382, hb139⟩ := bs hb139
                      obtain ⟨ha380, hb381, hx382⟩ := idx_some hx382
                      obtain ⟨u393, hc394, hr395⟩ := repSl.el hr356 hx382
                      obtain ⟨rfl, hr395⟩ := hr395
                      refine W.drawR mixo 20 [] [fun _ v _ _ => v = (Value.int .i64 x133) ∧ InR .i64 x133, fun _ v _ _ => v = u33, fun _ v _ _ => v = (Value.int .i64 (k39 : Int)) ∧ InR .i64 (k39 : Int), fun _ v _ _ => v = (Value.pointer (some (elA u33 ((k39 : Int)).toNat))), fun _ v _ _ => v = u220, fun _ v _ _ => v = (Value.int .i64 (k132 : Int)) ∧ InR .i64 (k132 : Int), fun _ v _ _ => v = (Value.pointer (some (elA u220 ((k132 : Int)).toNat))), fun _ v _ _ => v = (Value.int .i64 x245) ∧ InR .i64 x245, fun _ v _ _ => v = (Value.pointer (some ⟨b1, 0, none⟩)), fun _ v _ _ => v = v_r_Table, fun _ v _ _ => v = (Value.int .i64 (k132 : Int)) ∧ InR .i64 (k132 : Int), fun _ v _ _ => v = (Value.pointer (some (elA v_r_Table ((k132 : Int)).toNat))), fun _ v _ _ => v = u315, fun _ v _ _ => v = (Value.int .i64 (k71 : Int)) ∧ InR .i64 (k71 : Int), fun _ v _ _ => v = (Value.pointer (some (elA u315 ((k71 : Int)).toNat))), fun _ v _ _ => v = u354, fun _ v _ _ => v = (Value.int .i64 (k100 : Int)) ∧ InR .i64 (k100 : Int), fun _ v _ _ => v = (Value.pointer (some (elA u354 ((k100 : Int)).toNat))), fun _ v _ _ => v = (Value.int .i64 x379) ∧ InR .i64 x379, fun _ v _ _ => v = (Value.int .i64 (w64 (x245 * x379))) ∧ InR .i64 (w64 (x245 * x379))] (by kernel_rfl) (by kernel_rfl) ⟨pk, pk, pk, pk, pk, pk, pk, pk, pk, pk, pk, pk, pk, pk, pk, pk, pk, pk, pk, pk, trivial⟩ ⟨?_, ?_, ?_, ?_, ?_, ?_, ?_, ?_, ?_, ?_, ?_, ?_, ?_, ?_, ?_, ?_, ?_, ?_, ?_, ?_, trivial⟩ ?_
                      · refine ObX.op rfl fun f170 wd171 he172 hout173 hphi174 => ?_
                        have e176 : f170 9 = (Value.int .i64 x133) := (hout173 9 rfl).trans hf150
                        exact OpX.val (Value.int .i64 x133) wd171 rfl (op_move e176) (Ext.refl _) ⟨rfl, hr151⟩
                      · refine ObX.op rfl fun f177 wd178 he179 hout180 hphi181 => ?_
                        have e183 : f177 4 = u33 := (hout180 4 rfl).trans hf145
                        exact OpX.val u33 wd178 rfl (op_move e183) (Ext.refl _) rfl
                      · refine ObX.op rfl fun f184 wd185 he186 hout187 hphi188 => ?_
                        have e190 : f184 5 = (Value.int .i64 (k39 : Int)) := (hout187 5 rfl).trans hf146
                        exact OpX.val (Value.int .i64 (k39 : Int)) wd185 rfl (op_move e190) (Ext.refl _) ⟨rfl, hr57⟩
                      · refine ObX.op rfl fun f191 wd192 he193 hout194 hphi195 => ?_
                        have hS196 := St.extend hS167 he193
                        obtain ⟨S197, hS198, hf199⟩ := hphi195 1 47 _ rfl rfl rfl
                        have e200 : f191 47 = u33 := hf199
                        obtain ⟨S201, hS202, hf203⟩ := hphi195 2 48 _ rfl rfl rfl
                        obtain ⟨e204, hr205⟩ := hf203
                        exact OpX.val (Value.pointer (some (elA u33 ((k39 : Int)).toNat))) wd192 rfl (op_idx sl_54 (Ty.lift _ (Ext.trans hE7 hS196.ext) hr35) e200 e204 ha207 hb208) (Ext.refl _) rfl
                      · refine ObX.op rfl fun f210 wd211 he212 hout213 hphi214 => ?_
                        have hS215 := St.extend hS167 he212
                        obtain ⟨S216, hS217, hf218⟩ := hphi214 3 49 _ rfl rfl rfl
                        have e219 : f210 49 = (Value.pointer (some (elA u33 ((k39 : Int)).toNat))) := hf218
                        exact OpX.val u220 wd211 rfl (op_load one_34 e219 (Ext.cell (Ext.trans hE7 hS215.ext) hc221)) (Ext.refl _) rfl
                      · refine ObX.op rfl fun f223 wd224 he225 hout226 hphi227 => ?_
                        have e229 : f223 11 = (Value.int .i64 (k132 : Int)) := (hout226 11 rfl).trans rfl
                        exact OpX.val (Value.int .i64 (k132 : Int)) wd224 rfl (op_move e229) (Ext.refl _) ⟨rfl, hr166⟩
                      · refine ObX.op rfl fun f230 wd231 he232 hout233 hphi234 => ?_
                        have hS235 := St.extend hS167 he232
                        obtain ⟨S236, hS237, hf238⟩ := hphi234 4 50 _ rfl rfl rfl
                        have e239 : f230 50 = u220 := hf238
                        obtain ⟨S240, hS241, hf242⟩ := hphi234 5 51 _ rfl rfl rfl
                        obtain ⟨e243, hr244⟩ := hf242
                        exact OpX.val (Value.pointer (some (elA u220 ((k132 : Int)).toNat))) wd231 rfl (op_idx sl_34 (Ty.lift _ (Ext.trans hE7 hS235.ext) hr222) e239 e243 ha246 hb247) (Ext.refl _) rfl
                      · refine ObX.op rfl fun f249 wd250 he251 hout252 hphi253 => ?_
                        have hS254 := St.extend hS167 he251
                        obtain ⟨S255, hS256, hf257⟩ := hphi253 6 52 _ rfl rfl rfl
                        have e258 : f249 52 = (Value.pointer (some (elA u220 ((k132 : Int)).toNat))) := hf257
                        exact OpX.val (Value.int .i64 x245) wd250 rfl (op_load one_2 e258 (Ext.cell (Ext.trans hE7 hS254.ext) hc260)) (Ext.refl _) ⟨rfl, hr261⟩
                      · refine ObX.op rfl fun f262 wd263 he264 hout265 hphi266 => ?_
                        have e268 : f262 1 = (Value.pointer (some ⟨b1, 0, none⟩)) := (hout265 1 rfl).trans hf143
                        exact OpX.val (Value.pointer (some ⟨b1, 0, none⟩)) wd263 rfl (op_fieldAddr fd_28_0 e268) (Ext.refl _) rfl
                      · refine ObX.op rfl fun f269 wd270 he271 hout272 hphi273 => ?_
                        have hS274 := St.extend hS167 he271
                        obtain ⟨S275, hS276, hf277⟩ := hphi273 8 54 _ rfl rfl rfl
                        have e278 : f269 54 = (Value.pointer (some ⟨b1, 0, none⟩)) := hf277
                        exact OpX.val v_r_Table wd270 rfl (op_load one_22 e278 (BoxAt.cell (BoxAt.lift hS274.ext hx6) rfl)) (Ext.refl _) rfl
                      · refine ObX.op rfl fun f279 wd280 he281 hout282 hphi283 => ?_
                        have e285 : f279 11 = (Value.int .i64 (k132 : Int)) := (hout282 11 rfl).trans rfl
                        exact OpX.val (Value.int .i64 (k132 : Int)) wd280 rfl (op_move e285) (Ext.refl _) ⟨rfl, hr166⟩
                      · refine ObX.op rfl fun f286 wd287 he288 hout289 hphi290 => ?_
                        have hS291 := St.extend hS167 he288
                        obtain ⟨S292, hS293, hf294⟩ := hphi290 9 55 _ rfl rfl rfl
                        have e295 : f286 55 = v_r_Table := hf294
                        obtain ⟨S296, hS297, hf298⟩ := hphi290 10 56 _ rfl rfl rfl
                        obtain ⟨e299, hr300⟩ := hf298
                        exact OpX.val (Value.pointer (some (elA v_r_Table ((k132 : Int)).toNat))) wd287 rfl (op_idx sl_22 (Ty.lift _ (Ext.trans hE7 hS291.ext) r_r_Table) e295 e299 ha302 hb303) (Ext.refl _) rfl
                      · refine ObX.op rfl fun f305 wd306 he307 hout308 hphi309 => ?_
                        have hS310 := St.extend hS167 he307
                        obtain ⟨S311, hS312, hf313⟩ := hphi309 11 57 _ rfl rfl rfl
                        have e314 : f305 57 = (Value.pointer (some (elA v_r_Table ((k132 : Int)).toNat))) := hf313
                        exact OpX.val u315 wd306 rfl (op_load one_54 e314 (Ext.cell (Ext.trans hE7 hS310.ext) hc316)) (Ext.refl _) rfl
                      · refine ObX.op rfl fun f318 wd319 he320 hout321 hphi322 => ?_
                        have e324 : f318 7 = (Value.int .i64 (k71 : Int)) := (hout321 7 rfl).trans hf148
                        exact OpX.val (Value.int .i64 (k71 : Int)) wd319 rfl (op_move e324) (Ext.refl _) ⟨rfl, hr93⟩
                      · refine ObX.op rfl fun f325 wd326 he327 hout328 hphi329 => ?_
                        have hS330 := St.extend hS167 he327
                        obtain ⟨S331, hS332, hf333⟩ := hphi329 12 58 _ rfl rfl rfl
                        have e334 : f325 58 = u315 := hf333
                        obtain ⟨S335, hS336, hf337⟩ := hphi329 13 59 _ rfl rfl rfl
                        obtain ⟨e338, hr339⟩ := hf337
                        exact OpX.val (Value.pointer (some (elA u315 ((k71 : Int)).toNat))) wd326 rfl (op_idx sl_54 (Ty.lift _ (Ext.trans hE7 hS330.ext) hr317) e334 e338 ha341 hb342) (Ext.refl _) rfl
                      · refine ObX.op rfl fun f344 wd345 he346 hout347 hphi348 => ?_
                        have hS349 := St.extend hS167 he346
                        obtain ⟨S350, hS351, hf352⟩ := hphi348 14 60 _ rfl rfl rfl
                        have e353 : f344 60 = (Value.pointer (some (elA u315 ((k71 : Int)).toNat))) := hf352
                        exact OpX.val u354 wd345 rfl (op_load one_34 e353 (Ext.cell (Ext.trans hE7 hS349.ext) hc355)) (Ext.refl _) rfl
                      · refine ObX.op rfl fun f357 wd358 he359 hout360 hphi361 => ?_
                        have e363 : f357 8 = (Value.int .i64 (k100 : Int)) := (hout360 8 rfl).trans hf149
                        exact OpX.val (Value.int .i64 (k100 : Int)) wd358 rfl (op_move e363) (Ext.refl _) ⟨rfl, hr125⟩
                      · refine ObX.op rfl fun f364 wd365 he366 hout367 hphi368 => ?_
                        have hS369 := St.extend hS167 he366
                        obtain ⟨S370, hS371, hf372⟩ := hphi368 15 61 _ rfl rfl rfl
                        have e373 : f364 61 = u354 := hf372
                        obtain ⟨S374, hS375, hf376⟩ := hphi368 16 62 _ rfl rfl rfl
                        obtain ⟨e377, hr378⟩ := hf376
                        exact OpX.val (Value.pointer (some (elA u354 ((k100 : Int)).toNat))) wd365 rfl (op_idx sl_34 (Ty.lift _ (Ext.trans hE7 hS369.ext) hr356) e373 e377 ha380 hb381) (Ext.refl _) rfl
                      · refine ObX.op rfl fun f383 wd384 he385 hout386 hphi387 => ?_
                        have hS388 := St.extend hS167 he385
                        obtain ⟨S389, hS390, hf391⟩ := hphi387 17 63 _ rfl rfl rfl
                        have e392 : f383 63 = (Value.pointer (some (elA u354 ((k100 : Int)).toNat))) := hf391
                        exact OpX.val (Value.int .i64 x379) wd384 rfl (op_load one_2 e392 (Ext.cell (Ext.trans hE7 hS388.ext) hc394)) (Ext.refl _) ⟨rfl, hr395⟩
                      · refine ObX.op rfl fun f396 wd397 he398 hout399 hphi400 => ?_
                        obtain ⟨S402, hS403, hf404⟩ := hphi400 7 53 _ rfl rfl rfl
                        obtain ⟨e405, hr406⟩ := hf404
                        obtain ⟨S407, hS408, hf409⟩ := hphi400 18 64 _ rfl rfl rfl
                        obtain ⟨e410, hr411⟩ := hf409
                        exact OpX.val (Value.int .i64 (w64 (x245 * x379))) wd397 rfl (op_mul e405 e410) (Ext.refl _) ⟨rfl, (inR_wrap _ _)⟩
                      · intro f412 wd413 Ss414 he415 hout416 hSn417 hSd418 hphi419
                        show WL _ _ _ _ _ _ _
                        have hS420 := St.extend hS167 he415
                        obtain ⟨e421, hr422⟩ := hphi419 0 46 _ (by decide) rfl rfl
                        obtain ⟨e423, hr424⟩ := hphi419 19 65 _ (by decide) rfl rfl
                        have e425 : f412 1 = (Value.pointer (some ⟨b1, 0, none⟩)) := (hout416 1 rfl).trans hf143
                        have e426 : f412 3 = (Value.int .i64 (k12 : Int)) := (hout416 3 rfl).trans hf144
                        have e427 : f412 4 = u33 := (hout416 4 rfl).trans hf145
                        have e428 : f412 5 = (Value.int .i64 (k39 : Int)) := (hout416 5 rfl).trans hf146
                        have e429 : f412 6 = u65 := (hout416 6 rfl).trans hf147
                        have e430 : f412 7 = (Value.int .i64 (k71 : Int)) := (hout416 7 rfl).trans hf148
                        have e431 : f412 8 = (Value.int .i64 (k100 : Int)) := (hout416 8 rfl).trans hf149
                        have e432 : f412 10 = (Value.int .i64 x134) := (hout416 10 rfl).trans hf152
                        have e433 : f412 11 = (Value.int .i64 (k132 : Int)) := (hout416 11 rfl).trans rfl
                        have e434 : f412 13 = v_r_Table := (hout416 13 rfl).trans hf154
                        have e435 : f412 14 = (Value.int .i64 ((r_Table).length : Int)) := (hout416 14 rfl).trans hf155
                        have e436 : f412 15 = (Value.int .i64 (k12 : Int)) := (hout416 15 rfl).trans hf156
                        have e437 : f412 21 = v_r_Table := (hout416 21 rfl).trans hf157
                        have e438 : f412 22 = (Value.int .i64 ((r_Table).length : Int)) := (hout416 22 rfl).trans hf158
                        have e439 : f412 23 = (Value.int .i64 (k39 : Int)) := (hout416 23 rfl).trans hf159
                        have e440 : f412 30 = (Value.int .i64 ((r_Table).length : Int)) := (hout416 30 rfl).trans hf160
                        have e441 : f412 31 = (Value.int .i64 (k71 : Int)) := (hout416 31 rfl).trans hf161
                        have e442 : f412 36 = (Value.int .i64 ((r_Table).length : Int)) := (hout416 36 rfl).trans hf162
                        have e443 : f412 37 = (Value.int .i64 (k100 : Int)) := (hout416 37 rfl).trans hf163
                        have e444 : f412 42 = (Value.int .i64 ((r_Table).length : Int)) := (hout416 42 rfl).trans hf164
                        have e445 : f412 43 = (Value.int .i64 (k132 : Int)) := (hout416 43 rfl).trans hf165
                        refine WL.val (Value.int .i64 (w64 (x133 + (w64 (x245 * x379))))) _ (op_add e421 e423) rfl ?_
                        refine WL.val (Value.int .i64 (w64 (x133 + (w64 (x245 * x379))))) _ (op_assign rfl) rfl ?_
                        refine WL.nil ?_
                        show W _ _ _ _ _ _
                        obtain ⟨x482, hx485, hb139⟩ := bs hb139
                        obtain ⟨ha483, hb484, hx485⟩ := idx_some hx485
                        obtain ⟨u496, hc497, hr498⟩ := repSl.el hr67 hx485
                        obtain ⟨x521, hx524, hb139⟩ := bs hb139
                        obtain ⟨ha522, hb523, hx524⟩ := idx_some hx524
                        obtain ⟨u535, hc536, hr537⟩ := repSl.el hr498 hx524
                        obtain ⟨rfl, hr537⟩ := hr537
                        obtain ⟨x567, hx570, hb139⟩ := bs hb139
                        obtain ⟨ha568, hb569, hx570⟩ := idx_some hx570
                        obtain ⟨u581, hc582, hr583⟩ := repSl.el hr35 hx570
                        obtain ⟨x606, hx609, hb139⟩ := bs hb139
                        obtain ⟨ha607, hb608, hx609⟩ := idx_some hx609
                        obtain ⟨u620, hc621, hr622⟩ := repSl.el hr583 hx609
                        obtain ⟨rfl, hr622⟩ := hr622
                        refine W.drawR mixo 16 [] [fun _ v _ _ => v = (Value.int .i64 x134) ∧ InR .i64 x134, fun _ v _ _ => v = u65, fun _ v _ _ => v = (Value.int .i64 (k71 : Int)) ∧ InR .i64 (k71 : Int), fun _ v _ _ => v = (Value.pointer (some (elA u65 ((k71 : Int)).toNat))), fun _ v _ _ => v = u496, fun _ v _ _ => v = (Value.int .i64 (k132 : Int)) ∧ InR .i64 (k132 : Int), fun _ v _ _ => v = (Value.pointer (some (elA u496 ((k132 : Int)).toNat))), fun _ v _ _ => v = (Value.int .i64 x521) ∧ InR .i64 x521, fun _ v _ _ => v = u33, fun _ v _ _ => v = (Value.int .i64 (k132 : Int)) ∧ InR .i64 (k132 : Int), fun _ v _ _ => v = (Value.pointer (some (elA u33 ((k132 : Int)).toNat))), fun _ v _ _ => v = u581, fun _ v _ _ => v = (Value.int .i64 (k100 : Int)) ∧ InR .i64 (k100 : Int), fun _ v _ _ => v = (Value.pointer (some (elA u581 ((k100 : Int)).toNat))), fun _ v _ _ => v = (Value.int .i64 x606) ∧ InR .i64 x606, fun _ v _ _ => v = (Value.int .i64 (w64 (x521 * x606))) ∧ InR .i64 (w64 (x521 * x606))] (by kernel_rfl) (by kernel_rfl) ⟨pk, pk, pk, pk, pk, pk, pk, pk, pk, pk, pk, pk, pk, pk, pk, pk, trivial⟩ ⟨?_, ?_, ?_, ?_, ?_, ?_, ?_, ?_, ?_, ?_, ?_, ?_, ?_, ?_, ?_, ?_, trivial⟩ ?_
                        · refine ObX.op rfl fun f446 wd447 he448 hout449 hphi450 => ?_
                          have e452 : f446 10 = (Value.int .i64 x134) := (hout449 10 rfl).trans e432
                          exact OpX.val (Value.int .i64 x134) wd447 rfl (op_move e452) (Ext.refl _) ⟨rfl, hr153⟩
                        · refine ObX.op rfl fun f453 wd454 he455 hout456 hphi457 => ?_
                          have e459 : f453 6 = u65 := (hout456 6 rfl).trans e429
                          exact OpX.val u65 wd454 rfl (op_move e459) (Ext.refl _) rfl
                        · refine ObX.op rfl fun f460 wd461 he462 hout463 hphi464 => ?_
                          have e466 : f460 7 = (Value.int .i64 (k71 : Int)) := (hout463 7 rfl).trans e430
                          exact OpX.val (Value.int .i64 (k71 : Int)) wd461 rfl (op_move e466) (Ext.refl _) ⟨rfl, hr93⟩
                        · refine ObX.op rfl fun f467 wd468 he469 hout470 hphi471 => ?_
                          have hS472 := St.extend hS420 he469
                          obtain ⟨S473, hS474, hf475⟩ := hphi471 1 68 _ rfl rfl rfl
                          have e476 : f467 68 = u65 := hf475
                          obtain ⟨S477, hS478, hf479⟩ := hphi471 2 69 _ rfl rfl rfl
                          obtain ⟨e480, hr481⟩ := hf479
                          exact OpX.val (Value.pointer (some (elA u65 ((k71 : Int)).toNat))) wd468 rfl (op_idx sl_54 (Ty.lift _ (Ext.trans hE7 hS472.ext) hr67) e476 e480 ha483 hb484) (Ext.refl _) rfl
                        · refine ObX.op rfl fun f486 wd487 he488 hout489 hphi490 => ?_
                          have hS491 := St.extend hS420 he488
                          obtain ⟨S492, hS493, hf494⟩ := hphi490 3 70 _ rfl rfl rfl
                          have e495 : f486 70 = (Value.pointer (some (elA u65 ((k71 : Int)).toNat))) := hf494
                          exact OpX.val u496 wd487 rfl (op_load one_34 e495 (Ext.cell (Ext.trans hE7 hS491.ext) hc497)) (Ext.refl _) rfl
                        · refine ObX.op rfl fun f499 wd500 he501 hout502 hphi503 => ?_
                          have e505 : f499 11 = (Value.int .i64 (k132 : Int)) := (hout502 11 rfl).trans e433
                          exact OpX.val (Value.int .i64 (k132 : Int)) wd500 rfl (op_move e505) (Ext.refl _) ⟨rfl, hr166⟩
                        · refine ObX.op rfl fun f506 wd507 he508 hout509 hphi510 => ?_
                          have hS511 := St.extend hS420 he508
                          obtain ⟨S512, hS513, hf514⟩ := hphi510 4 71 _ rfl rfl rfl
                          have e515 : f506 71 = u496 := hf514
                          obtain ⟨S516, hS517, hf518⟩ := hphi510 5 72 _ rfl rfl rfl
                          obtain ⟨e519, hr520⟩ := hf518
                          exact OpX.val (Value.pointer (some (elA u496 ((k132 : Int)).toNat))) wd507 rfl (op_idx sl_34 (Ty.lift _ (Ext.trans hE7 hS511.ext) hr498) e515 e519 ha522 hb523) (Ext.refl _) rfl
                        · refine ObX.op rfl fun f525 wd526 he527 hout528 hphi529 => ?_
                          have hS530 := St.extend hS420 he527
                          obtain ⟨S531, hS532, hf533⟩ := hphi529 6 73 _ rfl rfl rfl
                          have e534 : f525 73 = (Value.pointer (some (elA u496 ((k132 : Int)).toNat))) := hf533
                          exact OpX.val (Value.int .i64 x521) wd526 rfl (op_load one_2 e534 (Ext.cell (Ext.trans hE7 hS530.ext) hc536)) (Ext.refl _) ⟨rfl, hr537⟩
                        · refine ObX.op rfl fun f538 wd539 he540 hout541 hphi542 => ?_
                          have e544 : f538 4 = u33 := (hout541 4 rfl).trans e427
                          exact OpX.val u33 wd539 rfl (op_move e544) (Ext.refl _) rfl
                        · refine ObX.op rfl fun f545 wd546 he547 hout548 hphi549 => ?_
                          have e551 : f545 11 = (Value.int .i64 (k132 : Int)) := (hout548 11 rfl).trans e433
                          exact OpX.val (Value.int .i64 (k132 : Int)) wd546 rfl (op_move e551) (Ext.refl _) ⟨rfl, hr166⟩
                        · refine ObX.op rfl fun f552 wd553 he554 hout555 hphi556 => ?_
                          have hS557 := St.extend hS420 he554
                          obtain ⟨S558, hS559, hf560⟩ := hphi556 8 75 _ rfl rfl rfl
                          have e561 : f552 75 = u33 := hf560
                          obtain ⟨S562, hS563, hf564⟩ := hphi556 9 76 _ rfl rfl rfl
                          obtain ⟨e565, hr566⟩ := hf564
                          exact OpX.val (Value.pointer (some (elA u33 ((k132 : Int)).toNat))) wd553 rfl (op_idx sl_54 (Ty.lift _ (Ext.trans hE7 hS557.ext) hr35) e561 e565 ha568 hb569) (Ext.refl _) rfl
                        · refine ObX.op rfl fun f571 wd572 he573 hout574 hphi575 => ?_
                          have hS576 := St.extend hS420 he573
                          obtain ⟨S577, hS578, hf579⟩ := hphi575 10 77 _ rfl rfl rfl
                          have e580 : f571 77 = (Value.pointer (some (elA u33 ((k132 : Int)).toNat))) := hf579
                          exact OpX.val u581 wd572 rfl (op_load one_34 e580 (Ext.cell (Ext.trans hE7 hS576.ext) hc582)) (Ext.refl _) rfl
                        · refine ObX.op rfl fun f584 wd585 he586 hout587 hphi588 => ?_
                          have e590 : f584 8 = (Value.int .i64 (k100 : Int)) := (hout587 8 rfl).trans e431
                          exact OpX.val (Value.int .i64 (k100 : Int)) wd585 rfl (op_move e590) (Ext.refl _) ⟨rfl, hr125⟩
                        · refine ObX.op rfl fun f591 wd592 he593 hout594 hphi595 => ?_
                          have hS596 := St.extend hS420 he593
                          obtain ⟨S597, hS598, hf599⟩ := hphi595 11 78 _ rfl rfl rfl
                          have e600 : f591 78 = u581 := hf599
                          obtain ⟨S601, hS602, hf603⟩ := hphi595 12 79 _ rfl rfl rfl
                          obtain ⟨e604, hr605⟩ := hf603
                          exact OpX.val (Value.pointer (some (elA u581 ((k100 : Int)).toNat))) wd592 rfl (op_idx sl_34 (Ty.lift _ (Ext.trans hE7 hS596.ext) hr583) e600 e604 ha607 hb608) (Ext.refl _) rfl
                        · refine ObX.op rfl fun f610 wd611 he612 hout613 hphi614 => ?_
                          have hS615 := St.extend hS420 he612
                          obtain ⟨S616, hS617, hf618⟩ := hphi614 13 80 _ rfl rfl rfl
                          have e619 : f610 80 = (Value.pointer (some (elA u581 ((k100 : Int)).toNat))) := hf618
                          exact OpX.val (Value.int .i64 x606) wd611 rfl (op_load one_2 e619 (Ext.cell (Ext.trans hE7 hS615.ext) hc621)) (Ext.refl _) ⟨rfl, hr622⟩
                        · refine ObX.op rfl fun f623 wd624 he625 hout626 hphi627 => ?_
                          obtain ⟨S629, hS630, hf631⟩ := hphi627 7 74 _ rfl rfl rfl
                          obtain ⟨e632, hr633⟩ := hf631
                          obtain ⟨S634, hS635, hf636⟩ := hphi627 14 81 _ rfl rfl rfl
                          obtain ⟨e637, hr638⟩ := hf636
                          exact OpX.val (Value.int .i64 (w64 (x521 * x606))) wd624 rfl (op_mul e632 e637) (Ext.refl _) ⟨rfl, (inR_wrap _ _)⟩
                        · intro f639 wd640 Ss641 he642 hout643 hSn644 hSd645 hphi646
                          show WL _ _ _ _ _ _ _
                          have hS647 := St.extend hS420 he642
                          obtain ⟨e648, hr649⟩ := hphi646 0 67 _ (by decide) rfl rfl
                          obtain ⟨e650, hr651⟩ := hphi646 15 82 _ (by decide) rfl rfl
                          have e652 : f639 1 = (Value.pointer (some ⟨b1, 0, none⟩)) := (hout643 1 rfl).trans e425
                          have e653 : f639 3 = (Value.int .i64 (k12 : Int)) := (hout643 3 rfl).trans e426
                          have e654 : f639 4 = u33 := (hout643 4 rfl).trans e427
                          have e655 : f639 5 = (Value.int .i64 (k39 : Int)) := (hout643 5 rfl).trans e428
                          have e656 : f639 6 = u65 := (hout643 6 rfl).trans e429
                          have e657 : f639 7 = (Value.int .i64 (k71 : Int)) := (hout643 7 rfl).trans e430
                          have e658 : f639 8 = (Value.int .i64 (k100 : Int)) := (hout643 8 rfl).trans e431
                          have e659 : f639 9 = (Value.int .i64 (w64 (x133 + (w64 (x245 * x379))))) := (hout643 9 rfl).trans rfl
                          have e660 : f639 13 = v_r_Table := (hout643 13 rfl).trans e434
                          have e661 : f639 14 = (Value.int .i64 ((r_Table).length : Int)) := (hout643 14 rfl).trans e435
                          have e662 : f639 15 = (Value.int .i64 (k12 : Int)) := (hout643 15 rfl).trans e436
                          have e663 : f639 21 = v_r_Table := (hout643 21 rfl).trans e437
                          have e664 : f639 22 = (Value.int .i64 ((r_Table).length : Int)) := (hout643 22 rfl).trans e438
                          have e665 : f639 23 = (Value.int .i64 (k39 : Int)) := (hout643 23 rfl).trans e439
                          have e666 : f639 30 = (Value.int .i64 ((r_Table).length : Int)) := (hout643 30 rfl).trans e440
                          have e667 : f639 31 = (Value.int .i64 (k71 : Int)) := (hout643 31 rfl).trans e441
                          have e668 : f639 36 = (Value.int .i64 ((r_Table).length : Int)) := (hout643 36 rfl).trans e442
                          have e669 : f639 37 = (Value.int .i64 (k100 : Int)) := (hout643 37 rfl).trans e443
                          have e670 : f639 42 = (Value.int .i64 ((r_Table).length : Int)) := (hout643 42 rfl).trans e444
                          have e671 : f639 43 = (Value.int .i64 (k132 : Int)) := (hout643 43 rfl).trans e445
                          refine WL.val (Value.int .i64 (w64 (x134 + (w64 (x521 * x606))))) _ (op_add e648 e650) rfl ?_
                          refine WL.val (Value.int .i64 (w64 (x134 + (w64 (x521 * x606))))) _ (op_assign rfl) rfl ?_
                          refine WL.nil ?_
                          show W _ _ _ _ _ _
                          refine W.region ?_
                          refine WL.val (Value.int .i64 (w64 ((k132 : Int) + (1 : Int)))) _ (op_add e671 rfl) rfl ?_
                          refine WL.val (Value.int .i64 (w64 ((k132 : Int) + (1 : Int)))) _ (op_move rfl) rfl ?_
                          refine WL.nil ?_
                          obtain rfl := Option.some.inj hb139
                          show ∃ s, _ = Ctl.next s ∧ _
                          exact ⟨_, rfl, e652, e653, e654, e655, e656, e657, e658, e659, (inR_wrap _ _), rfl, (inR_wrap _ _), e660, e661, e662, e663, e664, e665, e666, e667, e668, e669, e670, (ctr_next hl168 hr129), (ctr_rng hl168 hr129), hS647⟩
                    · intro s677 f673 wd674 hs675 hI676
                      obtain ⟨x678, x679⟩ := s677
                      replace hI676 : f673 1 = (Value.pointer (some ⟨b1, 0, none⟩)) ∧ f673 3 = (Value.int .i64 (k12 : Int)) ∧ f673 4 = u33 ∧ f673 5 = (Value.int .i64 (k39 : Int)) ∧ f673 6 = u65 ∧ f673 7 = (Value.int .i64 (k71 : Int)) ∧ f673 8 = (Value.int .i64 (k100 : Int)) ∧ f673 9 = Value.int .i64 x678 ∧ InR .i64 x678 ∧ f673 10 = Value.int .i64 x679 ∧ InR .i64 x679 ∧ f673 13 = v_r_Table ∧ f673 14 = (Value.int .i64 ((r_Table).length : Int)) ∧ f673 15 = (Value.int .i64 (k12 : Int)) ∧ f673 21 = v_r_Table ∧ f673 22 = (Value.int .i64 ((r_Table).length : Int)) ∧ f673 23 = (Value.int .i64 (k39 : Int)) ∧ f673 30 = (Value.int .i64 ((r_Table).length : Int)) ∧ f673 31 = (Value.int .i64 (k71 : Int)) ∧ f673 36 = (Value.int .i64 ((r_Table).length : Int)) ∧ f673 37 = (Value.int .i64 (k100 : Int)) ∧ f673 42 = (Value.int .i64 ((r_Table).length : Int)) ∧ f673 43 = Value.int .i64 (((r_Table).length : Nat) : Int) ∧ InR .i64 (((r_Table).length : Nat) : Int) ∧ St wd2 wd674 [] := hI676
                      obtain ⟨hf680, hf681, hf682, hf683, hf684, hf685, hf686, hf687, hr688, hf689, hr690, hf691, hf692, hf693, hf694, hf695, hf696, hf697, hf698, hf699, hf700, hf701, hf702, hr703, hS704⟩ := hI676
                      refine W.seq (W.region ?_)
                      refine WL.val (Value.bool (decide ((((r_Table).length : Nat) : Int) < ((r_Table).length : Int)))) _ (op_lss hf702 hf701) rfl ?_
                      have hl705 : ¬ (((r_Table).length : Nat) : Int) < ((r_Table).length : Int) := by omega
                      refine WL.nil ?_
                      refine W.seq ?_
                      refine W.condF (decide ((((r_Table).length : Nat) : Int) < ((r_Table).length : Int))) rfl (decide_eq_false hl705) ?_
                      refine W.exit ?_
                      show _ = _ ∧ _
                      exact ⟨rfl, _, hs675, hf680, hf681, hf682, hf683, hf684, hf685, hf686, hf687, hr688, hf689, hr690, hf691, hf692, hf693, hf694, hf695, hf696, hf697, hf698, hf699, hf700, hS704⟩
                  · rintro f706 wd707 ⟨s709, rfl, hq708⟩
                    replace hb105 := onRes_fin hb105
                    obtain ⟨x710, x711⟩ := s709
                    replace hq708 : f706 1 = (Value.pointer (some ⟨b1, 0, none⟩)) ∧ f706 3 = (Value.int .i64 (k12 : Int)) ∧ f706 4 = u33 ∧ f706 5 = (Value.int .i64 (k39 : Int)) ∧ f706 6 = u65 ∧ f706 7 = (Value.int .i64 (k71 : Int)) ∧ f706 8 = (Value.int .i64 (k100 : Int)) ∧ f706 9 = Value.int .i64 x710 ∧ InR .i64 x710 ∧ f706 10 = Value.int .i64 x711 ∧ InR .i64 x711 ∧ f706 13 = v_r_Table ∧ f706 14 = (Value.int .i64 ((r_Table).length : Int)) ∧ f706 15 = (Value.int .i64 (k12 : Int)) ∧ f706 21 = v_r_Table ∧ f706 22 = (Value.int .i64 ((r_Table).length : Int)) ∧ f706 23 = (Value.int .i64 (k39 : Int)) ∧ f706 30 = (Value.int .i64 ((r_Table).length : Int)) ∧ f706 31 = (Value.int .i64 (k71 : Int)) ∧ f706 36 = (Value.int .i64 ((r_Table).length : Int)) ∧ f706 37 = (Value.int .i64 (k100 : Int)) ∧ St wd2 wd707 [] := hq708
                    replace hb105 : (_ : Option _) = _ := hb105
                    dsimp only at hb105
                    obtain ⟨hf712, hf713, hf714, hf715, hf716, hf717, hf718, hf719, hr720, hf721, hr722, hf723, hf724, hf725, hf726, hf727, hf728, hf729, hf730, hf731, hf732, hS733⟩ := hq708
                    refine W.seq (W.region ?_)
                    refine WL.val (Value.int .i64 x710) _ (op_move hf719) rfl ?_
                    refine WL.val (Value.int .i64 x711) _ (op_move hf721) rfl ?_
                    refine WL.val (Value.bool (x710 != x711)) _ (op_neq rfl rfl) rfl ?_
                    refine WL.nil ?_
                    refine W.cond (x710 != x711) rfl (fun hc734 => ?_) (fun hc734 => ?_)
                    · replace hb105 := ip hb105 hc734
                      refine W.seq (W.region ?_)
                      refine WL.val (Value.int .i64 (k12 : Int)) _ (op_move hf713) rfl ?_
                      refine WL.val (Value.int .i64 (k39 : Int)) _ (op_move hf715) rfl ?_
                      refine WL.val (Value.int .i64 (k71 : Int)) _ (op_move hf717) rfl ?_
                      refine WL.val (Value.int .i64 (k100 : Int)) _ (op_move hf718) rfl ?_
                      refine WL.litFlat (t := (Ty.i .i64)) (flat_i .i64) [(Value.int .i64 (3 : Int)), (Value.int .i64 (k12 : Int)), (Value.int .i64 (k39 : Int)), (Value.int .i64 (k71 : Int)), (Value.int .i64 (k100 : Int))] [(3 : Int), (k12 : Int), (k39 : Int), (k71 : Int), (k100 : Int)] hS733 sl_34 rfl rfl (fillL rfl ⟨rfl, rfl, rfl, rfl, rfl, rfl, rfl, rfl, rfl, rfl, rfl, rfl, rfl, rfl, rfl, trivial⟩) rfl rfl (litL ⟨⟨rfl, (inL rfl)⟩, ⟨rfl, hr25⟩, ⟨rfl, hr57⟩, ⟨rfl, hr93⟩, ⟨rfl, hr125⟩, trivial⟩) rfl ?_
                      intro u736 wd737 hS738 he739
                      replace hS738 : St wd2 wd737 [(Ty.sl (Ty.i .i64)).at u736 ([(3 : Int), (k12 : Int), (k39 : Int), (k71 : Int), (k100 : Int)] : (List Int))] := hS738
                      refine WL.val u736 _ (op_assign rfl) rfl ?_
                      refine WL.nil ?_
                      refine W.ret ?_
                      obtain rfl := Option.some.inj hb105
                      obtain rfl := hret108 _ rfl
                      replace hb76 := onRes_ret hb76
                      obtain rfl := Option.some.inj hb76
                      obtain rfl := hret79 _ rfl
                      replace hb44 := onRes_ret hb44
                      obtain rfl := Option.some.inj hb44
                      obtain rfl := hret47 _ rfl
                      replace hb17 := onRes_ret hb17
                      obtain rfl := Option.some.inj hb17
                      obtain rfl := hret20 _ rfl
                      replace h := onRes_ret h
                      obtain rfl := Option.some.inj h
                      show FinP _ _ _ _ _ _ _
                      exact FinP.ret _ (res1 rfl rfl) ⟨u736, rfl, (nil_cons), (Ext.trans hE7 hS738.ext), (St.out (St.pick hS738 [0] rfl) (hE7))⟩
                    · replace hb105 := inegb hb105 hc734
                      refine W.skip ?_
                      show W _ _ _ _ _ _
                      refine W.region ?_
                      refine WL.val (Value.int .i64 (w64 ((k100 : Int) + (1 : Int)))) _ (op_add hf732 rfl) rfl ?_
                      refine WL.val (Value.int .i64 (w64 ((k100 : Int) + (1 : Int)))) _ (op_move rfl) rfl ?_
                      refine WL.nil ?_
                      obtain rfl := Option.some.inj hb105
                      show ∃ s, _ = Ctl.next s ∧ _
                      exact ⟨_, rfl, hf712, hf713, hf714, hf715, hf716, hf717, hf723, hf724, hf725, hf726, hf727, hf728, hf729, hf730, hf731, (ctr_next hl127 hr97), (ctr_rng hl127 hr97), hS733⟩
                · intro s746 f742 wd743 hs744 hI745
                  obtain ⟨⟩ := s746
                  replace hI745 : f742 1 = (Value.pointer (some ⟨b1, 0, none⟩)) ∧ f742 3 = (Value.int .i64 (k12 : Int)) ∧ f742 4 = u33 ∧ f742 5 = (Value.int .i64 (k39 : Int)) ∧ f742 6 = u65 ∧ f742 7 = (Value.int .i64 (k71 : Int)) ∧ f742 13 = v_r_Table ∧ f742 14 = (Value.int .i64 ((r_Table).length : Int)) ∧ f742 15 = (Value.int .i64 (k12 : Int)) ∧ f742 21 = v_r_Table ∧ f742 22 = (Value.int .i64 ((r_Table).length : Int)) ∧ f742 23 = (Value.int .i64 (k39 : Int)) ∧ f742 30 = (Value.int .i64 ((r_Table).length : Int)) ∧ f742 31 = (Value.int .i64 (k71 : Int)) ∧ f742 36 = (Value.int .i64 ((r_Table).length : Int)) ∧ f742 37 = Value.int .i64 (((r_Table).length : Nat) : Int) ∧ InR .i64 (((r_Table).length : Nat) : Int) ∧ St wd2 wd743 [] := hI745
                  obtain ⟨hf747, hf748, hf749, hf750, hf751, hf752, hf753, hf754, hf755, hf756, hf757, hf758, hf759, hf760, hf761, hf762, hr763, hS764⟩ := hI745
                  refine W.seq (W.region ?_)
                  refine WL.val (Value.bool (decide ((((r_Table).length : Nat) : Int) < ((r_Table).length : Int)))) _ (op_lss hf762 hf761) rfl ?_
                  have hl765 : ¬ (((r_Table).length : Nat) : Int) < ((r_Table).length : Int) := by omega
                  refine WL.nil ?_
                  refine W.seq ?_
                  refine W.condF (decide ((((r_Table).length : Nat) : Int) < ((r_Table).length : Int))) rfl (decide_eq_false hl765) ?_
                  refine W.exit ?_
                  show _ = _ ∧ _
                  exact ⟨rfl, _, hs744, hf747, hf748, hf749, hf750, hf751, hf753, hf754, hf755, hf756, hf757, hf758, hf759, hf760, hS764⟩
              · rintro f766 wd767 ⟨s769, rfl, hq768⟩
                replace hb76 := onRes_fin hb76
                obtain ⟨⟩ := s769
                replace hq768 : f766 1 = (Value.pointer (some ⟨b1, 0, none⟩)) ∧ f766 3 = (Value.int .i64 (k12 : Int)) ∧ f766 4 = u33 ∧ f766 5 = (Value.int .i64 (k39 : Int)) ∧ f766 6 = u65 ∧ f766 13 = v_r_Table ∧ f766 14 = (Value.int .i64 ((r_Table).length : Int)) ∧ f766 15 = (Value.int .i64 (k12 : Int)) ∧ f766 21 = v_r_Table ∧ f766 22 = (Value.int .i64 ((r_Table).length : Int)) ∧ f766 23 = (Value.int .i64 (k39 : Int)) ∧ f766 30 = (Value.int .i64 ((r_Table).length : Int)) ∧ f766 31 = (Value.int .i64 (k71 : Int)) ∧ St wd2 wd767 [] := hq768
                obtain ⟨hf770, hf771, hf772, hf773, hf774, hf775, hf776, hf777, hf778, hf779, hf780, hf781, hf782, hS783⟩ := hq768
                show W _ _ _ _ _ _
                refine W.region ?_
                refine WL.val (Value.int .i64 (w64 ((k71 : Int) + (1 : Int)))) _ (op_add hf782 rfl) rfl ?_
                refine WL.val (Value.int .i64 (w64 ((k71 : Int) + (1 : Int)))) _ (op_move rfl) rfl ?_
                refine WL.nil ?_
                obtain rfl := Option.some.inj hb76
                show ∃ s, _ = Ctl.next s ∧ _
                exact ⟨_, rfl, hf770, hf771, hf772, hf773, hf774, hf775, hf776, hf777, hf778, hf779, hf780, hf781, (ctr_next hl95 hr68), (ctr_rng hl95 hr68), hS783⟩
            · intro s790 f786 wd787 hs788 hI789
              obtain ⟨⟩ := s790
              replace hI789 : f786 1 = (Value.pointer (some ⟨b1, 0, none⟩)) ∧ f786 3 = (Value.int .i64 (k12 : Int)) ∧ f786 4 = u33 ∧ f786 5 = (Value.int .i64 (k39 : Int)) ∧ f786 6 = u65 ∧ f786 13 = v_r_Table ∧ f786 14 = (Value.int .i64 ((r_Table).length : Int)) ∧ f786 15 = (Value.int .i64 (k12 : Int)) ∧ f786 21 = v_r_Table ∧ f786 22 = (Value.int .i64 ((r_Table).length : Int)) ∧ f786 23 = (Value.int .i64 (k39 : Int)) ∧ f786 30 = (Value.int .i64 ((r_Table).length : Int)) ∧ f786 31 = Value.int .i64 (((r_Table).length : Nat) : Int) ∧ InR .i64 (((r_Table).length : Nat) : Int) ∧ St wd2 wd787 [] := hI789
              obtain ⟨hf791, hf792, hf793, hf794, hf795, hf796, hf797, hf798, hf799, hf800, hf801, hf802, hf803, hr804, hS805⟩ := hI789
              refine W.seq (W.region ?_)
              refine WL.val (Value.bool (decide ((((r_Table).length : Nat) : Int) < ((r_Table).length : Int)))) _ (op_lss hf803 hf802) rfl ?_
              have hl806 : ¬ (((r_Table).length : Nat) : Int) < ((r_Table).length : Int) := by omega
              refine WL.nil ?_
              refine W.seq ?_
              refine W.condF (decide ((((r_Table).length : Nat) : Int) < ((r_Table).length : Int))) rfl (decide_eq_false hl806) ?_
              refine W.exit ?_
              show _ = _ ∧ _
              exact ⟨rfl, _, hs788, hf791, hf792, hf793, hf796, hf797, hf798, hf799, hf800, hf801, hS805⟩
          · rintro f807 wd808 ⟨s810, rfl, hq809⟩
            replace hb44 := onRes_fin hb44
            obtain ⟨⟩ := s810
            replace hq809 : f807 1 = (Value.pointer (some ⟨b1, 0, none⟩)) ∧ f807 3 = (Value.int .i64 (k12 : Int)) ∧ f807 4 = u33 ∧ f807 13 = v_r_Table ∧ f807 14 = (Value.int .i64 ((r_Table).length : Int)) ∧ f807 15 = (Value.int .i64 (k12 : Int)) ∧ f807 21 = v_r_Table ∧ f807 22 = (Value.int .i64 ((r_Table).length : Int)) ∧ f807 23 = (Value.int .i64 (k39 : Int)) ∧ St wd2 wd808 [] := hq809
            obtain ⟨hf811, hf812, hf813, hf814, hf815, hf816, hf817, hf818, hf819, hS820⟩ := hq809
            show W _ _ _ _ _ _
            refine W.region ?_
            refine WL.val (Value.int .i64 (w64 ((k39 : Int) + (1 : Int)))) _ (op_add hf819 rfl) rfl ?_
            refine WL.val (Value.int .i64 (w64 ((k39 : Int) + (1 : Int)))) _ (op_move rfl) rfl ?_
            refine WL.nil ?_
            obtain rfl := Option.some.inj hb44
            show ∃ s, _ = Ctl.next s ∧ _
            exact ⟨_, rfl, hf811, hf812, hf813, hf814, hf815, hf816, hf817, hf818, (ctr_next hl59 hr36), (ctr_rng hl59 hr36), hS820⟩
        · intro s827 f823 wd824 hs825 hI826
          obtain ⟨⟩ := s827
          replace hI826 : f823 1 = (Value.pointer (some ⟨b1, 0, none⟩)) ∧ f823 3 = (Value.int .i64 (k12 : Int)) ∧ f823 4 = u33 ∧ f823 13 = v_r_Table ∧ f823 14 = (Value.int .i64 ((r_Table).length : Int)) ∧ f823 15 = (Value.int .i64 (k12 : Int)) ∧ f823 21 = v_r_Table ∧ f823 22 = (Value.int .i64 ((r_Table).length : Int)) ∧ f823 23 = Value.int .i64 (((r_Table).length : Nat) : Int) ∧ InR .i64 (((r_Table).length : Nat) : Int) ∧ St wd2 wd824 [] := hI826
          obtain ⟨hf828, hf829, hf830, hf831, hf832, hf833, hf834, hf835, hf836, hr837, hS838⟩ := hI826
          refine W.seq (W.region ?_)
          refine WL.val (Value.bool (decide ((((r_Table).length : Nat) : Int) < ((r_Table).length : Int)))) _ (op_lss hf836 hf835) rfl ?_
          have hl839 : ¬ (((r_Table).length : Nat) : Int) < ((r_Table).length : Int) := by omega
          refine WL.nil ?_
          refine W.seq ?_
          refine W.condF (decide ((((r_Table).length : Nat) : Int) < ((r_Table).length : Int))) rfl (decide_eq_false hl839) ?_
          refine W.exit ?_
          show _ = _ ∧ _
          exact ⟨rfl, _, hs825, hf828, hf831, hf832, hf833, hS838⟩
      · rintro f840 wd841 ⟨s843, rfl, hq842⟩
        replace hb17 := onRes_fin hb17
        obtain ⟨⟩ := s843
        replace hq842 : f840 1 = (Value.pointer (some ⟨b1, 0, none⟩)) ∧ f840 13 = v_r_Table ∧ f840 14 = (Value.int .i64 ((r_Table).length : Int)) ∧ f840 15 = (Value.int .i64 (k12 : Int)) ∧ St wd2 wd841 [] := hq842
        obtain ⟨hf844, hf845, hf846, hf847, hS848⟩ := hq842
        show W _ _ _ _ _ _
        refine W.region ?_
        refine WL.val (Value.int .i64 (w64 ((k12 : Int) + (1 : Int)))) _ (op_add hf847 rfl) rfl ?_
        refine WL.val (Value.int .i64 (w64 ((k12 : Int) + (1 : Int)))) _ (op_move rfl) rfl ?_
        refine WL.nil ?_
        obtain rfl := Option.some.inj hb17
        show ∃ s, _ = Ctl.next s ∧ _
        exact ⟨_, rfl, hf844, hf845, hf846, (ctr_next hl27 hr9), (ctr_rng hl27 hr9), hS848⟩
    · intro s855 f851 wd852 hs853 hI854
      obtain ⟨⟩ := s855
      replace hI854 : f851 1 = (Value.pointer (some ⟨b1, 0, none⟩)) ∧ f851 13 = v_r_Table ∧ f851 14 = (Value.int .i64 ((r_Table).length : Int)) ∧ f851 15 = Value.int .i64 (((r_Table).length : Nat) : Int) ∧ InR .i64 (((r_Table).length : Nat) : Int) ∧ St wd2 wd852 [] := hI854
      obtain ⟨hf856, hf857, hf858, hf859, hr860, hS861⟩ := hI854
      refine W.seq (W.region ?_)
      refine WL.val (Value.bool (decide ((((r_Table).length : Nat) : Int) < ((r_Table).length : Int)))) _ (op_lss hf859 hf858) rfl ?_
      have hl862 : ¬ (((r_Table).length : Nat) : Int) < ((r_Table).length : Int) := by omega
      refine WL.nil ?_
      refine W.seq ?_
      refine W.condF (decide ((((r_Table).length : Nat) : Int) < ((r_Table).length : Int))) rfl (decide_eq_false hl862) ?_
      refine W.exit ?_
      show _ = _ ∧ _
      exact ⟨rfl, _, hs853, hS861⟩
  · rintro f863 wd864 ⟨s866, rfl, hq865⟩
    replace h := onRes_fin h
    obtain ⟨⟩ := s866
    replace hq865 : St wd2 wd864 [] := hq865
    have hS867 := hq865
    refine W.seq (W.region ?_)
    refine WL.val (Value.slice none 0 0) _ (op_assign rfl) rfl ?_
    refine WL.nil ?_
    refine W.ret ?_
    obtain rfl := Option.some.inj h
    show FinP _ _ _ _ _ _ _
    exact FinP.ret _ (res1 rfl rfl) ⟨(Value.slice none 0 0), rfl, (fun _ => ⟨0, 0, rfl⟩), (Ext.trans hE7 hS867.ext), (St.out (St.pick (St.addNil (Ty.i .i64) hS867) [0] rfl) (hE7))⟩

theorem c_impl_Ring_fault {w : World} {r_Table : (List (List (List Int)))} {v_r_Table : Value} (r_r_Table : (Ty.sl (Ty.sl (Ty.sl (Ty.i .i64)))).rep w v_r_Table r_Table) {res : (List Int)} (h : p_impl_Ring_fault r_Table  = some res) :
    Ret Try.prog 41 #[(Value.agg #[v_r_Table])] w (fun v w' => ∃ (u0 : Value), v = u0 ∧ NilIff u0 res ∧ Ext w w' ∧ Sep w.heap.size w' [(Ty.sl (Ty.i .i64)).at u0 res]) := by
  unfold p_impl_Ring_fault at h
  have hS0 : St w w [] := St.start w
  refine Ret.start (fn := Try.f41) Try.func41 rfl 24 rfl rfl ?_
  refine W.seq (W.region ?_)
  refine WL.box hS0 rfl (cs := [v_r_Table]) rfl rfl ?_
  intro b1 wd2 hS3 he4 hx5
  replace hS3 : St w wd2 [bx b1 [v_r_Table]] := hS3
  have hx6 := St.boxAt hS3 0 rfl
  have hE7 : Ext w wd2 := hS3.ext
  have hS8 : St wd2 wd2 [] := St.start wd2
  refine WL.val (Value.slice none 0 0) _ (op_assign rfl) rfl ?_
  refine WL.nil ?_
  refine W.seq (W.seq (W.region ?_))
  refine WL.val (Value.agg #[v_r_Table]) _ (op_loadBox st_28 rfl (BoxAt.lift hS8.ext hx6) rfl rfl) rfl ?_
  obtain ⟨x9, hx10, h⟩ := bs h
  refine WL.call _ (op_call fn_52 (args1 rfl)) (c_impl_Ring_unitFault (Ty.lift _ (Ext.trans hE7 hS8.ext) r_r_Table) hx10) rfl ?_
  rintro u11 wd13 ⟨_, rfl, hn12, he14, hs15⟩
  have hS16 := St.join hS8 he14 hs15
  replace hS16 : St wd2 wd13 [(Ty.sl (Ty.i .i64)).at u11 x9] := hS16
  refine WL.val u11 _ (op_assign rfl) rfl ?_
  refine WL.nil ?_
  refine W.seq (W.region ?_)
  refine WL.val u11 _ (op_move rfl) rfl ?_
  refine WL.val (Value.bool (!(x9).isEmpty)) _ (op_neqNilL sl_34 (St.rep (t := (Ty.sl (Ty.i .i64))) hS16 0 rfl) hn12 rfl rfl) rfl ?_
  refine WL.nil ?_
  refine W.cond (!(x9).isEmpty) rfl (fun hc17 => ?_) (fun hc17 => ?_)
  · replace h := ip h hc17
    refine W.seq (W.region ?_)
    refine WL.val u11 _ (op_move rfl) rfl ?_
    refine WL.val u11 _ (op_assign rfl) rfl ?_
    refine WL.nil ?_
    refine W.ret ?_
    obtain rfl := Option.some.inj h
    show FinP _ _ _ _ _ _ _
    exact FinP.ret _ (res1 rfl rfl) ⟨u11, rfl, hn12, (Ext.trans hE7 hS16.ext), (St.out (St.pick hS16 [0] rfl) (hE7))⟩
  · replace h := inegb h hc17
    refine W.skip ?_
    refine W.seq (W.seq (W.region ?_))
    refine WL.val (Value.agg #[v_r_Table]) _ (op_loadBox st_28 rfl (BoxAt.lift hS16.ext hx6) rfl rfl) rfl ?_
    obtain ⟨x19, hx20, h⟩ := bs h
    refine WL.call _ (op_call fn_53 (args1 rfl)) (c_impl_Ring_dualFault (Ty.lift _ (Ext.trans hE7 hS16.ext) r_r_Table) hx20) rfl ?_
    rintro _ wd22 ⟨rfl, hr21, he23⟩
    have hS25 := St.extend hS16 he23
    replace hS25 : St wd2 wd22 [(Ty.sl (Ty.i .i64)).at u11 x9] := hS25
    refine WL.val (Value.int .i64 x19) _ (op_assign rfl) rfl ?_
    refine WL.nil ?_
    refine W.seq (W.region ?_)
    refine WL.val (Value.int .i64 x19) _ (op_move rfl) rfl ?_
    refine WL.val (Value.bool (decide (x19 ≥ (0 : Int)))) _ (op_geq rfl rfl) rfl ?_
    refine WL.nil ?_
    refine W.cond (decide (x19 ≥ (0 : Int))) rfl (fun hc26 => ?_) (fun hc26 => ?_)
    · replace h := ip h hc26
      refine W.seq (W.region ?_)
      refine WL.val (Value.int .i64 x19) _ (op_move rfl) rfl ?_
      refine WL.litFlat (t := (Ty.i .i64)) (flat_i .i64) [(Value.int .i64 (1 : Int)), (Value.int .i64 x19)] [(1 : Int), x19] hS25 sl_34 rfl rfl (fillL rfl ⟨rfl, rfl, rfl, rfl, rfl, rfl, trivial⟩) rfl rfl (litL ⟨⟨rfl, (inL rfl)⟩, ⟨rfl, hr21⟩, trivial⟩) rfl ?_
      intro u28 wd29 hS30 he31
      replace hS30 : St wd2 wd29 [(Ty.sl (Ty.i .i64)).at u11 x9, (Ty.sl (Ty.i .i64)).at u28 ([(1 : Int), x19] : (List Int))] := hS30
      refine WL.val u28 _ (op_assign rfl) rfl ?_
      refine WL.nil ?_
      refine W.ret ?_
      obtain rfl := Option.some.inj h
      show FinP _ _ _ _ _ _ _
      exact FinP.ret _ (res1 rfl rfl) ⟨u28, rfl, (nil_cons), (Ext.trans hE7 hS30.ext), (St.out (St.pick hS30 [1] rfl) (hE7))⟩
    · replace h := inegb h hc26
      refine W.skip ?_
      refine W.seq (W.seq (W.region ?_))
      refine WL.val (Value.agg #[v_r_Table]) _ (op_loadBox st_28 rfl (BoxAt.lift hS25.ext hx6) rfl rfl) rfl ?_
      obtain ⟨x32, hx33, h⟩ := bs h
      refine WL.call _ (op_call fn_54 (args1 rfl)) (c_impl_Ring_turnFault (Ty.lift _ (Ext.trans hE7 hS25.ext) r_r_Table) hx33) rfl ?_
      rintro u34 wd36 ⟨_, rfl, hn35, he37, hs38⟩
      have hS39 := St.join hS25 he37 hs38
      replace hS39 : St wd2 wd36 [(Ty.sl (Ty.i .i64)).at u11 x9, (Ty.sl (Ty.i .i64)).at u34 x32] := hS39
      refine WL.val u34 _ (op_assign rfl) rfl ?_
      refine WL.nil ?_
      refine W.seq (W.region ?_)
      refine WL.val u34 _ (op_move rfl) rfl ?_
      refine WL.val (Value.bool (!(x32).isEmpty)) _ (op_neqNilL sl_34 (St.rep (t := (Ty.sl (Ty.i .i64))) hS39 1 rfl) hn35 rfl rfl) rfl ?_
      refine WL.nil ?_
      refine W.cond (!(x32).isEmpty) rfl (fun hc40 => ?_) (fun hc40 => ?_)
      · replace h := ip h hc40
        refine W.seq (W.region ?_)
        refine WL.val u34 _ (op_move rfl) rfl ?_
        refine WL.val u34 _ (op_assign rfl) rfl ?_
        refine WL.nil ?_
        refine W.ret ?_
        obtain rfl := Option.some.inj h
        show FinP _ _ _ _ _ _ _
        exact FinP.ret _ (res1 rfl rfl) ⟨u34, rfl, hn35, (Ext.trans hE7 hS39.ext), (St.out (St.pick hS39 [1] rfl) (hE7))⟩
      · replace h := inegb h hc40
        refine W.skip ?_
        refine W.seq (W.region ?_)
        refine WL.val (Value.agg #[v_r_Table]) _ (op_loadBox st_28 rfl (BoxAt.lift hS39.ext hx6) rfl rfl) rfl ?_
        obtain ⟨x42, hx43, h⟩ := bs h
        refine WL.call _ (op_call fn_55 (args1 rfl)) (c_impl_Ring_bracketFault (Ty.lift _ (Ext.trans hE7 hS39.ext) r_r_Table) hx43) rfl ?_
        rintro u44 wd46 ⟨_, rfl, hn45, he47, hs48⟩
        have hS49 := St.join hS39 he47 hs48
        replace hS49 : St wd2 wd46 [(Ty.sl (Ty.i .i64)).at u11 x9, (Ty.sl (Ty.i .i64)).at u34 x32, (Ty.sl (Ty.i .i64)).at u44 x42] := hS49
        refine WL.val u44 _ (op_assign rfl) rfl ?_
        refine WL.nil ?_
        refine W.ret ?_
        obtain rfl := Option.some.inj h
        show FinP _ _ _ _ _ _ _
        exact FinP.ret _ (res1 rfl rfl) ⟨u44, rfl, hn45, (Ext.trans hE7 hS49.ext), (St.out (St.pick hS49 [2] rfl) (hE7))⟩

theorem c_impl_IsRing {w : World} {r_Table : (List (List (List Int)))} {v_r_Table : Value} (r_r_Table : (Ty.sl (Ty.sl (Ty.sl (Ty.i .i64)))).rep w v_r_Table r_Table) {res : Bool} (h : p_impl_IsRing r_Table  = some res) :
    Ret Try.prog 27 #[(Value.agg #[v_r_Table])] w (fun v w' => v = Value.bool res ∧ Ext w w') := by
  unfold p_impl_IsRing at h
  have hS0 : St w w [] := St.start w
  refine Ret.start (fn := Try.f27) Try.func27 rfl 10 rfl rfl ?_
  refine W.seq (W.region ?_)
  refine WL.box hS0 rfl (cs := [v_r_Table]) rfl rfl ?_
  intro b1 wd2 hS3 he4 hx5
  replace hS3 : St w wd2 [bx b1 [v_r_Table]] := hS3
  have hx6 := St.boxAt hS3 0 rfl
  have hE7 : Ext w wd2 := hS3.ext
  have hS8 : St wd2 wd2 [] := St.start wd2
  refine WL.val (Value.bool false) _ (op_assign rfl) rfl ?_
  refine WL.nil ?_
  refine W.seq (W.region ?_)
  refine WL.val (Value.agg #[v_r_Table]) _ (op_loadBox st_28 rfl (BoxAt.lift hS8.ext hx6) rfl rfl) rfl ?_
  obtain ⟨x9, hx10, h⟩ := bs h
  refine WL.call _ (op_call fn_40 (args1 rfl)) (c_impl_isCube (Ty.lift _ (Ext.trans hE7 hS8.ext) r_r_Table) hx10) rfl ?_
  rintro _ wd11 ⟨rfl, he12⟩
  have hS14 := St.extend hS8 he12
  replace hS14 : St wd2 wd11 [] := hS14
  refine WL.val (Value.bool x9) _ (op_move rfl) rfl ?_
  obtain ⟨x16, hj17, h⟩ := bs h
  refine WL.cut 4 (fun fq wq => fq 9 = Value.bool x16 ∧ St wd2 wq []) ?_ ?_
  · rcases Bool.eq_false_or_eq_true x9 with hc15 | hc15
    · replace hj17 := ip hj17 hc15
      refine WL.grun rfl (bool_of rfl hc15) ?_
      refine WL.val (Value.agg #[v_r_Table]) _ (op_loadBox st_28 rfl (BoxAt.lift hS14.ext hx6) rfl rfl) rfl ?_
      refine WL.grun rfl (bool_of rfl hc15) ?_
      obtain ⟨x21, hx22, hj17⟩ := bs hj17
      refine WL.call _ (op_call fn_41 (args1 rfl)) (c_impl_Ring_fault (Ty.lift _ (Ext.trans hE7 hS14.ext) r_r_Table) hx22) rfl ?_
      rintro u23 wd25 ⟨_, rfl, hn24, he26, hs27⟩
      have hS28 := St.join hS14 he26 hs27
      replace hS28 : St wd2 wd25 [(Ty.sl (Ty.i .i64)).at u23 x21] := hS28
      refine WL.grun rfl (bool_of rfl hc15) ?_
      refine WL.val (Value.bool (x21).isEmpty) _ (op_eqlNilL sl_34 (St.rep (t := (Ty.sl (Ty.i .i64))) hS28 0 rfl) hn24 rfl rfl) rfl ?_
      refine WL.val (Value.bool (x21).isEmpty) _ (op_pick_t (evb_of rfl hc15) rfl) rfl ?_
      refine WL.nil ?_
      obtain rfl := Option.some.inj hj17
      exact ⟨rfl, rfl, (St.pick hS28 [] rfl)⟩
    · replace hj17 := inegb hj17 hc15
      refine WL.gskip rfl (bool_of rfl hc15) rfl ?_
      refine WL.gskip rfl (bool_of rfl hc15) rfl ?_
      refine WL.gskip rfl (bool_of rfl hc15) rfl ?_
      refine WL.val (Value.bool false) _ (op_pick_f (evb_of rfl hc15) rfl) rfl ?_
      refine WL.nil ?_
      obtain rfl := Option.some.inj hj17
      exact ⟨rfl, rfl, hS14⟩
  · intro f18 wd19 hq20
    obtain ⟨hf29, hS30⟩ := hq20
    refine WL.val (Value.bool x16) _ (op_assign hf29) rfl ?_
    refine WL.nil ?_
    refine W.ret ?_
    obtain rfl := Option.some.inj h
    show FinP _ _ _ _ _ _ _
    exact FinP.ret _ (res1 rfl rfl) ⟨rfl, (Ext.trans hE7 hS30.ext)⟩

theorem c_math_bits_Mul32 {w : World} {x : Int} {y : Int} (r_x : InR .u32 x) (r_y : InR .u32 y) {res : Int × Int} (h : p_math_bits_Mul32 x y  = some res) :
    Ret Try.prog 70 #[(Value.int .u32 x), (Value.int .u32 y)] w (fun v w' => v = (Value.tuple #[Value.int .u32 res.1, Value.int .u32 res.2]) ∧ InR .u32 res.1 ∧ InR .u32 res.2 ∧ Ext w w') := by
  unfold p_math_bits_Mul32 at h
  have hS0 : St w w [] := St.start w
  refine Ret.start (fn := Try.f70) Try.func70 rfl 17 rfl rfl ?_
  refine W.seq (W.region ?_)
  refine WL.val (Value.int .u32 (0 : Int)) _ (op_assign rfl) rfl ?_
  refine WL.val (Value.int .u32 (0 : Int)) _ (op_assign rfl) rfl ?_
  refine WL.nil ?_
  refine W.seq (W.region ?_)
  refine WL.val (Value.int .u32 x) _ (op_move rfl) rfl ?_
  refine WL.val (Value.int .u64 (IntKind.u64.wrap x)) _ (op_convert rfl it_84 it_80) rfl ?_
  refine WL.val (Value.int .u32 y) _ (op_move rfl) rfl ?_
  refine WL.val (Value.int .u64 (IntKind.u64.wrap y)) _ (op_convert rfl it_84 it_80) rfl ?_
  refine WL.val (Value.int .u64 (IntKind.u64.wrap ((IntKind.u64.wrap x) * (IntKind.u64.wrap y)))) _ (op_mul rfl rfl) rfl ?_
  refine WL.val (Value.int .u64 (IntKind.u64.wrap ((IntKind.u64.wrap x) * (IntKind.u64.wrap y)))) _ (op_assign rfl) rfl ?_
  refine WL.nil ?_
  refine W.seq (W.region ?_)
  refine WL.val (Value.int .u64 (IntKind.u64.wrap ((IntKind.u64.wrap x) * (IntKind.u64.wrap y)))) _ (op_move rfl) rfl ?_
  refine WL.val (Value.int .u64 (((IntKind.u64.wrap ((IntKind.u64.wrap x) * (IntKind.u64.wrap y)))).fdiv (2 ^ 32))) _ (op_shr (b := 32) rfl rfl (by decide)) rfl ?_
  refine WL.val (Value.int .u32 (IntKind.u32.wrap (((IntKind.u64.wrap ((IntKind.u64.wrap x) * (IntKind.u64.wrap y)))).fdiv (2 ^ 32)))) _ (op_convert rfl it_80 it_84) rfl ?_
  refine WL.val (Value.int .u64 (IntKind.u64.wrap ((IntKind.u64.wrap x) * (IntKind.u64.wrap y)))) _ (op_move rfl) rfl ?_
  refine WL.val (Value.int .u32 (IntKind.u32.wrap (IntKind.u64.wrap ((IntKind.u64.wrap x) * (IntKind.u64.wrap y))))) _ (op_convert rfl it_80 it_84) rfl ?_
  refine WL.val (Value.int .u32 (IntKind.u32.wrap (((IntKind.u64.wrap ((IntKind.u64.wrap x) * (IntKind.u64.wrap y)))).fdiv (2 ^ 32)))) _ (op_assign rfl) rfl ?_
  refine WL.val (Value.int .u32 (IntKind.u32.wrap (IntKind.u64.wrap ((IntKind.u64.wrap x) * (IntKind.u64.wrap y))))) _ (op_assign rfl) rfl ?_
  refine WL.nil ?_
  refine W.ret ?_
  obtain rfl := Option.some.inj h
  show FinP _ _ _ _ _ _ _
  exact FinP.ret _ (res2 rfl rfl rfl) ⟨rfl, (inR_wrap _ _), (inR_wrap _ _), hS0.ext⟩

theorem c_math_bits_Mul64 {w : World} {x : Int} {y : Int} (r_x : InR .u64 x) (r_y : InR .u64 y) {res : Int × Int} (h : p_math_bits_Mul64 x y  = some res) :
    Ret Try.prog 71 #[(Value.int .u64 x), (Value.int .u64 y)] w (fun v w' => v = (Value.tuple #[Value.int .u64 res.1, Value.int .u64 res.2]) ∧ InR .u64 res.1 ∧ InR .u64 res.2 ∧ Ext w w') := by
  unfold p_math_bits_Mul64 at h
  have hS0 : St w w [] := St.start w
  refine Ret.start (fn := Try.f71) Try.func71 rfl 51 rfl rfl ?_
  refine W.seq (W.region ?_)
  refine WL.val (Value.int .u64 (0 : Int)) _ (op_assign rfl) rfl ?_
  refine WL.val (Value.int .u64 (0 : Int)) _ (op_assign rfl) rfl ?_
  refine WL.nil ?_
  refine W.seq (W.region ?_)
  refine WL.val (Value.int .u64 x) _ (op_move rfl) rfl ?_
  refine WL.val (Value.int .u64 (andI .u64 x (4294967295 : Int))) _ (op_and rfl rfl) rfl ?_
  refine WL.val (Value.int .u64 (andI .u64 x (4294967295 : Int))) _ (op_assign rfl) rfl ?_
  refine WL.nil ?_
  refine W.seq (W.region ?_)
  refine WL.val (Value.int .u64 x) _ (op_move rfl) rfl ?_
  refine WL.val (Value.int .u64 ((x).fdiv (2 ^ 32))) _ (op_shr (b := 32) rfl rfl (by decide)) rfl ?_
  refine WL.val (Value.int .u64 ((x).fdiv (2 ^ 32))) _ (op_assign rfl) rfl ?_
  refine WL.nil ?_
  refine W.seq (W.region ?_)
  refine WL.val (Value.int .u64 y) _ (op_move rfl) rfl ?_
  refine WL.val (Value.int .u64 (andI .u64 y (4294967295 : Int))) _ (op_and rfl rfl) rfl ?_
  refine WL.val (Value.int .u64 (andI .u64 y (4294967295 : Int))) _ (op_assign rfl) rfl ?_
  refine WL.nil ?_
  refine W.seq (W.region ?_)
  refine WL.val (Value.int .u64 y) _ (op_move rfl) rfl ?_
  refine WL.val (Value.int .u64 ((y).fdiv (2 ^ 32))) _ (op_shr (b := 32) rfl rfl (by decide)) rfl ?_
  refine WL.val (Value.int .u64 ((y).fdiv (2 ^ 32))) _ (op_assign rfl) rfl ?_
  refine WL.nil ?_
  refine W.seq (W.region ?_)
  refine WL.val (Value.int .u64 (andI .u64 x (4294967295 : Int))) _ (op_move rfl) rfl ?_
  refine WL.val (Value.int .u64 (andI .u64 y (4294967295 : Int))) _ (op_move rfl) rfl ?_
  refine WL.val (Value.int .u64 (IntKind.u64.wrap ((andI .u64 x (4294967295 : Int)) * (andI .u64 y (4294967295 : Int))))) _ (op_mul rfl rfl) rfl ?_
  refine WL.val (Value.int .u64 (IntKind.u64.wrap ((andI .u64 x (4294967295 : Int)) * (andI .u64 y (4294967295 : Int))))) _ (op_assign rfl) rfl ?_
  refine WL.nil ?_
  refine W.seq (W.region ?_)
  refine WL.val (Value.int .u64 ((x).fdiv (2 ^ 32))) _ (op_move rfl) rfl ?_
  refine WL.val (Value.int .u64 (andI .u64 y (4294967295 : Int))) _ (op_move rfl) rfl ?_
  refine WL.val (Value.int .u64 (IntKind.u64.wrap (((x).fdiv (2 ^ 32)) * (andI .u64 y (4294967295 : Int))))) _ (op_mul rfl rfl) rfl ?_
  refine WL.val (Value.int .u64 (IntKind.u64.wrap ((andI .u64 x (4294967295 : Int)) * (andI .u64 y (4294967295 : Int))))) _ (op_move rfl) rfl ?_
  refine WL.val (Value.int .u64 (((IntKind.u64.wrap ((andI .u64 x (4294967295 : Int)) * (andI .u64 y (4294967295 : Int))))).fdiv (2 ^ 32))) _ (op_shr (b := 32) rfl rfl (by decide)) rfl ?_
  refine WL.val (Value.int .u64 (IntKind.u64.wrap ((IntKind.u64.wrap (((x).fdiv (2 ^ 32)) * (andI .u64 y (4294967295 : Int)))) + (((IntKind.u64.wrap ((andI .u64 x (4294967295 : Int)) * (andI .u64 y (4294967295 : Int))))).fdiv (2 ^ 32))))) _ (op_add rfl rfl) rfl ?_
  refine WL.val (Value.int .u64 (IntKind.u64.wrap ((IntKind.u64.wrap (((x).fdiv (2 ^ 32)) * (andI .u64 y (4294967295 : Int)))) + (((IntKind.u64.wrap ((andI .u64 x (4294967295 : Int)) * (andI .u64 y (4294967295 : Int))))).fdiv (2 ^ 32))))) _ (op_assign rfl) rfl ?_
  refine WL.nil ?_
  refine W.seq (W.region ?_)
  refine WL.val (Value.int .u64 (IntKind.u64.wrap ((IntKind.u64.wrap (((x).fdiv (2 ^ 32)) * (andI .u64 y (4294967295 : Int)))) + (((IntKind.u64.wrap ((andI .u64 x (4294967295 : Int)) * (andI .u64 y (4294967295 : Int))))).fdiv (2 ^ 32))))) _ (op_move rfl) rfl ?_
  refine WL.val (Value.int .u64 (andI .u64 (IntKind.u64.wrap ((IntKind.u64.wrap (((x).fdiv (2 ^ 32)) * (andI .u64 y (4294967295 : Int)))) + (((IntKind.u64.wrap ((andI .u64 x (4294967295 : Int)) * (andI .u64 y (4294967295 : Int))))).fdiv (2 ^ 32)))) (4294967295 : Int))) _ (op_and rfl rfl) rfl ?_
  refine WL.val (Value.int .u64 (andI .u64 (IntKind.u64.wrap ((IntKind.u64.wrap (((x).fdiv (2 ^ 32)) * (andI .u64 y (4294967295 : Int)))) + (((IntKind.u64.wrap ((andI .u64 x (4294967295 : Int)) * (andI .u64 y (4294967295 : Int))))).fdiv (2 ^ 32)))) (4294967295 : Int))) _ (op_assign rfl) rfl ?_
  refine WL.nil ?_
  refine W.seq (W.region ?_)
  refine WL.val (Value.int .u64 (IntKind.u64.wrap ((IntKind.u64.wrap (((x).fdiv (2 ^ 32)) * (andI .u64 y (4294967295 : Int)))) + (((IntKind.u64.wrap ((andI .u64 x (4294967295 : Int)) * (andI .u64 y (4294967295 : Int))))).fdiv (2 ^ 32))))) _ (op_move rfl) rfl ?_
  refine WL.val (Value.int .u64 (((IntKind.u64.wrap ((IntKind.u64.wrap (((x).fdiv (2 ^ 32)) * (andI .u64 y (4294967295 : Int)))) + (((IntKind.u64.wrap ((andI .u64 x (4294967295 : Int)) * (andI .u64 y (4294967295 : Int))))).fdiv (2 ^ 32))))).fdiv (2 ^ 32))) _ (op_shr (b := 32) rfl rfl (by decide)) rfl ?_
  refine WL.val (Value.int .u64 (((IntKind.u64.wrap ((IntKind.u64.wrap (((x).fdiv (2 ^ 32)) * (andI .u64 y (4294967295 : Int)))) + (((IntKind.u64.wrap ((andI .u64 x (4294967295 : Int)) * (andI .u64 y (4294967295 : Int))))).fdiv (2 ^ 32))))).fdiv (2 ^ 32))) _ (op_assign rfl) rfl ?_
  refine WL.nil ?_
  refine W.seq (W.region ?_)
  refine WL.val (Value.int .u64 (andI .u64 (IntKind.u64.wrap ((IntKind.u64.wrap (((x).fdiv (2 ^ 32)) * (andI .u64 y (4294967295 : Int)))) + (((IntKind.u64.wrap ((andI .u64 x (4294967295 : Int)) * (andI .u64 y (4294967295 : Int))))).fdiv (2 ^ 32)))) (4294967295 : Int))) _ (op_move rfl) rfl ?_
  refine WL.val (Value.int .u64 (andI .u64 x (4294967295 : Int))) _ (op_move rfl) rfl ?_
  refine WL.val (Value.int .u64 ((y).fdiv (2 ^ 32))) _ (op_move rfl) rfl ?_
  refine WL.val (Value.int .u64 (IntKind.u64.wrap ((andI .u64 x (4294967295 : Int)) * ((y).fdiv (2 ^ 32))))) _ (op_mul rfl rfl) rfl ?_
  refine WL.val (Value.int .u64 (IntKind.u64.wrap ((andI .u64 (IntKind.u64.wrap ((IntKind.u64.wrap (((x).fdiv (2 ^ 32)) * (andI .u64 y (4294967295 : Int)))) + (((IntKind.u64.wrap ((andI .u64 x (4294967295 : Int)) * (andI .u64 y (4294967295 : Int))))).fdiv (2 ^ 32)))) (4294967295 : Int)) + (IntKind.u64.wrap ((andI .u64 x (4294967295 : Int)) * ((y).fdiv (2 ^ 32))))))) _ (op_add rfl rfl) rfl ?_
  refine WL.val (Value.int .u64 (IntKind.u64.wrap ((andI .u64 (IntKind.u64.wrap ((IntKind.u64.wrap (((x).fdiv (2 ^ 32)) * (andI .u64 y (4294967295 : Int)))) + (((IntKind.u64.wrap ((andI .u64 x (4294967295 : Int)) * (andI .u64 y (4294967295 : Int))))).fdiv (2 ^ 32)))) (4294967295 : Int)) + (IntKind.u64.wrap ((andI .u64 x (4294967295 : Int)) * ((y).fdiv (2 ^ 32))))))) _ (op_assign rfl) rfl ?_
  refine WL.nil ?_
  refine W.seq (W.region ?_)
  refine WL.val (Value.int .u64 ((x).fdiv (2 ^ 32))) _ (op_move rfl) rfl ?_
  refine WL.val (Value.int .u64 ((y).fdiv (2 ^ 32))) _ (op_move rfl) rfl ?_
  refine WL.val (Value.int .u64 (IntKind.u64.wrap (((x).fdiv (2 ^ 32)) * ((y).fdiv (2 ^ 32))))) _ (op_mul rfl rfl) rfl ?_
  refine WL.val (Value.int .u64 (((IntKind.u64.wrap ((IntKind.u64.wrap (((x).fdiv (2 ^ 32)) * (andI .u64 y (4294967295 : Int)))) + (((IntKind.u64.wrap ((andI .u64 x (4294967295 : Int)) * (andI .u64 y (4294967295 : Int))))).fdiv (2 ^ 32))))).fdiv (2 ^ 32))) _ (op_move rfl) rfl ?_
  refine WL.val (Value.int .u64 (IntKind.u64.wrap ((IntKind.u64.wrap (((x).fdiv (2 ^ 32)) * ((y).fdiv (2 ^ 32)))) + (((IntKind.u64.wrap ((IntKind.u64.wrap (((x).fdiv (2 ^ 32)) * (andI .u64 y (4294967295 : Int)))) + (((IntKind.u64.wrap ((andI .u64 x (4294967295 : Int)) * (andI .u64 y (4294967295 : Int))))).fdiv (2 ^ 32))))).fdiv (2 ^ 32))))) _ (op_add rfl rfl) rfl ?_
  refine WL.val (Value.int .u64 (IntKind.u64.wrap ((andI .u64 (IntKind.u64.wrap ((IntKind.u64.wrap (((x).fdiv (2 ^ 32)) * (andI .u64 y (4294967295 : Int)))) + (((IntKind.u64.wrap ((andI .u64 x (4294967295 : Int)) * (andI .u64 y (4294967295 : Int))))).fdiv (2 ^ 32)))) (4294967295 : Int)) + (IntKind.u64.wrap ((andI .u64 x (4294967295 : Int)) * ((y).fdiv (2 ^ 32))))))) _ (op_move rfl) rfl ?_
  refine WL.val (Value.int .u64 (((IntKind.u64.wrap ((andI .u64 (IntKind.u64.wrap ((IntKind.u64.wrap (((x).fdiv (2 ^ 32)) * (andI .u64 y (4294967295 : Int)))) + (((IntKind.u64.wrap ((andI .u64 x (4294967295 : Int)) * (andI .u64 y (4294967295 : Int))))).fdiv (2 ^ 32)))) (4294967295 : Int)) + (IntKind.u64.wrap ((andI .u64 x (4294967295 : Int)) * ((y).fdiv (2 ^ 32))))))).fdiv (2 ^ 32))) _ (op_shr (b := 32) rfl rfl (by decide)) rfl ?_
  refine WL.val (Value.int .u64 (IntKind.u64.wrap ((IntKind.u64.wrap ((IntKind.u64.wrap (((x).fdiv (2 ^ 32)) * ((y).fdiv (2 ^ 32)))) + (((IntKind.u64.wrap ((IntKind.u64.wrap (((x).fdiv (2 ^ 32)) * (andI .u64 y (4294967295 : Int)))) + (((IntKind.u64.wrap ((andI .u64 x (4294967295 : Int)) * (andI .u64 y (4294967295 : Int))))).fdiv (2 ^ 32))))).fdiv (2 ^ 32)))) + (((IntKind.u64.wrap ((andI .u64 (IntKind.u64.wrap ((IntKind.u64.wrap (((x).fdiv (2 ^ 32)) * (andI .u64 y (4294967295 : Int)))) + (((IntKind.u64.wrap ((andI .u64 x (4294967295 : Int)) * (andI .u64 y (4294967295 : Int))))).fdiv (2 ^ 32)))) (4294967295 : Int)) + (IntKind.u64.wrap ((andI .u64 x (4294967295 : Int)) * ((y).fdiv (2 ^ 32))))))).fdiv (2 ^ 32))))) _ (op_add rfl rfl) rfl ?_
  refine WL.val (Value.int .u64 (IntKind.u64.wrap ((IntKind.u64.wrap ((IntKind.u64.wrap (((x).fdiv (2 ^ 32)) * ((y).fdiv (2 ^ 32)))) + (((IntKind.u64.wrap ((IntKind.u64.wrap (((x).fdiv (2 ^ 32)) * (andI .u64 y (4294967295 : Int)))) + (((IntKind.u64.wrap ((andI .u64 x (4294967295 : Int)) * (andI .u64 y (4294967295 : Int))))).fdiv (2 ^ 32))))).fdiv (2 ^ 32)))) + (((IntKind.u64.wrap ((andI .u64 (IntKind.u64.wrap ((IntKind.u64.wrap (((x).fdiv (2 ^ 32)) * (andI .u64 y (4294967295 : Int)))) + (((IntKind.u64.wrap ((andI .u64 x (4294967295 : Int)) * (andI .u64 y (4294967295 : Int))))).fdiv (2 ^ 32)))) (4294967295 : Int)) + (IntKind.u64.wrap ((andI .u64 x (4294967295 : Int)) * ((y).fdiv (2 ^ 32))))))).fdiv (2 ^ 32))))) _ (op_assign rfl) rfl ?_
  refine WL.nil ?_
  refine W.seq (W.region ?_)
  refine WL.val (Value.int .u64 x) _ (op_move rfl) rfl ?_
  refine WL.val (Value.int .u64 y) _ (op_move rfl) rfl ?_
  refine WL.val (Value.int .u64 (IntKind.u64.wrap (x * y))) _ (op_mul rfl rfl) rfl ?_
  refine WL.val (Value.int .u64 (IntKind.u64.wrap (x * y))) _ (op_assign rfl) rfl ?_
  refine WL.nil ?_
  refine W.ret ?_
  obtain rfl := Option.some.inj h
  show FinP _ _ _ _ _ _ _
  exact FinP.ret _ (res2 rfl rfl rfl) ⟨rfl, (inR_wrap _ _), (inR_wrap _ _), hS0.ext⟩

theorem c_math_bits_Mul {w : World} {x : Int} {y : Int} (r_x : InR .u64 x) (r_y : InR .u64 y) {res : Int × Int} (h : p_math_bits_Mul x y  = some res) :
    Ret Try.prog 66 #[(Value.int .u64 x), (Value.int .u64 y)] w (fun v w' => v = (Value.tuple #[Value.int .u64 res.1, Value.int .u64 res.2]) ∧ InR .u64 res.1 ∧ InR .u64 res.2 ∧ Ext w w') := by
  unfold p_math_bits_Mul at h
  have hS0 : St w w [] := St.start w
  refine Ret.start (fn := Try.f66) Try.func66 rfl 30 rfl rfl ?_
  refine W.seq (W.region ?_)
  refine WL.val (Value.int .u64 (0 : Int)) _ (op_assign rfl) rfl ?_
  refine WL.val (Value.int .u64 (0 : Int)) _ (op_assign rfl) rfl ?_
  refine WL.nil ?_
  refine W.seq ?_
  refine W.cond false rfl (fun hc1 => ?_) (fun hc1 => ?_)
  · replace h := ip h hc1
    refine W.seq (W.region ?_)
    refine WL.val (Value.int .u64 x) _ (op_move rfl) rfl ?_
    refine WL.val (Value.int .u32 (IntKind.u32.wrap x)) _ (op_convert rfl it_77 it_84) rfl ?_
    refine WL.val (Value.int .u64 y) _ (op_move rfl) rfl ?_
    refine WL.val (Value.int .u32 (IntKind.u32.wrap y)) _ (op_convert rfl it_77 it_84) rfl ?_
    obtain ⟨x3, hx4, h⟩ := bs h
    refine WL.call _ (op_call fn_70 (args2 rfl rfl)) (c_math_bits_Mul32 (inR_wrap _ _) (inR_wrap _ _) hx4) rfl ?_
    rintro _ wd7 ⟨rfl, hr5, hr6, he8⟩
    have hS10 := St.extend hS0 he8
    replace hS10 : St w wd7 [] := hS10
    refine WL.val (Value.tuple #[(Value.int .u32 x3.1), (Value.int .u32 x3.2)]) _ (op_move rfl) rfl ?_
    refine WL.val (Value.int .u32 x3.1) _ (op_extract rfl rfl) rfl ?_
    refine WL.val (Value.int .u32 x3.2) _ (op_extract rfl rfl) rfl ?_
    refine WL.val (Value.int .u32 x3.1) _ (op_assign rfl) rfl ?_
    refine WL.val (Value.int .u32 x3.2) _ (op_assign rfl) rfl ?_
    refine WL.nil ?_
    refine W.seq (W.region ?_)
    refine WL.val (Value.int .u32 x3.1) _ (op_move rfl) rfl ?_
    refine WL.val (Value.int .u64 (IntKind.u64.wrap x3.1)) _ (op_convert rfl it_84 it_77) rfl ?_
    refine WL.val (Value.int .u32 x3.2) _ (op_move rfl) rfl ?_
    refine WL.val (Value.int .u64 (IntKind.u64.wrap x3.2)) _ (op_convert rfl it_84 it_77) rfl ?_
    refine WL.val (Value.int .u64 (IntKind.u64.wrap x3.1)) _ (op_assign rfl) rfl ?_
    refine WL.val (Value.int .u64 (IntKind.u64.wrap x3.2)) _ (op_assign rfl) rfl ?_
    refine WL.nil ?_
    refine W.ret ?_
    obtain rfl := Option.some.inj h
    show FinP _ _ _ _ _ _ _
    exact FinP.ret _ (res2 rfl rfl rfl) ⟨rfl, (inR_wrap _ _), (inR_wrap _ _), hS10.ext⟩
  · replace h := inegb h hc1
    refine W.skip ?_
    refine W.seq (W.region ?_)
    refine WL.val (Value.int .u64 x) _ (op_move rfl) rfl ?_
    refine WL.val (Value.int .u64 y) _ (op_move rfl) rfl ?_
    obtain ⟨x11, hx12, h⟩ := bs h
    refine WL.call _ (op_call fn_71 (args2 rfl rfl)) (c_math_bits_Mul64 r_x r_y hx12) rfl ?_
    rintro _ wd15 ⟨rfl, hr13, hr14, he16⟩
    have hS18 := St.extend hS0 he16
    replace hS18 : St w wd15 [] := hS18
    refine WL.val (Value.tuple #[(Value.int .u64 x11.1), (Value.int .u64 x11.2)]) _ (op_move rfl) rfl ?_
    refine WL.val (Value.int .u64 x11.1) _ (op_extract rfl rfl) rfl ?_
    refine WL.val (Value.int .u64 x11.2) _ (op_extract rfl rfl) rfl ?_
    refine WL.val (Value.int .u64 x11.1) _ (op_assign rfl) rfl ?_
    refine WL.val (Value.int .u64 x11.2) _ (op_assign rfl) rfl ?_
    refine WL.nil ?_
    refine W.seq (W.region ?_)
    refine WL.val (Value.int .u64 x11.1) _ (op_move rfl) rfl ?_
    refine WL.val (Value.int .u64 x11.2) _ (op_move rfl) rfl ?_
    refine WL.val (Value.int .u64 x11.1) _ (op_assign rfl) rfl ?_
    refine WL.val (Value.int .u64 x11.2) _ (op_assign rfl) rfl ?_
    refine WL.nil ?_
    refine W.ret ?_
    obtain rfl := Option.some.inj h
    show FinP _ _ _ _ _ _ _
    exact FinP.ret _ (res2 rfl rfl rfl) ⟨rfl, hr13, hr14, hS18.ext⟩

theorem c_slices_Repeat_Lfloat64_float64 {w : World} {x : (List Int)} {v_x : Value} {count : Int} (r_x : (Ty.sl Ty.f).rep w v_x x) (r_count : InR .i64 count) {res : (List Int)} (h : p_slices_Repeat_Lfloat64_float64 x count  = some res) :
    Ret Try.prog 56 #[v_x, (Value.int .i64 count)] w (fun v w' => ∃ (u0 : Value), v = u0 ∧ Ext w w' ∧ Sep w.heap.size w' [(Ty.sl Ty.f).at u0 res]) := by
  unfold p_slices_Repeat_Lfloat64_float64 at h
  have hS0 : St w w [] := St.start w
  refine Ret.start (fn := Try.f56) Try.func56 rfl 48 rfl rfl ?_
  refine W.seq (W.region ?_)
  refine WL.val (Value.slice none 0 0) _ (op_assign rfl) rfl ?_
  refine WL.nil ?_
  refine W.seq (W.seq (W.region ?_))
  refine WL.val (Value.int .i64 count) _ (op_move rfl) rfl ?_
  refine WL.val (Value.bool (decide (count < (0 : Int)))) _ (op_lss rfl rfl) rfl ?_
  refine WL.nil ?_
  show W _ _ _ _ _ _
  obtain ⟨⟨⟩, hj1, h⟩ := bs h
  refine W.cutCode (fun fq wq => fq 0 = v_x ∧ fq 1 = (Value.int .i64 count) ∧ St w wq []) ?_ ?_
  · refine W.cond (decide (count < (0 : Int))) rfl (fun hc2 => ?_) (fun hc2 => ?_)
    · replace hj1 := ip hj1 hc2
      refine W.region ?_
      exact (none_some hj1).elim
    · replace hj1 := inegb hj1 hc2
      refine W.skip ?_
      exact ⟨rfl, rfl, hS0⟩
  · intro f3 wd4 hq5
    obtain ⟨hf6, hf7, hS8⟩ := hq5
    refine W.seq (W.region ?_)
    refine WL.val v_x _ (op_move hf6) rfl ?_
    have hr9 := inR_len (Ty.lift _ hS8.ext r_x)
    refine WL.val (Value.int .i64 ((x).length : Int)) _ (op_lenL sl_65 (Ty.lift _ hS8.ext r_x) rfl) rfl ?_
    refine WL.val (Value.int .u64 (IntKind.u64.wrap ((x).length : Int))) _ (op_convert rfl it_3 it_77) rfl ?_
    refine WL.val (Value.int .i64 count) _ (op_move hf7) rfl ?_
    refine WL.val (Value.int .u64 (IntKind.u64.wrap count)) _ (op_convert rfl it_3 it_77) rfl ?_
    obtain ⟨x10, hx11, h⟩ := bs h
    refine WL.call _ (op_call fn_66 (args2 rfl rfl)) (c_math_bits_Mul (inR_wrap _ _) (inR_wrap _ _) hx11) rfl ?_
    rintro _ wd14 ⟨rfl, hr12, hr13, he15⟩
    have hS17 := St.extend hS8 he15
    replace hS17 : St w wd14 [] := hS17
    refine WL.val (Value.tuple #[(Value.int .u64 x10.1), (Value.int .u64 x10.2)]) _ (op_move rfl) rfl ?_
    refine WL.val (Value.int .u64 x10.1) _ (op_extract rfl rfl) rfl ?_
    refine WL.val (Value.int .u64 x10.2) _ (op_extract rfl rfl) rfl ?_
    refine WL.val (Value.int .u64 x10.1) _ (op_assign rfl) rfl ?_
    refine WL.val (Value.int .u64 x10.2) _ (op_assign rfl) rfl ?_
    refine WL.nil ?_
    refine W.seq (W.seq (W.region ?_))
    refine WL.val (Value.int .u64 x10.1) _ (op_move rfl) rfl ?_
    refine WL.val (Value.bool (decide (x10.1 > (0 : Int)))) _ (op_gtr rfl rfl) rfl ?_
    refine WL.val (Value.bool (decide (x10.1 > (0 : Int)))) _ (op_move rfl) rfl ?_
    refine WL.cut 3 (fun fq wq => fq 0 = v_x ∧ fq 6 = (Value.int .u64 x10.2) ∧ fq 26 = (Value.bool ((decide (x10.1 > (0 : Int))) || (decide (x10.2 > (9223372036854775807 : Int))))) ∧ St w wq []) ?_ ?_
    · rcases Bool.eq_false_or_eq_true (decide (x10.1 > (0 : Int))) with hc18 | hc18
      · refine WL.gskip rfl (bool_of rfl hc18) rfl ?_
        refine WL.gskip rfl (bool_of rfl hc18) rfl ?_
        refine WL.val (Value.bool true) _ (op_pick_t (evb_of rfl hc18) rfl) rfl ?_
        refine WL.nil ?_
        exact ⟨rfl, hf6, rfl, (orT hc18), hS17⟩
      · refine WL.grun rfl (bool_of rfl hc18) ?_
        refine WL.val (Value.int .u64 x10.2) _ (op_move rfl) rfl ?_
        refine WL.grun rfl (bool_of rfl hc18) ?_
        refine WL.val (Value.bool (decide (x10.2 > (9223372036854775807 : Int)))) _ (op_gtr rfl rfl) rfl ?_
        refine WL.val (Value.bool (decide (x10.2 > (9223372036854775807 : Int)))) _ (op_pick_f (evb_of rfl hc18) rfl) rfl ?_
        refine WL.nil ?_
        exact ⟨rfl, hf6, rfl, (orF hc18), hS17⟩
    · intro f19 wd20 hq21
      obtain ⟨hf22, hf23, hf24, hS25⟩ := hq21
      refine WL.nil ?_
      show W _ _ _ _ _ _
      obtain ⟨⟨⟩, hj26, h⟩ := bs h
      refine W.cutCode (fun fq wq => fq 0 = v_x ∧ fq 6 = (Value.int .u64 x10.2) ∧ St w wq []) ?_ ?_
      · refine W.cond ((decide (x10.1 > (0 : Int))) || (decide (x10.2 > (9223372036854775807 : Int)))) hf24 (fun hc27 => ?_) (fun hc27 => ?_)
        · replace hj26 := ip hj26 hc27
          refine W.region ?_
          exact (none_some hj26).elim
        · replace hj26 := inegb hj26 hc27
          refine W.skip ?_
          exact ⟨hf22, hf23, hS25⟩
      · intro f28 wd29 hq30
        obtain ⟨hf31, hf32, hS33⟩ := hq30
        refine W.seq (W.region ?_)
        refine WL.val (Value.int .u64 x10.2) _ (op_move hf32) rfl ?_
        refine WL.val (Value.int .i64 (w64 x10.2)) _ (op_convert rfl it_77 it_3) rfl ?_
        obtain ⟨x34, hx35, h⟩ := bs h
        refine WL.make (t := Ty.f) hS33 sl_65 (fun _ _ => ⟨rfl, (show InF (0 : Int) from ⟨by decide, by decide⟩)⟩) rfl rfl hx35 rfl rfl ?_
        intro u36 wd37 hS38 he39
        replace hS38 : St w wd37 [(Ty.sl Ty.f).at u36 x34] := hS38
        refine WL.val u36 _ (op_assign rfl) rfl ?_
        refine WL.nil ?_
        refine W.seq (W.region ?_)
        refine WL.val u36 _ (op_move rfl) rfl ?_
        refine WL.val v_x _ (op_move hf31) rfl ?_
        have hr42 := inR_cpyN (t := Ty.f) (w := wd37) (0 : Int) (xs := x) (St.rep (t := (Ty.sl Ty.f)) hS38 0 rfl)
        refine WL.copy (a := (0 : Int)) flat_f hS38 (k := 0) rfl sl_65 (Nat.zero_le _) (St.winWhole (t := Ty.f) hS38 0 rfl) rfl rfl (Ty.lift _ hS38.ext r_x) rfl ?_
        intro wd40 hS41
        replace hS41 : St w wd40 [(Ty.sl Ty.f).at u36 (cpyL x34 (0 : Int) x)] := hS41
        refine WL.val (Value.int .i64 (cpyN x34 (0 : Int) x)) _ (op_assign rfl) rfl ?_
        refine WL.nil ?_
        refine W.seq ?_
        obtain ⟨res43, hres44, h⟩ := bs h
        refine W.blockLoop (fun fq wq => ∃ s, res43 = Res.fin s ∧ fq 7 = u36 ∧ St w wq [(Ty.sl Ty.f).at u36 s.1]) ?_ ?_
        · refine W.whileC (fun (s : (List Int) × Int) fq wq => fq 7 = u36 ∧ fq 8 = Value.int .i64 s.2 ∧ InR .i64 s.2 ∧ St w wq [(Ty.sl Ty.f).at u36 s.1]) hres44 ⟨rfl, rfl, hr42, hS41⟩ ?_
          intro s163 ct48 f49 wd50 hb52 hI53 hbrk54 hret55
          obtain ⟨x46, x47⟩ := s163
          replace hI53 : f49 7 = u36 ∧ f49 8 = Value.int .i64 x47 ∧ InR .i64 x47 ∧ St w wd50 [(Ty.sl Ty.f).at u36 x46] := hI53
          replace hb52 : p_slices_Repeat_Lfloat64_float64_L1   x46 x47 = some ct48 := hb52
          unfold p_slices_Repeat_Lfloat64_float64_L1 at hb52
          obtain ⟨hf56, hf57, hr58, hS59⟩ := hI53
          refine W.seq (W.seq (W.region ?_))
          refine WL.val (Value.int .i64 x47) _ (op_move hf57) rfl ?_
          refine WL.val u36 _ (op_move hf56) rfl ?_
          have hr60 := inR_len (St.rep (t := (Ty.sl Ty.f)) hS59 0 rfl)
          refine WL.val (Value.int .i64 ((x46).length : Int)) _ (op_lenL sl_65 (St.rep (t := (Ty.sl Ty.f)) hS59 0 rfl) rfl) rfl ?_
          refine WL.val (Value.bool (decide (x47 < ((x46).length : Int)))) _ (op_lss rfl rfl) rfl ?_
          refine WL.nil ?_
          refine W.cond (decide (x47 < ((x46).length : Int))) rfl (fun hc61 => ?_) (fun hc61 => ?_)
          · replace hb52 := ip hb52 hc61
            refine W.skip ?_
            show W _ _ _ _ _ _
            refine W.block ?_
            obtain ⟨x99, hx100, hb52⟩ := bs hb52
            obtain ⟨h104, h105, h106, h107⟩ := cutL_some hx100
            obtain ⟨x137, hx138, hb52⟩ := bs hb52
            obtain ⟨h142, h143, h144, h145⟩ := cutL_some hx138
            refine W.drawR mixo 7 [0] [fun _ v _ _ => v = (Value.int .i64 x47) ∧ InR .i64 x47, fun _ v _ _ => v = u36, fun _ v _ _ => v = (Value.int .i64 x47) ∧ InR .i64 x47, fun _ v _ _ => Win u36 (x46).length (x47).toNat v, fun _ v _ _ => v = u36, fun _ v _ _ => v = (Value.int .i64 x47) ∧ InR .i64 x47, fun _ v _ w' => (Ty.sl Ty.f).rep w' v x137] (by kernel_rfl) (by kernel_rfl) ⟨pk, pk, pk, pk, pk, pk, ⟨fun _ _ _ _ _ he h => Ty.lift _ he h, fun _ _ _ _ _ _ h => h⟩, trivial⟩ ⟨?_, ?_, ?_, ?_, ?_, ?_, ?_, trivial⟩ ?_
            · refine ObX.fl rfl ?_
              intro f63 wd64 he65 hout66 hphi67
              have e69 : f63 8 = (Value.int .i64 x47) := (hout66 8 rfl).trans hf57
              exact ⟨rfl, (Value.int .i64 x47), fun _ => (op_move e69), ⟨rfl, hr58⟩⟩
            · refine ObX.op rfl fun f70 wd71 he72 hout73 hphi74 => ?_
              have e76 : f70 7 = u36 := (hout73 7 rfl).trans hf56
              exact OpX.val u36 wd71 rfl (op_move e76) (Ext.refl _) rfl
            · refine ObX.op rfl fun f77 wd78 he79 hout80 hphi81 => ?_
              have e83 : f77 8 = (Value.int .i64 x47) := (hout80 8 rfl).trans hf57
              exact OpX.val (Value.int .i64 x47) wd78 rfl (op_move e83) (Ext.refl _) ⟨rfl, hr58⟩
            · refine ObX.op rfl fun f84 wd85 he86 hout87 hphi88 => ?_
              have hS89 := St.extend hS59 he86
              obtain ⟨S90, hS91, hf92⟩ := hphi88 1 39 _ rfl rfl rfl
              have e93 : f84 39 = u36 := hf92
              obtain ⟨S94, hS95, hf96⟩ := hphi88 2 40 _ rfl rfl rfl
              obtain ⟨e97, hr98⟩ := hf96
              obtain ⟨u101, ho102, hr103⟩ := op_sliceWin (P := Try.prog) (f := f84) (w := wd85) (T := 65) (kd := .i64) sl_65 (show ev f84 (Operand.tmp 39) = _ from e93) (St.rep (t := (Ty.sl Ty.f)) hS89 0 rfl) (show ev f84 (Operand.tmp 40) = _ from e97) h104 h105
              exact OpX.val u101 wd85 rfl (ho102 _) (Ext.refl _) hr103
            · refine ObX.op rfl fun f108 wd109 he110 hout111 hphi112 => ?_
              have e114 : f108 7 = u36 := (hout111 7 rfl).trans hf56
              exact OpX.val u36 wd109 rfl (op_move e114) (Ext.refl _) rfl
            · refine ObX.op rfl fun f115 wd116 he117 hout118 hphi119 => ?_
              have e121 : f115 8 = (Value.int .i64 x47) := (hout118 8 rfl).trans hf57
              exact OpX.val (Value.int .i64 x47) wd116 rfl (op_move e121) (Ext.refl _) ⟨rfl, hr58⟩
            · refine ObX.op rfl fun f122 wd123 he124 hout125 hphi126 => ?_
              have hS127 := St.extend hS59 he124
              obtain ⟨S128, hS129, hf130⟩ := hphi126 4 42 _ rfl rfl rfl
              have e131 : f122 42 = u36 := hf130
              obtain ⟨S132, hS133, hf134⟩ := hphi126 5 43 _ rfl rfl rfl
              obtain ⟨e135, hr136⟩ := hf134
              obtain ⟨u139, ho140, hr141⟩ := op_slice (P := Try.prog) (f := f122) (w := wd123) (T := 65) (kd := .i64) (lo := none) (hi := (some (Operand.tmp 43))) sl_65 (show ev f122 (Operand.tmp 42) = _ from e131) (St.rep (t := (Ty.sl Ty.f)) hS127 0 rfl) rfl e135 h142 h143 h144
              rw [← h145] at hr141
              exact OpX.val u139 wd123 rfl ho140 (Ext.refl _) hr141
            · intro f146 wd147 Ss148 he149 hout150 hSn151 hSd152 hphi153
              show WL _ _ _ _ _ _ _
              have hS154 := St.extend hS59 he149
              obtain ⟨e155, hr156⟩ := hphi153 0 38 _ (by decide) rfl rfl
              have e157 : Win u36 (x46).length (x47).toNat (f146 41) := hphi153 3 41 _ (by decide) rfl rfl
              have e158 : (Ty.sl Ty.f).rep wd147 (f146 44) x137 := hphi153 6 44 _ (by decide) rfl rfl
              have e159 : f146 7 = u36 := (hout150 7 rfl).trans hf56
              have hr162 := inR_cpyN (t := Ty.f) (w := wd147) x47 (xs := x137) (St.rep (t := (Ty.sl Ty.f)) hS154 0 rfl)
              refine WL.copy (a := x47) flat_f hS154 (k := 0) rfl sl_65 (cutL_le hx100) e157 rfl rfl e158 rfl ?_
              intro wd160 hS161
              replace hS161 : St w wd160 [(Ty.sl Ty.f).at u36 (cpyL x46 x47 x137)] := hS161
              refine WL.val (Value.int .i64 (w64 (x47 + (cpyN x46 x47 x137)))) _ (op_add e155 rfl) rfl ?_
              refine WL.val (Value.int .i64 (w64 (x47 + (cpyN x46 x47 x137)))) _ (op_assign rfl) rfl ?_
              refine WL.nil ?_
              obtain rfl := Option.some.inj hb52
              show ∃ s, _ = Ctl.next s ∧ _
              exact ⟨_, rfl, e159, rfl, (inR_wrap _ _), hS161⟩
          · replace hb52 := inegb hb52 hc61
            refine W.exit ?_
            obtain rfl := Option.some.inj hb52
            show _ = _ ∧ _
            exact ⟨rfl, _, hbrk54 _ rfl, hf56, hS59⟩
        · rintro f164 wd165 ⟨s167, rfl, hq166⟩
          replace h := onRes_fin h
          obtain ⟨x168, x169⟩ := s167
          replace hq166 : f164 7 = u36 ∧ St w wd165 [(Ty.sl Ty.f).at u36 x168] := hq166
          replace h : (_ : Option _) = _ := h
          dsimp only at h
          obtain ⟨hf170, hS171⟩ := hq166
          refine W.seq (W.region ?_)
          refine WL.val u36 _ (op_move hf170) rfl ?_
          refine WL.val u36 _ (op_assign rfl) rfl ?_
          refine WL.nil ?_
          refine W.ret ?_
          obtain rfl := Option.some.inj h
          show FinP _ _ _ _ _ _ _
          exact FinP.ret _ (res1 rfl rfl) ⟨u36, rfl, hS171.ext, (St.out (St.pick hS171 [0] rfl) (Ext.refl _))⟩

theorem c_math_Round {w : World} {x : Int} (r_x : InF x) {res : Int} (h : p_math_Round x  = some res) :
    Ret Try.prog 57 #[(FV x)] w (fun v w' => v = FV res ∧ InF res ∧ Ext w w') := by
  unfold p_math_Round at h
  have hS0 : St w w [] := St.start w
  refine Ret.start (fn := Try.f57) Try.func57 rfl 32 rfl rfl ?_
  refine W.seq (W.region ?_)
  refine WL.val (FV (0 : Int)) _ (op_assign rfl) rfl ?_
  refine WL.nil ?_
  refine W.seq (W.region ?_)
  refine WL.val (FV x) _ (op_move rfl) rfl ?_
  refine WL.val (Value.int .u64 x) _ (op_fbits fx_67 rfl r_x) rfl ?_
  refine WL.val (Value.int .u64 x) _ (op_assign rfl) rfl ?_
  refine WL.nil ?_
  refine W.seq (W.region ?_)
  refine WL.val (Value.int .u64 x) _ (op_move rfl) rfl ?_
  refine WL.val (Value.int .u64 ((x).fdiv (2 ^ 52))) _ (op_shr (b := 52) rfl rfl (by decide)) rfl ?_
  refine WL.val (Value.int .u64 (andI .u64 ((x).fdiv (2 ^ 52)) (2047 : Int))) _ (op_and rfl rfl) rfl ?_
  refine WL.val (Value.int .u64 (andI .u64 ((x).fdiv (2 ^ 52)) (2047 : Int))) _ (op_assign rfl) rfl ?_
  refine WL.nil ?_
  refine W.seq (W.seq (W.region ?_))
  refine WL.val (Value.int .u64 (andI .u64 ((x).fdiv (2 ^ 52)) (2047 : Int))) _ (op_move rfl) rfl ?_
  refine WL.val (Value.bool (decide ((andI .u64 ((x).fdiv (2 ^ 52)) (2047 : Int)) < (1023 : Int)))) _ (op_lss rfl rfl) rfl ?_
  refine WL.nil ?_
  show W _ _ _ _ _ _
  obtain ⟨x1, hj2, h⟩ := bs h
  refine W.cutCode (fun fq wq => fq 3 = Value.int .u64 x1 ∧ InR .u64 x1 ∧ St w wq []) ?_ ?_
  · refine W.cond (decide ((andI .u64 ((x).fdiv (2 ^ 52)) (2047 : Int)) < (1023 : Int))) rfl (fun hc3 => ?_) (fun hc3 => ?_)
    · replace hj2 := ip hj2 hc3
      refine W.seq (W.region ?_)
      refine WL.val (Value.int .u64 x) _ (op_move rfl) rfl ?_
      refine WL.val (Value.int .u64 (andI .u64 x (9223372036854775808 : Int))) _ (op_and rfl rfl) rfl ?_
      refine WL.val (Value.int .u64 (andI .u64 x (9223372036854775808 : Int))) _ (op_assign rfl) rfl ?_
      refine WL.nil ?_
      refine W.seq (W.region ?_)
      refine WL.val (Value.int .u64 (andI .u64 ((x).fdiv (2 ^ 52)) (2047 : Int))) _ (op_move rfl) rfl ?_
      refine WL.val (Value.bool ((andI .u64 ((x).fdiv (2 ^ 52)) (2047 : Int)) == (1022 : Int))) _ (op_eql rfl rfl) rfl ?_
      refine WL.nil ?_
      show W _ _ _ _ _ _
      obtain ⟨x4, hj5, hj2⟩ := bs hj2
      refine W.cutCode (fun fq wq => fq 3 = Value.int .u64 x4 ∧ InR .u64 x4 ∧ St w wq []) ?_ ?_
      · refine W.cond ((andI .u64 ((x).fdiv (2 ^ 52)) (2047 : Int)) == (1022 : Int)) rfl (fun hc6 => ?_) (fun hc6 => ?_)
        · replace hj5 := ip hj5 hc6
          refine W.region ?_
          refine WL.val (Value.int .u64 (andI .u64 x (9223372036854775808 : Int))) _ (op_move rfl) rfl ?_
          refine WL.val (Value.int .u64 (orI .u64 (andI .u64 x (9223372036854775808 : Int)) (4607182418800017408 : Int))) _ (op_or rfl rfl) rfl ?_
          refine WL.val (Value.int .u64 (orI .u64 (andI .u64 x (9223372036854775808 : Int)) (4607182418800017408 : Int))) _ (op_assign rfl) rfl ?_
          refine WL.nil ?_
          obtain rfl := Option.some.inj hj5
          exact ⟨rfl, (inR_wrap _ _), hS0⟩
        · replace hj5 := inegb hj5 hc6
          refine W.skip ?_
          obtain rfl := Option.some.inj hj5
          exact ⟨rfl, (inR_wrap _ _), hS0⟩
      · intro f7 wd8 hq9
        obtain ⟨hf10, hr11, hS12⟩ := hq9
        obtain rfl := Option.some.inj hj2
        exact ⟨hf10, hr11, hS12⟩
    · replace hj2 := inegb hj2 hc3
      refine W.seq (W.region ?_)
      refine WL.val (Value.int .u64 (andI .u64 ((x).fdiv (2 ^ 52)) (2047 : Int))) _ (op_move rfl) rfl ?_
      refine WL.val (Value.bool (decide ((andI .u64 ((x).fdiv (2 ^ 52)) (2047 : Int)) < (1075 : Int)))) _ (op_lss rfl rfl) rfl ?_
      refine WL.nil ?_
      show W _ _ _ _ _ _
      obtain ⟨x13, hj14, hj2⟩ := bs hj2
      refine W.cutCode (fun fq wq => fq 3 = Value.int .u64 x13 ∧ InR .u64 x13 ∧ St w wq []) ?_ ?_
      · refine W.cond (decide ((andI .u64 ((x).fdiv (2 ^ 52)) (2047 : Int)) < (1075 : Int))) rfl (fun hc15 => ?_) (fun hc15 => ?_)
        · replace hj14 := ip hj14 hc15
          refine W.seq (W.region ?_)
          refine WL.val (Value.int .u64 (andI .u64 ((x).fdiv (2 ^ 52)) (2047 : Int))) _ (op_move rfl) rfl ?_
          refine WL.val (Value.int .u64 (IntKind.u64.wrap ((andI .u64 ((x).fdiv (2 ^ 52)) (2047 : Int)) - (1023 : Int)))) _ (op_sub rfl rfl) rfl ?_
          refine WL.val (Value.int .u64 (IntKind.u64.wrap ((andI .u64 ((x).fdiv (2 ^ 52)) (2047 : Int)) - (1023 : Int)))) _ (op_assign rfl) rfl ?_
          refine WL.nil ?_
          refine W.seq (W.region ?_)
          refine WL.val (Value.int .u64 x) _ (op_move rfl) rfl ?_
          refine WL.val (Value.int .u64 (IntKind.u64.wrap ((andI .u64 ((x).fdiv (2 ^ 52)) (2047 : Int)) - (1023 : Int)))) _ (op_move rfl) rfl ?_
          obtain ⟨x16, hz17, hj14⟩ := bs hj14
          obtain ⟨h018, hz17⟩ := shrI_some hz17
          have hr19 : InR .u64 x16 := by rw [hz17]; exact inR_fdiv _ (by simp [InR, IntKind.min, IntKind.max, IntKind.signed, IntKind.bits])
          refine WL.val (Value.int .u64 x16) _ (by rw [hz17]; exact op_shr rfl rfl h018) rfl ?_
          refine WL.val (Value.int .u64 (IntKind.u64.wrap (x + x16))) _ (op_add rfl rfl) rfl ?_
          refine WL.val (Value.int .u64 (IntKind.u64.wrap (x + x16))) _ (op_assign rfl) rfl ?_
          refine WL.nil ?_
          show W _ _ _ _ _ _
          refine W.region ?_
          refine WL.val (Value.int .u64 (IntKind.u64.wrap (x + x16))) _ (op_move rfl) rfl ?_
          refine WL.val (Value.int .u64 (IntKind.u64.wrap ((andI .u64 ((x).fdiv (2 ^ 52)) (2047 : Int)) - (1023 : Int)))) _ (op_move rfl) rfl ?_
          obtain ⟨x20, hz21, hj14⟩ := bs hj14
          obtain ⟨h022, hz21⟩ := shrI_some hz21
          have hr23 : InR .u64 x20 := by rw [hz21]; exact inR_fdiv _ (by simp [InR, IntKind.min, IntKind.max, IntKind.signed, IntKind.bits])
          refine WL.val (Value.int .u64 x20) _ (by rw [hz21]; exact op_shr rfl rfl h022) rfl ?_
          refine WL.val (Value.int .u64 (andNotI .u64 (IntKind.u64.wrap (x + x16)) x20)) _ (op_andNot rfl rfl) rfl ?_
          refine WL.val (Value.int .u64 (andNotI .u64 (IntKind.u64.wrap (x + x16)) x20)) _ (op_assign rfl) rfl ?_
          refine WL.nil ?_
          obtain rfl := Option.some.inj hj14
          exact ⟨rfl, (inR_wrap _ _), hS0⟩
        · replace hj14 := inegb hj14 hc15
          refine W.skip ?_
          obtain rfl := Option.some.inj hj14
          exact ⟨rfl, (u64_inF r_x), hS0⟩
      · intro f24 wd25 hq26
        obtain ⟨hf27, hr28, hS29⟩ := hq26
        obtain rfl := Option.some.inj hj2
        exact ⟨hf27, hr28, hS29⟩
  · intro f30 wd31 hq32
    obtain ⟨hf33, hr34, hS35⟩ := hq32
    refine W.seq (W.region ?_)
    refine WL.val (Value.int .u64 x1) _ (op_move hf33) rfl ?_
    refine WL.val (FV x1) _ (op_ffrom fx_68 rfl) rfl ?_
    refine WL.val (FV x1) _ (op_assign rfl) rfl ?_
    refine WL.nil ?_
    refine W.ret ?_
    obtain rfl := Option.some.inj h
    show FinP _ _ _ _ _ _ _
    exact FinP.ret _ (res1 rfl rfl) ⟨rfl, (inF_u64 hr34), hS35.ext⟩

theorem c_impl_Ring_nearDimensions {w : World} {r_Table : (List (List (List Int)))} {v_r_Table : Value} (r_r_Table : (Ty.sl (Ty.sl (Ty.sl (Ty.i .i64)))).rep w v_r_Table r_Table) {res : (List Int)} (h : p_impl_Ring_nearDimensions r_Table  = some res) :
    Ret Try.prog 42 #[(Value.agg #[v_r_Table])] w (fun v w' => ∃ (u0 : Value), v = u0 ∧ NilIff u0 res ∧ Ext w w' ∧ Sep w.heap.size w' [(Ty.sl (Ty.i .i64)).at u0 res]) := by
  unfold p_impl_Ring_nearDimensions at h
  have hS0 : St w w [] := St.start w
  refine Ret.start (fn := Try.f42) Try.func42 rfl 110 rfl rfl ?_
  refine W.seq (W.region ?_)
  refine WL.box hS0 rfl (cs := [v_r_Table]) rfl rfl ?_
  intro b1 wd2 hS3 he4 hx5
  replace hS3 : St w wd2 [bx b1 [v_r_Table]] := hS3
  have hx6 := St.boxAt hS3 0 rfl
  have hE7 : Ext w wd2 := hS3.ext
  have hS8 : St wd2 wd2 [] := St.start wd2
  refine WL.val (Value.slice none 0 0) _ (op_assign rfl) rfl ?_
  refine WL.nil ?_
  refine W.seq (W.region ?_)
  refine WL.val (Value.pointer (some ⟨b1, 0, none⟩)) _ (op_fieldAddr fd_28_0 rfl) rfl ?_
  refine WL.val v_r_Table _ (op_load one_22 rfl (BoxAt.cell (BoxAt.lift hS8.ext hx6) rfl)) rfl ?_
  have hr9 := inR_len (Ty.lift _ (Ext.trans hE7 hS8.ext) r_r_Table)
  refine WL.val (Value.int .i64 ((r_Table).length : Int)) _ (op_lenL sl_22 (Ty.lift _ (Ext.trans hE7 hS8.ext) r_r_Table) rfl) rfl ?_
  refine WL.val (Value.int .i64 ((r_Table).length : Int)) _ (op_assign rfl) rfl ?_
  refine WL.nil ?_
  refine W.seq (W.region ?_)
  refine WL.litFlat (t := Ty.f) flat_f [(FV (4607182418800017408 : Int))] [(4607182418800017408 : Int)] hS8 sl_65 rfl rfl (fillL rfl ⟨rfl, rfl, rfl, trivial⟩) rfl rfl (litL ⟨⟨rfl, (show InF (4607182418800017408 : Int) from ⟨by decide, by decide⟩)⟩, trivial⟩) rfl ?_
  intro u10 wd11 hS12 he13
  replace hS12 : St wd2 wd11 [(Ty.sl Ty.f).at u10 ([(4607182418800017408 : Int)] : (List Int))] := hS12
  have hb14 := St.rep (t := (Ty.sl Ty.f)) hS12 0 rfl
  have hE15 : Ext w wd11 := (Ext.trans hE7 hS12.ext)
  have hE16 : Ext wd2 wd11 := hS12.ext
  have hS17 : St wd11 wd11 [] := St.start wd11
  refine WL.val (Value.int .i64 ((r_Table).length : Int)) _ (op_move rfl) rfl ?_
  obtain ⟨x18, hx19, h⟩ := bs h
  refine WL.call _ (op_call fn_56 (args2 rfl rfl)) (c_slices_Repeat_Lfloat64_float64 (Ty.lift _ hS17.ext hb14) hr9 hx19) rfl ?_
  rintro u20 wd21 ⟨_, rfl, he22, hs23⟩
  have hS24 := St.join hS17 he22 hs23
  replace hS24 : St wd11 wd21 [(Ty.sl Ty.f).at u20 x18] := hS24
  refine WL.val u20 _ (op_assign rfl) rfl ?_
  refine WL.nil ?_
  refine W.seq (W.seq (W.region ?_))
  refine WL.val (Value.int .i64 (0 : Int)) _ (op_move rfl) rfl ?_
  refine WL.nil ?_
  show W _ _ _ _ _ _
  obtain ⟨res25, hres26, h⟩ := bs h
  refine W.blockLoop (fun fq wq => ∃ s, res25 = Res.fin s ∧ ∃ (uu0 : Value), fq 4 = uu0 ∧ St wd11 wq [(Ty.sl Ty.f).at uu0 s]) ?_ ?_
  · refine W.forN (fun k (s : (List Int)) fq wq => ∃ (uu0 : Value), fq 1 = (Value.pointer (some ⟨b1, 0, none⟩)) ∧ fq 3 = (Value.int .i64 ((r_Table).length : Int)) ∧ fq 4 = uu0 ∧ fq 25 = Value.int .i64 (k : Int) ∧ InR .i64 (k : Int) ∧ St wd11 wq [(Ty.sl Ty.f).at uu0 s]) hres26 ⟨u20, rfl, rfl, rfl, rfl, (inL rfl), hS24⟩ ?_ ?_
    · intro k27 x28 ct29 f30 wd31 hk32 hb33 hI34 hbrk35 hret36
      replace hI34 : ∃ (uu0 : Value), f30 1 = (Value.pointer (some ⟨b1, 0, none⟩)) ∧ f30 3 = (Value.int .i64 ((r_Table).length : Int)) ∧ f30 4 = uu0 ∧ f30 25 = Value.int .i64 (k27 : Int) ∧ InR .i64 (k27 : Int) ∧ St wd11 wd31 [(Ty.sl Ty.f).at uu0 x28] := hI34
      replace hb33 : p_impl_Ring_nearDimensions_L1 r_Table k27 x28 = some ct29 := hb33
      unfold p_impl_Ring_nearDimensions_L1 at hb33
      obtain ⟨u37, hf38, hf39, hf40, hf41, hr42, hS43⟩ := hI34
      refine W.seq (W.region ?_)
      refine WL.val (Value.bool (decide ((k27 : Int) < (3000 : Int)))) _ (op_lss hf41 rfl) rfl ?_
      have hl44 : (k27 : Int) < (3000 : Int) := by omega
      refine WL.nil ?_
      refine W.seq ?_
      refine W.condT (decide ((k27 : Int) < (3000 : Int))) rfl (decide_eq_true hl44) ?_
      refine W.skip ?_
      refine W.seq ?_
      refine W.block ?_
      refine W.seq (W.region ?_)
      refine WL.val (Value.int .i64 ((r_Table).length : Int)) _ (op_move hf39) rfl ?_
      obtain ⟨x46, hx47, hb33⟩ := bs hb33
      refine WL.make (t := Ty.f) hS43 sl_65 (fun _ _ => ⟨rfl, (show InF (0 : Int) from ⟨by decide, by decide⟩)⟩) rfl rfl hx47 rfl rfl ?_
      intro u48 wd49 hS50 he51
      replace hS50 : St wd11 wd49 [(Ty.sl Ty.f).at u37 x28, (Ty.sl Ty.f).at u48 x46] := hS50
      refine WL.val u48 _ (op_assign rfl) rfl ?_
      refine WL.val (FV (0 : Int)) _ (op_assign rfl) rfl ?_
      refine WL.nil ?_
      refine W.seq (W.seq (W.region ?_))
      refine WL.val (Value.pointer (some ⟨b1, 0, none⟩)) _ (op_fieldAddr fd_28_0 hf38) rfl ?_
      refine WL.val v_r_Table _ (op_load one_22 rfl (BoxAt.cell (BoxAt.lift (Ext.trans hE16 hS50.ext) hx6) rfl)) rfl ?_
      have hr52 := inR_len (Ty.lift _ (Ext.trans hE15 hS50.ext) r_r_Table)
      refine WL.val (Value.int .i64 ((r_Table).length : Int)) _ (op_lenL sl_22 (Ty.lift _ (Ext.trans hE15 hS50.ext) r_r_Table) rfl) rfl ?_
      refine WL.val (Value.int .i64 (0 : Int)) _ (op_move rfl) rfl ?_
      refine WL.nil ?_
      show W _ _ _ _ _ _
      obtain ⟨res53, hres54, hb33⟩ := bs hb33
      refine W.blockLoop (fun fq wq => ∃ s, res53 = Res.fin s ∧ fq 1 = (Value.pointer (some ⟨b1, 0, none⟩)) ∧ fq 3 = (Value.int .i64 ((r_Table).length : Int)) ∧ fq 5 = u48 ∧ fq 6 = (FV (0 : Int)) ∧ fq 25 = (Value.int .i64 (k27 : Int)) ∧ St wd11 wq [(Ty.sl Ty.f).at u48 s]) ?_ ?_
      · refine W.forN (fun k (s : (List Int)) fq wq => fq 1 = (Value.pointer (some ⟨b1, 0, none⟩)) ∧ fq 3 = (Value.int .i64 ((r_Table).length : Int)) ∧ fq 4 = u37 ∧ fq 5 = u48 ∧ fq 6 = (FV (0 : Int)) ∧ fq 25 = (Value.int .i64 (k27 : Int)) ∧ fq 30 = v_r_Table ∧ fq 31 = (Value.int .i64 ((r_Table).length : Int)) ∧ fq 32 = Value.int .i64 (k : Int) ∧ InR .i64 (k : Int) ∧ St wd11 wq [(Ty.sl Ty.f).at u37 x28, (Ty.sl Ty.f).at u48 s]) hres54 ⟨hf38, hf39, hf40, rfl, rfl, hf41, rfl, rfl, rfl, (inL rfl), hS50⟩ ?_ ?_
        · intro k55 x56 ct57 f58 wd59 hk60 hb61 hI62 hbrk63 hret64
          replace hI62 : f58 1 = (Value.pointer (some ⟨b1, 0, none⟩)) ∧ f58 3 = (Value.int .i64 ((r_Table).length : Int)) ∧ f58 4 = u37 ∧ f58 5 = u48 ∧ f58 6 = (FV (0 : Int)) ∧ f58 25 = (Value.int .i64 (k27 : Int)) ∧ f58 30 = v_r_Table ∧ f58 31 = (Value.int .i64 ((r_Table).length : Int)) ∧ f58 32 = Value.int .i64 (k55 : Int) ∧ InR .i64 (k55 : Int) ∧ St wd11 wd59 [(Ty.sl Ty.f).at u37 x28, (Ty.sl Ty.f).at u48 x56] := hI62
          replace hb61 : p_impl_Ring_nearDimensions_L2 r_Table x28 k55 x56 = some ct57 := hb61
          unfold p_impl_Ring_nearDimensions_L2 at hb61
          obtain ⟨hf65, hf66, hf67, hf68, hf69, hf70, hf71, hf72, hf73, hr74, hS75⟩ := hI62
          refine W.seq (W.region ?_)
          refine WL.val (Value.bool (decide ((k55 : Int) < ((r_Table).length : Int)))) _ (op_lss hf73 hf72) rfl ?_
          have hl76 : (k55 : Int) < ((r_Table).length : Int) := by omega
          refine WL.nil ?_
          refine W.seq ?_
          refine W.condT (decide ((k55 : Int) < ((r_Table).length : Int))) rfl (decide_eq_true hl76) ?_
          refine W.skip ?_
          refine W.seq ?_
          refine W.block ?_
          refine W.seq (W.region ?_)
          obtain ⟨x78, hx81, hb61⟩ := bs hb61
          obtain ⟨ha79, hb80, hx81⟩ := idx_some hx81
          refine WL.val (Value.pointer (some (elA v_r_Table ((k55 : Int)).toNat))) _ (op_idx sl_22 (Ty.lift _ (Ext.trans hE15 hS75.ext) r_r_Table) hf71 hf73 ha79 hb80) rfl ?_
          obtain ⟨u82, hc83, hr84⟩ := repSl.el r_r_Table hx81
          refine WL.val u82 _ (op_load one_54 rfl (Ext.cell (Ext.trans hE15 hS75.ext) hc83)) rfl ?_
          refine WL.val u82 _ (op_assign rfl) rfl ?_
          refine WL.nil ?_
          refine W.seq (W.region ?_)
          refine WL.val u82 _ (op_move rfl) rfl ?_
          have hr85 := inR_len (Ty.lift _ (Ext.trans hE15 hS75.ext) hr84)
          refine WL.val (Value.int .i64 ((x78).length : Int)) _ (op_lenL sl_54 (Ty.lift _ (Ext.trans hE15 hS75.ext) hr84) rfl) rfl ?_
          refine WL.val (Value.int .i64 (0 : Int)) _ (op_move rfl) rfl ?_
          refine WL.nil ?_
          show W _ _ _ _ _ _
          obtain ⟨res86, hres87, hb61⟩ := bs hb61
          refine W.blockLoop (fun fq wq => ∃ s, res86 = Res.fin s ∧ fq 1 = (Value.pointer (some ⟨b1, 0, none⟩)) ∧ fq 3 = (Value.int .i64 ((r_Table).length : Int)) ∧ fq 4 = u37 ∧ fq 5 = u48 ∧ fq 6 = (FV (0 : Int)) ∧ fq 25 = (Value.int .i64 (k27 : Int)) ∧ fq 30 = v_r_Table ∧ fq 31 = (Value.int .i64 ((r_Table).length : Int)) ∧ fq 32 = (Value.int .i64 (k55 : Int)) ∧ St wd11 wq [(Ty.sl Ty.f).at u37 x28, (Ty.sl Ty.f).at u48 s]) ?_ ?_
          · refine W.forN (fun k (s : (List Int)) fq wq => fq 1 = (Value.pointer (some ⟨b1, 0, none⟩)) ∧ fq 3 = (Value.int .i64 ((r_Table).length : Int)) ∧ fq 4 = u37 ∧ fq 5 = u48 ∧ fq 6 = (FV (0 : Int)) ∧ fq 25 = (Value.int .i64 (k27 : Int)) ∧ fq 30 = v_r_Table ∧ fq 31 = (Value.int .i64 ((r_Table).length : Int)) ∧ fq 32 = (Value.int .i64 (k55 : Int)) ∧ fq 36 = u82 ∧ fq 37 = (Value.int .i64 ((x78).length : Int)) ∧ fq 38 = Value.int .i64 (k : Int) ∧ InR .i64 (k : Int) ∧ St wd11 wq [(Ty.sl Ty.f).at u37 x28, (Ty.sl Ty.f).at u48 s]) hres87 ⟨hf65, hf66, hf67, hf68, hf69, hf70, hf71, hf72, hf73, rfl, rfl, rfl, (inL rfl), hS75⟩ ?_ ?_
            · intro k88 x89 ct90 f91 wd92 hk93 hb94 hI95 hbrk96 hret97
              replace hI95 : f91 1 = (Value.pointer (some ⟨b1, 0, none⟩)) ∧ f91 3 = (Value.int .i64 ((r_Table).length : Int)) ∧ f91 4 = u37 ∧ f91 5 = u48 ∧ f91 6 = (FV (0 : Int)) ∧ f91 25 = (Value.int .i64 (k27 : Int)) ∧ f91 30 = v_r_Table ∧ f91 31 = (Value.int .i64 ((r_Table).length : Int)) ∧ f91 32 = (Value.int .i64 (k55 : Int)) ∧ f91 36 = u82 ∧ f91 37 = (Value.int .i64 ((x78).length : Int)) ∧ f91 38 = Value.int .i64 (k88 : Int) ∧ InR .i64 (k88 : Int) ∧ St wd11 wd92 [(Ty.sl Ty.f).at u37 x28, (Ty.sl Ty.f).at u48 x89] := hI95
              replace hb94 : p_impl_Ring_nearDimensions_L3 x78 x28 k88 x89 = some ct90 := hb94
              unfold p_impl_Ring_nearDimensions_L3 at hb94
              obtain ⟨hf98, hf99, hf100, hf101, hf102, hf103, hf104, hf105, hf106, hf107, hf108, hf109, hr110, hS111⟩ := hI95
              refine W.seq (W.region ?_)
              refine WL.val (Value.bool (decide ((k88 : Int) < ((x78).length : Int)))) _ (op_lss hf109 hf108) rfl ?_
              have hl112 : (k88 : Int) < ((x78).length : Int) := by omega
              refine WL.nil ?_
              refine W.seq ?_
              refine W.condT (decide ((k88 : Int) < ((x78).length : Int))) rfl (decide_eq_true hl112) ?_
              refine W.skip ?_
              refine W.seq ?_
              refine W.block ?_
              refine W.seq (W.region ?_)
              refine WL.val (Value.int .i64 (k88 : Int)) _ (op_move hf109) rfl ?_
              obtain ⟨x114, hx117, hb94⟩ := bs hb94
              obtain ⟨ha115, hb116, hx117⟩ := idx_some hx117
              refine WL.val (Value.pointer (some (elA u82 ((k88 : Int)).toNat))) _ (op_idx sl_54 (Ty.lift _ (Ext.trans hE15 hS111.ext) hr84) hf107 hf109 ha115 hb116) rfl ?_
              obtain ⟨u118, hc119, hr120⟩ := repSl.el hr84 hx117
              refine WL.val u118 _ (op_load one_34 rfl (Ext.cell (Ext.trans hE15 hS111.ext) hc119)) rfl ?_
              refine WL.val (Value.int .i64 (k88 : Int)) _ (op_assign rfl) rfl ?_
              refine WL.val u118 _ (op_assign rfl) rfl ?_
              refine WL.nil ?_
              refine W.seq (W.region ?_)
              refine WL.val u118 _ (op_move rfl) rfl ?_
              have hr121 := inR_len (Ty.lift _ (Ext.trans hE15 hS111.ext) hr120)
              refine WL.val (Value.int .i64 ((x114).length : Int)) _ (op_lenL sl_34 (Ty.lift _ (Ext.trans hE15 hS111.ext) hr120) rfl) rfl ?_
              refine WL.val (Value.int .i64 (0 : Int)) _ (op_move rfl) rfl ?_
              refine WL.nil ?_
              show W _ _ _ _ _ _
              obtain ⟨res122, hres123, hb94⟩ := bs hb94
              refine W.blockLoop (fun fq wq => ∃ s, res122 = Res.fin s ∧ fq 1 = (Value.pointer (some ⟨b1, 0, none⟩)) ∧ fq 3 = (Value.int .i64 ((r_Table).length : Int)) ∧ fq 4 = u37 ∧ fq 5 = u48 ∧ fq 6 = (FV (0 : Int)) ∧ fq 25 = (Value.int .i64 (k27 : Int)) ∧ fq 30 = v_r_Table ∧ fq 31 = (Value.int .i64 ((r_Table).length : Int)) ∧ fq 32 = (Value.int .i64 (k55 : Int)) ∧ fq 36 = u82 ∧ fq 37 = (Value.int .i64 ((x78).length : Int)) ∧ fq 38 = (Value.int .i64 (k88 : Int)) ∧ St wd11 wq [(Ty.sl Ty.f).at u37 x28, (Ty.sl Ty.f).at u48 s]) ?_ ?_
              · refine W.forN (fun k (s : (List Int)) fq wq => fq 1 = (Value.pointer (some ⟨b1, 0, none⟩)) ∧ fq 3 = (Value.int .i64 ((r_Table).length : Int)) ∧ fq 4 = u37 ∧ fq 5 = u48 ∧ fq 6 = (FV (0 : Int)) ∧ fq 9 = (Value.int .i64 (k88 : Int)) ∧ fq 25 = (Value.int .i64 (k27 : Int)) ∧ fq 30 = v_r_Table ∧ fq 31 = (Value.int .i64 ((r_Table).length : Int)) ∧ fq 32 = (Value.int .i64 (k55 : Int)) ∧ fq 36 = u82 ∧ fq 37 = (Value.int .i64 ((x78).length : Int)) ∧ fq 38 = (Value.int .i64 (k88 : Int)) ∧ fq 43 = u118 ∧ fq 44 = (Value.int .i64 ((x114).length : Int)) ∧ fq 45 = Value.int .i64 (k : Int) ∧ InR .i64 (k : Int) ∧ St wd11 wq [(Ty.sl Ty.f).at u37 x28, (Ty.sl Ty.f).at u48 s]) hres123 ⟨hf98, hf99, hf100, hf101, hf102, rfl, hf103, hf104, hf105, hf106, hf107, hf108, hf109, rfl, rfl, rfl, (inL rfl), hS111⟩ ?_ ?_
                · intro k124 x125 ct126 f127 wd128 hk129 hb130 hI131 hbrk132 hret133
                  replace hI131 : f127 1 = (Value.pointer (some ⟨b1, 0, none⟩)) ∧ f127 3 = (Value.int .i64 ((r_Table).length : Int)) ∧ f127 4 = u37 ∧ f127 5 = u48 ∧ f127 6 = (FV (0 : Int)) ∧ f127 9 = (Value.int .i64 (k88 : Int)) ∧ f127 25 = (Value.int .i64 (k27 : Int)) ∧ f127 30 = v_r_Table ∧ f127 31 = (Value.int .i64 ((r_Table).length : Int)) ∧ f127 32 = (Value.int .i64 (k55 : Int)) ∧ f127 36 = u82 ∧ f127 37 = (Value.int .i64 ((x78).length : Int)) ∧ f127 38 = (Value.int .i64 (k88 : Int)) ∧ f127 43 = u118 ∧ f127 44 = (Value.int .i64 ((x114).length : Int)) ∧ f127 45 = Value.int .i64 (k124 : Int) ∧ InR .i64 (k124 : Int) ∧ St wd11 wd128 [(Ty.sl Ty.f).at u37 x28, (Ty.sl Ty.f).at u48 x125] := hI131
                  replace hb130 : p_impl_Ring_nearDimensions_L4 x114 k88 x28 k124 x125 = some ct126 := hb130
                  unfold p_impl_Ring_nearDimensions_L4 at hb130
                  obtain ⟨hf134, hf135, hf136, hf137, hf138, hf139, hf140, hf141, hf142, hf143, hf144, hf145, hf146, hf147, hf148, hf149, hr150, hS151⟩ := hI131
                  refine W.seq (W.region ?_)
                  refine WL.val (Value.bool (decide ((k124 : Int) < ((x114).length : Int)))) _ (op_lss hf149 hf148) rfl ?_
                  have hl152 : (k124 : Int) < ((x114).length : Int) := by omega
                  refine WL.nil ?_
                  refine W.seq ?_
                  refine W.condT (decide ((k124 : Int) < ((x114).length : Int))) rfl (decide_eq_true hl152) ?_
                  refine W.skip ?_
                  refine W.seq ?_
                  refine W.block ?_
                  refine W.seq (W.region ?_)
                  refine WL.val (Value.int .i64 (k124 : Int)) _ (op_move hf149) rfl ?_
                  obtain ⟨x154, hx157, hb130⟩ := bs hb130
                  obtain ⟨ha155, hb156, hx157⟩ := idx_some hx157
                  refine WL.val (Value.pointer (some (elA u118 ((k124 : Int)).toNat))) _ (op_idx sl_34 (Ty.lift _ (Ext.trans hE15 hS151.ext) hr120) hf147 hf149 ha155 hb156) rfl ?_
                  obtain ⟨u158, hc159, hr160⟩ := repSl.el hr120 hx157
                  obtain ⟨rfl, hr160⟩ := hr160
                  refine WL.val (Value.int .i64 x154) _ (op_load one_2 rfl (Ext.cell (Ext.trans hE15 hS151.ext) hc159)) rfl ?_
                  refine WL.val (Value.int .i64 (k124 : Int)) _ (op_assign rfl) rfl ?_
                  refine WL.val (Value.int .i64 x154) _ (op_assign rfl) rfl ?_
                  refine WL.nil ?_
                  show W _ _ _ _ _ _
                  obtain ⟨x190, hx193, hb130⟩ := bs hb130
                  obtain ⟨ha191, hb192, hx193⟩ := idx_some hx193
                  obtain ⟨u204, hc205, hr206⟩ := repSl.el (St.rep (t := (Ty.sl Ty.f)) hS151 1 rfl) hx193
                  obtain ⟨rfl, hr206⟩ := hr206
                  obtain ⟨x254, hx257, hb130⟩ := bs hb130
                  obtain ⟨ha255, hb256, hx257⟩ := idx_some hx257
                  obtain ⟨u268, hc269, hr270⟩ := repSl.el (St.rep (t := (Ty.sl Ty.f)) hS151 0 rfl) hx257
                  obtain ⟨rfl, hr270⟩ := hr270
                  obtain ⟨x287, hz288, hb130⟩ := bs hb130
                  refine W.drawR mixo 11 [] [fun _ v _ _ => v = u48, fun _ v _ _ => v = (Value.int .i64 (k88 : Int)) ∧ InR .i64 (k88 : Int), fun _ v _ _ => v = (Value.pointer (some (elA u48 ((k88 : Int)).toNat))), fun _ v _ _ => v = (FV x190) ∧ InF x190, fun _ v _ _ => v = (Value.int .i64 x154) ∧ InR .i64 x154, fun _ v _ _ => v = (FV (fOf x154)) ∧ InF (fOf x154), fun _ v _ _ => v = u37, fun _ v _ _ => v = (Value.int .i64 (k124 : Int)) ∧ InR .i64 (k124 : Int), fun _ v _ _ => v = (Value.pointer (some (elA u37 ((k124 : Int)).toNat))), fun _ v _ _ => v = (FV x254) ∧ InF x254, fun _ v _ _ => v = (FV x287) ∧ InF x287] (by kernel_rfl) (by kernel_rfl) ⟨pk, pk, pk, pk, pk, pk, pk, pk, pk, pk, pk, trivial⟩ ⟨?_, ?_, ?_, ?_, ?_, ?_, ?_, ?_, ?_, ?_, ?_, trivial⟩ ?_
                  · refine ObX.op rfl fun f161 wd162 he163 hout164 hphi165 => ?_
                    have e167 : f161 5 = u48 := (hout164 5 rfl).trans hf137
                    exact OpX.val u48 wd162 rfl (op_move e167) (Ext.refl _) rfl
                  · refine ObX.op rfl fun f168 wd169 he170 hout171 hphi172 => ?_
                    have e174 : f168 9 = (Value.int .i64 (k88 : Int)) := (hout171 9 rfl).trans hf139
                    exact OpX.val (Value.int .i64 (k88 : Int)) wd169 rfl (op_move e174) (Ext.refl _) ⟨rfl, hr110⟩
                  · refine ObX.op rfl fun f175 wd176 he177 hout178 hphi179 => ?_
                    have hS180 := St.extend hS151 he177
                    obtain ⟨S181, hS182, hf183⟩ := hphi179 0 50 _ rfl rfl rfl
                    have e184 : f175 50 = u48 := hf183
                    obtain ⟨S185, hS186, hf187⟩ := hphi179 1 51 _ rfl rfl rfl
                    obtain ⟨e188, hr189⟩ := hf187
                    exact OpX.val (Value.pointer (some (elA u48 ((k88 : Int)).toNat))) wd176 rfl (op_idx sl_65 (St.rep (t := (Ty.sl Ty.f)) hS180 1 rfl) e184 e188 ha191 hb192) (Ext.refl _) rfl
                  · refine ObX.op rfl fun f194 wd195 he196 hout197 hphi198 => ?_
                    obtain ⟨S200, hS201, hf202⟩ := hphi198 2 52 _ rfl rfl rfl
                    have e203 : f194 52 = (Value.pointer (some (elA u48 ((k88 : Int)).toNat))) := hf202
                    exact OpX.val (FV x190) wd195 rfl (op_load one_67 e203 (Ext.cell he196 hc205)) (Ext.refl _) ⟨rfl, hr206⟩
                  · refine ObX.op rfl fun f207 wd208 he209 hout210 hphi211 => ?_
                    have e213 : f207 12 = (Value.int .i64 x154) := (hout210 12 rfl).trans rfl
                    exact OpX.val (Value.int .i64 x154) wd208 rfl (op_move e213) (Ext.refl _) ⟨rfl, hr160⟩
                  · refine ObX.op rfl fun f214 wd215 he216 hout217 hphi218 => ?_
                    obtain ⟨S220, hS221, hf222⟩ := hphi218 4 54 _ rfl rfl rfl
                    obtain ⟨e223, hr224⟩ := hf222
                    exact OpX.val (FV (fOf x154)) wd215 rfl (op_fof e223 it_2 ft_67) (Ext.refl _) ⟨rfl, (fOf_in _)⟩
                  · refine ObX.op rfl fun f225 wd226 he227 hout228 hphi229 => ?_
                    have e231 : f225 4 = u37 := (hout228 4 rfl).trans hf136
                    exact OpX.val u37 wd226 rfl (op_move e231) (Ext.refl _) rfl
                  · refine ObX.op rfl fun f232 wd233 he234 hout235 hphi236 => ?_
                    have e238 : f232 11 = (Value.int .i64 (k124 : Int)) := (hout235 11 rfl).trans rfl
                    exact OpX.val (Value.int .i64 (k124 : Int)) wd233 rfl (op_move e238) (Ext.refl _) ⟨rfl, hr150⟩
                  · refine ObX.op rfl fun f239 wd240 he241 hout242 hphi243 => ?_
                    have hS244 := St.extend hS151 he241
                    obtain ⟨S245, hS246, hf247⟩ := hphi243 6 56 _ rfl rfl rfl
                    have e248 : f239 56 = u37 := hf247
                    obtain ⟨S249, hS250, hf251⟩ := hphi243 7 57 _ rfl rfl rfl
                    obtain ⟨e252, hr253⟩ := hf251
                    exact OpX.val (Value.pointer (some (elA u37 ((k124 : Int)).toNat))) wd240 rfl (op_idx sl_65 (St.rep (t := (Ty.sl Ty.f)) hS244 0 rfl) e248 e252 ha255 hb256) (Ext.refl _) rfl
                  · refine ObX.op rfl fun f258 wd259 he260 hout261 hphi262 => ?_
                    obtain ⟨S264, hS265, hf266⟩ := hphi262 8 58 _ rfl rfl rfl
                    have e267 : f258 58 = (Value.pointer (some (elA u37 ((k124 : Int)).toNat))) := hf266
                    exact OpX.val (FV x254) wd259 rfl (op_load one_67 e267 (Ext.cell he260 hc269)) (Ext.refl _) ⟨rfl, hr270⟩
                  · refine ObX.op rfl fun f271 wd272 he273 hout274 hphi275 => ?_
                    obtain ⟨S277, hS278, hf279⟩ := hphi275 5 55 _ rfl rfl rfl
                    obtain ⟨e280, hr281⟩ := hf279
                    obtain ⟨S282, hS283, hf284⟩ := hphi275 9 59 _ rfl rfl rfl
                    obtain ⟨e285, hr286⟩ := hf284
                    exact OpX.val (FV x287) wd272 rfl (op_fmul e280 e285 hz288) (Ext.refl _) ⟨rfl, (fMul_in hz288)⟩
                  · intro f290 wd291 Ss292 he293 hout294 hSn295 hSd296 hphi297
                    show WL _ _ _ _ _ _ _
                    have hS298 := St.extend hS151 he293
                    have e299 : f290 50 = u48 := hphi297 0 50 _ (by decide) rfl rfl
                    obtain ⟨e300, hr301⟩ := hphi297 1 51 _ (by decide) rfl rfl
                    obtain ⟨e302, hr303⟩ := hphi297 3 53 _ (by decide) rfl rfl
                    obtain ⟨e304, hr305⟩ := hphi297 10 60 _ (by decide) rfl rfl
                    have e306 : f290 1 = (Value.pointer (some ⟨b1, 0, none⟩)) := (hout294 1 rfl).trans hf134
                    have e307 : f290 3 = (Value.int .i64 ((r_Table).length : Int)) := (hout294 3 rfl).trans hf135
                    have e308 : f290 4 = u37 := (hout294 4 rfl).trans hf136
                    have e309 : f290 5 = u48 := (hout294 5 rfl).trans hf137
                    have e310 : f290 6 = (FV (0 : Int)) := (hout294 6 rfl).trans hf138
                    have e311 : f290 9 = (Value.int .i64 (k88 : Int)) := (hout294 9 rfl).trans hf139
                    have e312 : f290 25 = (Value.int .i64 (k27 : Int)) := (hout294 25 rfl).trans hf140
                    have e313 : f290 30 = v_r_Table := (hout294 30 rfl).trans hf141
                    have e314 : f290 31 = (Value.int .i64 ((r_Table).length : Int)) := (hout294 31 rfl).trans hf142
                    have e315 : f290 32 = (Value.int .i64 (k55 : Int)) := (hout294 32 rfl).trans hf143
                    have e316 : f290 36 = u82 := (hout294 36 rfl).trans hf144
                    have e317 : f290 37 = (Value.int .i64 ((x78).length : Int)) := (hout294 37 rfl).trans hf145
                    have e318 : f290 38 = (Value.int .i64 (k88 : Int)) := (hout294 38 rfl).trans hf146
                    have e319 : f290 43 = u118 := (hout294 43 rfl).trans hf147
                    have e320 : f290 44 = (Value.int .i64 ((x114).length : Int)) := (hout294 44 rfl).trans hf148
                    have e321 : f290 45 = (Value.int .i64 (k124 : Int)) := (hout294 45 rfl).trans hf149
                    obtain ⟨x322, hz323, hb130⟩ := bs hb130
                    refine WL.val (FV x322) _ (op_fadd e302 e304 hz323) rfl ?_
                    refine WL.val (Value.pointer (some (elA u48 ((k88 : Int)).toNat))) _ (op_idx sl_65 (St.rep (t := (Ty.sl Ty.f)) hS298 1 rfl) e299 e300 ha191 hb192) rfl ?_
                    refine WL.storeEl flat_f hS298 (k := 1) rfl sz_67 rfl rfl (lt_of_idx ha191 hb192) ⟨rfl, (fAdd_in hz323)⟩ ?_
                    intro wd325 hS326
                    replace hS326 : St wd11 wd325 [(Ty.sl Ty.f).at u37 x28, (Ty.sl Ty.f).at u48 ((x125).set ((k88 : Int)).toNat x322)] := hS326
                    refine WL.nil ?_
                    show W _ _ _ _ _ _
                    refine W.region ?_
                    refine WL.val (Value.int .i64 (w64 ((k124 : Int) + (1 : Int)))) _ (op_add e321 rfl) rfl ?_
                    refine WL.val (Value.int .i64 (w64 ((k124 : Int) + (1 : Int)))) _ (op_move rfl) rfl ?_
                    refine WL.nil ?_
                    obtain rfl := Option.some.inj hb130
                    show ∃ s, _ = Ctl.next s ∧ _
                    exact ⟨_, rfl, e306, e307, e308, e309, e310, e311, e312, e313, e314, e315, e316, e317, e318, e319, e320, (ctr_next hl152 hr121), (ctr_rng hl152 hr121), hS326⟩
                · intro x333 f328 wd329 hs330 hI331
                  replace hI331 : f328 1 = (Value.pointer (some ⟨b1, 0, none⟩)) ∧ f328 3 = (Value.int .i64 ((r_Table).length : Int)) ∧ f328 4 = u37 ∧ f328 5 = u48 ∧ f328 6 = (FV (0 : Int)) ∧ f328 9 = (Value.int .i64 (k88 : Int)) ∧ f328 25 = (Value.int .i64 (k27 : Int)) ∧ f328 30 = v_r_Table ∧ f328 31 = (Value.int .i64 ((r_Table).length : Int)) ∧ f328 32 = (Value.int .i64 (k55 : Int)) ∧ f328 36 = u82 ∧ f328 37 = (Value.int .i64 ((x78).length : Int)) ∧ f328 38 = (Value.int .i64 (k88 : Int)) ∧ f328 43 = u118 ∧ f328 44 = (Value.int .i64 ((x114).length : Int)) ∧ f328 45 = Value.int .i64 (((x114).length : Nat) : Int) ∧ InR .i64 (((x114).length : Nat) : Int) ∧ St wd11 wd329 [(Ty.sl Ty.f).at u37 x28, (Ty.sl Ty.f).at u48 x333] := hI331
                  obtain ⟨hf334, hf335, hf336, hf337, hf338, hf339, hf340, hf341, hf342, hf343, hf344, hf345, hf346, hf347, hf348, hf349, hr350, hS351⟩ := hI331
                  refine W.seq (W.region ?_)
                  refine WL.val (Value.bool (decide ((((x114).length : Nat) : Int) < ((x114).length : Int)))) _ (op_lss hf349 hf348) rfl ?_
                  have hl352 : ¬ (((x114).length : Nat) : Int) < ((x114).length : Int) := by omega
                  refine WL.nil ?_
                  refine W.seq ?_
                  refine W.condF (decide ((((x114).length : Nat) : Int) < ((x114).length : Int))) rfl (decide_eq_false hl352) ?_
                  refine W.exit ?_
                  show _ = _ ∧ _
                  exact ⟨rfl, _, hs330, hf334, hf335, hf336, hf337, hf338, hf340, hf341, hf342, hf343, hf344, hf345, hf346, hS351⟩
              · rintro f353 wd354 ⟨x357, rfl, hq355⟩
                replace hb94 := onRes_fin hb94
                replace hq355 : f353 1 = (Value.pointer (some ⟨b1, 0, none⟩)) ∧ f353 3 = (Value.int .i64 ((r_Table).length : Int)) ∧ f353 4 = u37 ∧ f353 5 = u48 ∧ f353 6 = (FV (0 : Int)) ∧ f353 25 = (Value.int .i64 (k27 : Int)) ∧ f353 30 = v_r_Table ∧ f353 31 = (Value.int .i64 ((r_Table).length : Int)) ∧ f353 32 = (Value.int .i64 (k55 : Int)) ∧ f353 36 = u82 ∧ f353 37 = (Value.int .i64 ((x78).length : Int)) ∧ f353 38 = (Value.int .i64 (k88 : Int)) ∧ St wd11 wd354 [(Ty.sl Ty.f).at u37 x28, (Ty.sl Ty.f).at u48 x357] := hq355
                obtain ⟨hf358, hf359, hf360, hf361, hf362, hf363, hf364, hf365, hf366, hf367, hf368, hf369, hS370⟩ := hq355
                show W _ _ _ _ _ _
                refine W.region ?_
                refine WL.val (Value.int .i64 (w64 ((k88 : Int) + (1 : Int)))) _ (op_add hf369 rfl) rfl ?_
                refine WL.val (Value.int .i64 (w64 ((k88 : Int) + (1 : Int)))) _ (op_move rfl) rfl ?_
                refine WL.nil ?_
                obtain rfl := Option.some.inj hb94
                show ∃ s, _ = Ctl.next s ∧ _
                exact ⟨_, rfl, hf358, hf359, hf360, hf361, hf362, hf363, hf364, hf365, hf366, hf367, hf368, (ctr_next hl112 hr85), (ctr_rng hl112 hr85), hS370⟩
            · intro x378 f373 wd374 hs375 hI376
              replace hI376 : f373 1 = (Value.pointer (some ⟨b1, 0, none⟩)) ∧ f373 3 = (Value.int .i64 ((r_Table).length : Int)) ∧ f373 4 = u37 ∧ f373 5 = u48 ∧ f373 6 = (FV (0 : Int)) ∧ f373 25 = (Value.int .i64 (k27 : Int)) ∧ f373 30 = v_r_Table ∧ f373 31 = (Value.int .i64 ((r_Table).length : Int)) ∧ f373 32 = (Value.int .i64 (k55 : Int)) ∧ f373 36 = u82 ∧ f373 37 = (Value.int .i64 ((x78).length : Int)) ∧ f373 38 = Value.int .i64 (((x78).length : Nat) : Int) ∧ InR .i64 (((x78).length : Nat) : Int) ∧ St wd11 wd374 [(Ty.sl Ty.f).at u37 x28, (Ty.sl Ty.f).at u48 x378] := hI376
              obtain ⟨hf379, hf380, hf381, hf382, hf383, hf384, hf385, hf386, hf387, hf388, hf389, hf390, hr391, hS392⟩ := hI376
              refine W.seq (W.region ?_)
              refine WL.val (Value.bool (decide ((((x78).length : Nat) : Int) < ((x78).length : Int)))) _ (op_lss hf390 hf389) rfl ?_
              have hl393 : ¬ (((x78).length : Nat) : Int) < ((x78).length : Int) := by omega
              refine WL.nil ?_
              refine W.seq ?_
              refine W.condF (decide ((((x78).length : Nat) : Int) < ((x78).length : Int))) rfl (decide_eq_false hl393) ?_
              refine W.exit ?_
              show _ = _ ∧ _
              exact ⟨rfl, _, hs375, hf379, hf380, hf381, hf382, hf383, hf384, hf385, hf386, hf387, hS392⟩
          · rintro f394 wd395 ⟨x398, rfl, hq396⟩
            replace hb61 := onRes_fin hb61
            replace hq396 : f394 1 = (Value.pointer (some ⟨b1, 0, none⟩)) ∧ f394 3 = (Value.int .i64 ((r_Table).length : Int)) ∧ f394 4 = u37 ∧ f394 5 = u48 ∧ f394 6 = (FV (0 : Int)) ∧ f394 25 = (Value.int .i64 (k27 : Int)) ∧ f394 30 = v_r_Table ∧ f394 31 = (Value.int .i64 ((r_Table).length : Int)) ∧ f394 32 = (Value.int .i64 (k55 : Int)) ∧ St wd11 wd395 [(Ty.sl Ty.f).at u37 x28, (Ty.sl Ty.f).at u48 x398] := hq396
            obtain ⟨hf399, hf400, hf401, hf402, hf403, hf404, hf405, hf406, hf407, hS408⟩ := hq396
            show W _ _ _ _ _ _
            refine W.region ?_
            refine WL.val (Value.int .i64 (w64 ((k55 : Int) + (1 : Int)))) _ (op_add hf407 rfl) rfl ?_
            refine WL.val (Value.int .i64 (w64 ((k55 : Int) + (1 : Int)))) _ (op_move rfl) rfl ?_
            refine WL.nil ?_
            obtain rfl := Option.some.inj hb61
            show ∃ s, _ = Ctl.next s ∧ _
            exact ⟨_, rfl, hf399, hf400, hf401, hf402, hf403, hf404, hf405, hf406, (ctr_next hl76 hr52), (ctr_rng hl76 hr52), hS408⟩
        · intro x416 f411 wd412 hs413 hI414
          replace hI414 : f411 1 = (Value.pointer (some ⟨b1, 0, none⟩)) ∧ f411 3 = (Value.int .i64 ((r_Table).length : Int)) ∧ f411 4 = u37 ∧ f411 5 = u48 ∧ f411 6 = (FV (0 : Int)) ∧ f411 25 = (Value.int .i64 (k27 : Int)) ∧ f411 30 = v_r_Table ∧ f411 31 = (Value.int .i64 ((r_Table).length : Int)) ∧ f411 32 = Value.int .i64 (((r_Table).length : Nat) : Int) ∧ InR .i64 (((r_Table).length : Nat) : Int) ∧ St wd11 wd412 [(Ty.sl Ty.f).at u37 x28, (Ty.sl Ty.f).at u48 x416] := hI414
          obtain ⟨hf417, hf418, hf419, hf420, hf421, hf422, hf423, hf424, hf425, hr426, hS427⟩ := hI414
          refine W.seq (W.region ?_)
          refine WL.val (Value.bool (decide ((((r_Table).length : Nat) : Int) < ((r_Table).length : Int)))) _ (op_lss hf425 hf424) rfl ?_
          have hl428 : ¬ (((r_Table).length : Nat) : Int) < ((r_Table).length : Int) := by omega
          refine WL.nil ?_
          refine W.seq ?_
          refine W.condF (decide ((((r_Table).length : Nat) : Int) < ((r_Table).length : Int))) rfl (decide_eq_false hl428) ?_
          refine W.exit ?_
          show _ = _ ∧ _
          exact ⟨rfl, _, hs413, hf417, hf418, hf420, hf421, hf422, (St.pick hS427 [1] rfl)⟩
      · rintro f429 wd430 ⟨x433, rfl, hq431⟩
        replace hb33 := onRes_fin hb33
        replace hq431 : f429 1 = (Value.pointer (some ⟨b1, 0, none⟩)) ∧ f429 3 = (Value.int .i64 ((r_Table).length : Int)) ∧ f429 5 = u48 ∧ f429 6 = (FV (0 : Int)) ∧ f429 25 = (Value.int .i64 (k27 : Int)) ∧ St wd11 wd430 [(Ty.sl Ty.f).at u48 x433] := hq431
        obtain ⟨hf434, hf435, hf436, hf437, hf438, hS439⟩ := hq431
        refine W.seq (W.seq (W.region ?_))
        refine WL.val u48 _ (op_move hf436) rfl ?_
        have hr440 := inR_len (St.rep (t := (Ty.sl Ty.f)) hS439 0 rfl)
        refine WL.val (Value.int .i64 ((x433).length : Int)) _ (op_lenL sl_65 (St.rep (t := (Ty.sl Ty.f)) hS439 0 rfl) rfl) rfl ?_
        refine WL.val (Value.int .i64 (0 : Int)) _ (op_move rfl) rfl ?_
        refine WL.nil ?_
        show W _ _ _ _ _ _
        obtain ⟨res441, hres442, hb33⟩ := bs hb33
        refine W.blockLoop (fun fq wq => ∃ s, res441 = Res.fin s ∧ fq 1 = (Value.pointer (some ⟨b1, 0, none⟩)) ∧ fq 3 = (Value.int .i64 ((r_Table).length : Int)) ∧ fq 5 = u48 ∧ fq 6 = FV s ∧ InF s ∧ fq 25 = (Value.int .i64 (k27 : Int)) ∧ St wd11 wq [(Ty.sl Ty.f).at u48 x433]) ?_ ?_
        · refine W.forN (fun k (s : Int) fq wq => fq 1 = (Value.pointer (some ⟨b1, 0, none⟩)) ∧ fq 3 = (Value.int .i64 ((r_Table).length : Int)) ∧ fq 5 = u48 ∧ fq 6 = FV s ∧ InF s ∧ fq 25 = (Value.int .i64 (k27 : Int)) ∧ fq 66 = u48 ∧ fq 67 = (Value.int .i64 ((x433).length : Int)) ∧ fq 68 = Value.int .i64 (k : Int) ∧ InR .i64 (k : Int) ∧ St wd11 wq [(Ty.sl Ty.f).at u48 x433]) hres442 ⟨hf434, hf435, hf436, hf437, (show InF (0 : Int) from ⟨by decide, by decide⟩), hf438, rfl, rfl, rfl, (inL rfl), hS439⟩ ?_ ?_
          · intro k443 x444 ct445 f446 wd447 hk448 hb449 hI450 hbrk451 hret452
            replace hI450 : f446 1 = (Value.pointer (some ⟨b1, 0, none⟩)) ∧ f446 3 = (Value.int .i64 ((r_Table).length : Int)) ∧ f446 5 = u48 ∧ f446 6 = FV x444 ∧ InF x444 ∧ f446 25 = (Value.int .i64 (k27 : Int)) ∧ f446 66 = u48 ∧ f446 67 = (Value.int .i64 ((x433).length : Int)) ∧ f446 68 = Value.int .i64 (k443 : Int) ∧ InR .i64 (k443 : Int) ∧ St wd11 wd447 [(Ty.sl Ty.f).at u48 x433] := hI450
            replace hb449 : p_impl_Ring_nearDimensions_L5 x433 k443 x444 = some ct445 := hb449
            unfold p_impl_Ring_nearDimensions_L5 at hb449
            obtain ⟨hf453, hf454, hf455, hf456, hr457, hf458, hf459, hf460, hf461, hr462, hS463⟩ := hI450
            refine W.seq (W.region ?_)
            refine WL.val (Value.bool (decide ((k443 : Int) < ((x433).length : Int)))) _ (op_lss hf461 hf460) rfl ?_
            have hl464 : (k443 : Int) < ((x433).length : Int) := by omega
            refine WL.nil ?_
            refine W.seq ?_
            refine W.condT (decide ((k443 : Int) < ((x433).length : Int))) rfl (decide_eq_true hl464) ?_
            refine W.skip ?_
            refine W.seq ?_
            refine W.block ?_
            refine W.seq (W.region ?_)
            obtain ⟨x466, hx469, hb449⟩ := bs hb449
            obtain ⟨ha467, hb468, hx469⟩ := idx_some hx469
            refine WL.val (Value.pointer (some (elA u48 ((k443 : Int)).toNat))) _ (op_idx sl_65 (St.rep (t := (Ty.sl Ty.f)) hS463 0 rfl) hf459 hf461 ha467 hb468) rfl ?_
            obtain ⟨u470, hc471, hr472⟩ := repSl.el (St.rep (t := (Ty.sl Ty.f)) hS463 0 rfl) hx469
            obtain ⟨rfl, hr472⟩ := hr472
            refine WL.val (FV x466) _ (op_load one_67 rfl hc471) rfl ?_
            refine WL.val (FV x466) _ (op_assign rfl) rfl ?_
            refine WL.nil ?_
            show W _ _ _ _ _ _
            refine W.region ?_
            refine WL.val (FV x444) _ (op_move hf456) rfl ?_
            refine WL.val (FV x466) _ (op_move rfl) rfl ?_
            obtain ⟨x473, hz474, hb449⟩ := bs hb449
            refine WL.val (FV x473) _ (op_fmax rfl rfl hz474) rfl ?_
            refine WL.val (FV x473) _ (op_assign rfl) rfl ?_
            refine WL.nil ?_
            show W _ _ _ _ _ _
            refine W.region ?_
            refine WL.val (Value.int .i64 (w64 ((k443 : Int) + (1 : Int)))) _ (op_add hf461 rfl) rfl ?_
            refine WL.val (Value.int .i64 (w64 ((k443 : Int) + (1 : Int)))) _ (op_move rfl) rfl ?_
            refine WL.nil ?_
            obtain rfl := Option.some.inj hb449
            show ∃ s, _ = Ctl.next s ∧ _
            exact ⟨_, rfl, hf453, hf454, hf455, rfl, (fMax_in hr457 hr472 hz474), hf458, hf459, hf460, (ctr_next hl464 hr440), (ctr_rng hl464 hr440), hS463⟩
          · intro x481 f476 wd477 hs478 hI479
            replace hI479 : f476 1 = (Value.pointer (some ⟨b1, 0, none⟩)) ∧ f476 3 = (Value.int .i64 ((r_Table).length : Int)) ∧ f476 5 = u48 ∧ f476 6 = FV x481 ∧ InF x481 ∧ f476 25 = (Value.int .i64 (k27 : Int)) ∧ f476 66 = u48 ∧ f476 67 = (Value.int .i64 ((x433).length : Int)) ∧ f476 68 = Value.int .i64 (((x433).length : Nat) : Int) ∧ InR .i64 (((x433).length : Nat) : Int) ∧ St wd11 wd477 [(Ty.sl Ty.f).at u48 x433] := hI479
            obtain ⟨hf482, hf483, hf484, hf485, hr486, hf487, hf488, hf489, hf490, hr491, hS492⟩ := hI479
            refine W.seq (W.region ?_)
            refine WL.val (Value.bool (decide ((((x433).length : Nat) : Int) < ((x433).length : Int)))) _ (op_lss hf490 hf489) rfl ?_
            have hl493 : ¬ (((x433).length : Nat) : Int) < ((x433).length : Int) := by omega
            refine WL.nil ?_
            refine W.seq ?_
            refine W.condF (decide ((((x433).length : Nat) : Int) < ((x433).length : Int))) rfl (decide_eq_false hl493) ?_
            refine W.exit ?_
            show _ = _ ∧ _
            exact ⟨rfl, _, hs478, hf482, hf483, hf484, hf485, hr486, hf487, hS492⟩
        · rintro f494 wd495 ⟨x498, rfl, hq496⟩
          replace hb33 := onRes_fin hb33
          replace hq496 : f494 1 = (Value.pointer (some ⟨b1, 0, none⟩)) ∧ f494 3 = (Value.int .i64 ((r_Table).length : Int)) ∧ f494 5 = u48 ∧ f494 6 = FV x498 ∧ InF x498 ∧ f494 25 = (Value.int .i64 (k27 : Int)) ∧ St wd11 wd495 [(Ty.sl Ty.f).at u48 x433] := hq496
          obtain ⟨hf499, hf500, hf501, hf502, hr503, hf504, hS505⟩ := hq496
          refine W.seq (W.seq (W.region ?_))
          refine WL.val u48 _ (op_move hf501) rfl ?_
          have hr506 := inR_len (St.rep (t := (Ty.sl Ty.f)) hS505 0 rfl)
          refine WL.val (Value.int .i64 ((x433).length : Int)) _ (op_lenL sl_65 (St.rep (t := (Ty.sl Ty.f)) hS505 0 rfl) rfl) rfl ?_
          refine WL.val (Value.int .i64 (0 : Int)) _ (op_move rfl) rfl ?_
          refine WL.nil ?_
          show W _ _ _ _ _ _
          obtain ⟨res507, hres508, hb33⟩ := bs hb33
          refine W.blockLoop (fun fq wq => ∃ s, res507 = Res.fin s ∧ fq 1 = (Value.pointer (some ⟨b1, 0, none⟩)) ∧ fq 3 = (Value.int .i64 ((r_Table).length : Int)) ∧ fq 5 = u48 ∧ fq 25 = (Value.int .i64 (k27 : Int)) ∧ St wd11 wq [(Ty.sl Ty.f).at u48 s]) ?_ ?_
          · refine W.forN (fun k (s : (List Int)) fq wq => fq 1 = (Value.pointer (some ⟨b1, 0, none⟩)) ∧ fq 3 = (Value.int .i64 ((r_Table).length : Int)) ∧ fq 5 = u48 ∧ fq 6 = (FV x498) ∧ fq 25 = (Value.int .i64 (k27 : Int)) ∧ fq 77 = (Value.int .i64 ((x433).length : Int)) ∧ fq 78 = Value.int .i64 (k : Int) ∧ InR .i64 (k : Int) ∧ St wd11 wq [(Ty.sl Ty.f).at u48 s]) hres508 ⟨hf499, hf500, hf501, hf502, hf504, rfl, rfl, (inL rfl), hS505⟩ ?_ ?_
            · intro k509 x510 ct511 f512 wd513 hk514 hb515 hI516 hbrk517 hret518
              replace hI516 : f512 1 = (Value.pointer (some ⟨b1, 0, none⟩)) ∧ f512 3 = (Value.int .i64 ((r_Table).length : Int)) ∧ f512 5 = u48 ∧ f512 6 = (FV x498) ∧ f512 25 = (Value.int .i64 (k27 : Int)) ∧ f512 77 = (Value.int .i64 ((x433).length : Int)) ∧ f512 78 = Value.int .i64 (k509 : Int) ∧ InR .i64 (k509 : Int) ∧ St wd11 wd513 [(Ty.sl Ty.f).at u48 x510] := hI516
              replace hb515 : p_impl_Ring_nearDimensions_L6 x498 k509 x510 = some ct511 := hb515
              unfold p_impl_Ring_nearDimensions_L6 at hb515
              obtain ⟨hf519, hf520, hf521, hf522, hf523, hf524, hf525, hr526, hS527⟩ := hI516
              refine W.seq (W.region ?_)
              refine WL.val (Value.bool (decide ((k509 : Int) < ((x433).length : Int)))) _ (op_lss hf525 hf524) rfl ?_
              have hl528 : (k509 : Int) < ((x433).length : Int) := by omega
              refine WL.nil ?_
              refine W.seq ?_
              refine W.condT (decide ((k509 : Int) < ((x433).length : Int))) rfl (decide_eq_true hl528) ?_
              refine W.skip ?_
              refine W.seq ?_
              refine W.block ?_
              refine W.seq (W.region ?_)
              refine WL.val (Value.int .i64 (k509 : Int)) _ (op_move hf525) rfl ?_
              refine WL.val (Value.int .i64 (k509 : Int)) _ (op_assign rfl) rfl ?_
              refine WL.nil ?_
              show W _ _ _ _ _ _
              refine W.region ?_
              refine WL.val u48 _ (op_move hf521) rfl ?_
              refine WL.val (Value.int .i64 (k509 : Int)) _ (op_move rfl) rfl ?_
              obtain ⟨x530, hx533, hb515⟩ := bs hb515
              obtain ⟨ha531, hb532, hx533⟩ := idx_some hx533
              refine WL.val (Value.pointer (some (elA u48 ((k509 : Int)).toNat))) _ (op_idx sl_65 (St.rep (t := (Ty.sl Ty.f)) hS527 0 rfl) rfl rfl ha531 hb532) rfl ?_
              obtain ⟨u534, hc535, hr536⟩ := repSl.el (St.rep (t := (Ty.sl Ty.f)) hS527 0 rfl) hx533
              obtain ⟨rfl, hr536⟩ := hr536
              refine WL.val (FV x530) _ (op_load one_67 rfl hc535) rfl ?_
              refine WL.val (FV x498) _ (op_move hf522) rfl ?_
              obtain ⟨x537, hz538, hb515⟩ := bs hb515
              refine WL.val (FV x537) _ (op_fquo rfl rfl hz538) rfl ?_
              refine WL.val (Value.pointer (some (elA u48 ((k509 : Int)).toNat))) _ (op_idx sl_65 (St.rep (t := (Ty.sl Ty.f)) hS527 0 rfl) rfl rfl ha531 hb532) rfl ?_
              refine WL.storeEl flat_f hS527 (k := 0) rfl sz_67 rfl rfl (lt_of_idx ha531 hb532) ⟨rfl, (fQuo_in hz538)⟩ ?_
              intro wd540 hS541
              replace hS541 : St wd11 wd540 [(Ty.sl Ty.f).at u48 ((x510).set ((k509 : Int)).toNat x537)] := hS541
              refine WL.nil ?_
              show W _ _ _ _ _ _
              refine W.region ?_
              refine WL.val (Value.int .i64 (w64 ((k509 : Int) + (1 : Int)))) _ (op_add hf525 rfl) rfl ?_
              refine WL.val (Value.int .i64 (w64 ((k509 : Int) + (1 : Int)))) _ (op_move rfl) rfl ?_
              refine WL.nil ?_
              obtain rfl := Option.some.inj hb515
              show ∃ s, _ = Ctl.next s ∧ _
              exact ⟨_, rfl, hf519, hf520, hf521, hf522, hf523, hf524, (ctr_next hl528 hr506), (ctr_rng hl528 hr506), hS541⟩
            · intro x548 f543 wd544 hs545 hI546
              replace hI546 : f543 1 = (Value.pointer (some ⟨b1, 0, none⟩)) ∧ f543 3 = (Value.int .i64 ((r_Table).length : Int)) ∧ f543 5 = u48 ∧ f543 6 = (FV x498) ∧ f543 25 = (Value.int .i64 (k27 : Int)) ∧ f543 77 = (Value.int .i64 ((x433).length : Int)) ∧ f543 78 = Value.int .i64 (((x433).length : Nat) : Int) ∧ InR .i64 (((x433).length : Nat) : Int) ∧ St wd11 wd544 [(Ty.sl Ty.f).at u48 x548] := hI546
              obtain ⟨hf549, hf550, hf551, hf552, hf553, hf554, hf555, hr556, hS557⟩ := hI546
              refine W.seq (W.region ?_)
              refine WL.val (Value.bool (decide ((((x433).length : Nat) : Int) < ((x433).length : Int)))) _ (op_lss hf555 hf554) rfl ?_
              have hl558 : ¬ (((x433).length : Nat) : Int) < ((x433).length : Int) := by omega
              refine WL.nil ?_
              refine W.seq ?_
              refine W.condF (decide ((((x433).length : Nat) : Int) < ((x433).length : Int))) rfl (decide_eq_false hl558) ?_
              refine W.exit ?_
              show _ = _ ∧ _
              exact ⟨rfl, _, hs545, hf549, hf550, hf551, hf553, hS557⟩
          · rintro f559 wd560 ⟨x563, rfl, hq561⟩
            replace hb33 := onRes_fin hb33
            replace hq561 : f559 1 = (Value.pointer (some ⟨b1, 0, none⟩)) ∧ f559 3 = (Value.int .i64 ((r_Table).length : Int)) ∧ f559 5 = u48 ∧ f559 25 = (Value.int .i64 (k27 : Int)) ∧ St wd11 wd560 [(Ty.sl Ty.f).at u48 x563] := hq561
            obtain ⟨hf564, hf565, hf566, hf567, hS568⟩ := hq561
            show W _ _ _ _ _ _
            refine W.region ?_
            refine WL.val u48 _ (op_move hf566) rfl ?_
            refine WL.val u48 _ (op_assign rfl) rfl ?_
            refine WL.nil ?_
            show W _ _ _ _ _ _
            refine W.region ?_
            refine WL.val (Value.int .i64 (w64 ((k27 : Int) + (1 : Int)))) _ (op_add hf567 rfl) rfl ?_
            refine WL.val (Value.int .i64 (w64 ((k27 : Int) + (1 : Int)))) _ (op_move rfl) rfl ?_
            refine WL.nil ?_
            obtain rfl := Option.some.inj hb33
            show ∃ s, _ = Ctl.next s ∧ _
            exact ⟨_, rfl, u48, hf564, hf565, rfl, (ctr_next hl44 (inL rfl)), (ctr_rng hl44 (inL rfl)), hS568⟩
    · intro x578 f573 wd574 hs575 hI576
      replace hI576 : ∃ (uu0 : Value), f573 1 = (Value.pointer (some ⟨b1, 0, none⟩)) ∧ f573 3 = (Value.int .i64 ((r_Table).length : Int)) ∧ f573 4 = uu0 ∧ f573 25 = Value.int .i64 ((((3000 : Int)).toNat : Nat) : Int) ∧ InR .i64 ((((3000 : Int)).toNat : Nat) : Int) ∧ St wd11 wd574 [(Ty.sl Ty.f).at uu0 x578] := hI576
      obtain ⟨u579, hf580, hf581, hf582, hf583, hr584, hS585⟩ := hI576
      refine W.seq (W.region ?_)
      refine WL.val (Value.bool (decide (((((3000 : Int)).toNat : Nat) : Int) < (3000 : Int)))) _ (op_lss hf583 rfl) rfl ?_
      have hl586 : ¬ ((((3000 : Int)).toNat : Nat) : Int) < (3000 : Int) := by omega
      refine WL.nil ?_
      refine W.seq ?_
      refine W.condF (decide (((((3000 : Int)).toNat : Nat) : Int) < (3000 : Int))) rfl (decide_eq_false hl586) ?_
      refine W.exit ?_
      show _ = _ ∧ _
      exact ⟨rfl, _, hs575, u579, hf582, hS585⟩
  · rintro f587 wd588 ⟨x591, rfl, hq589⟩
    replace h := onRes_fin h
    replace hq589 : ∃ (uu0 : Value), f587 4 = uu0 ∧ St wd11 wd588 [(Ty.sl Ty.f).at uu0 x591] := hq589
    obtain ⟨u592, hf593, hS594⟩ := hq589
    refine W.seq (W.region ?_)
    refine WL.lit0 (t := (Ty.i .i64)) hS594 sl_34 rfl rfl ?_
    intro u595 wd596 hS597 he598
    replace hS597 : St wd11 wd596 [(Ty.sl Ty.f).at u592 x591, (Ty.sl (Ty.i .i64)).at u595 ([] : (List Int))] := hS597
    refine WL.val u595 _ (op_assign rfl) rfl ?_
    refine WL.nil ?_
    refine W.seq (W.seq (W.region ?_))
    refine WL.val u592 _ (op_move hf593) rfl ?_
    have hr599 := inR_len (St.rep (t := (Ty.sl Ty.f)) hS597 0 rfl)
    refine WL.val (Value.int .i64 ((x591).length : Int)) _ (op_lenL sl_65 (St.rep (t := (Ty.sl Ty.f)) hS597 0 rfl) rfl) rfl ?_
    refine WL.val (Value.int .i64 (0 : Int)) _ (op_move rfl) rfl ?_
    refine WL.nil ?_
    show W _ _ _ _ _ _
    obtain ⟨res600, hres601, h⟩ := bs h
    refine W.blockLoop (fun fq wq => ∃ s, res600 = Res.fin s ∧ ∃ (uu0 : Value), fq 16 = uu0 ∧ St wd11 wq [(Ty.sl (Ty.i .i64)).at uu0 s]) ?_ ?_
    · refine W.forN (fun k (s : (List Int)) fq wq => ∃ (uu0 : Value), fq 4 = u592 ∧ fq 16 = uu0 ∧ fq 92 = u592 ∧ fq 93 = (Value.int .i64 ((x591).length : Int)) ∧ fq 94 = Value.int .i64 (k : Int) ∧ InR .i64 (k : Int) ∧ St wd11 wq [(Ty.sl Ty.f).at u592 x591, (Ty.sl (Ty.i .i64)).at uu0 s]) hres601 ⟨u595, hf593, rfl, rfl, rfl, rfl, (inL rfl), hS597⟩ ?_ ?_
      · intro k602 x603 ct604 f605 wd606 hk607 hb608 hI609 hbrk610 hret611
        replace hI609 : ∃ (uu0 : Value), f605 4 = u592 ∧ f605 16 = uu0 ∧ f605 92 = u592 ∧ f605 93 = (Value.int .i64 ((x591).length : Int)) ∧ f605 94 = Value.int .i64 (k602 : Int) ∧ InR .i64 (k602 : Int) ∧ St wd11 wd606 [(Ty.sl Ty.f).at u592 x591, (Ty.sl (Ty.i .i64)).at uu0 x603] := hI609
        replace hb608 : p_impl_Ring_nearDimensions_L7 x591 k602 x603 = some ct604 := hb608
        unfold p_impl_Ring_nearDimensions_L7 at hb608
        obtain ⟨u612, hf613, hf614, hf615, hf616, hf617, hr618, hS619⟩ := hI609
        refine W.seq (W.region ?_)
        refine WL.val (Value.bool (decide ((k602 : Int) < ((x591).length : Int)))) _ (op_lss hf617 hf616) rfl ?_
        have hl620 : (k602 : Int) < ((x591).length : Int) := by omega
        refine WL.nil ?_
        refine W.seq ?_
        refine W.condT (decide ((k602 : Int) < ((x591).length : Int))) rfl (decide_eq_true hl620) ?_
        refine W.skip ?_
        refine W.seq ?_
        refine W.block ?_
        refine W.seq (W.region ?_)
        obtain ⟨x622, hx625, hb608⟩ := bs hb608
        obtain ⟨ha623, hb624, hx625⟩ := idx_some hx625
        refine WL.val (Value.pointer (some (elA u592 ((k602 : Int)).toNat))) _ (op_idx sl_65 (St.rep (t := (Ty.sl Ty.f)) hS619 0 rfl) hf615 hf617 ha623 hb624) rfl ?_
        obtain ⟨u626, hc627, hr628⟩ := repSl.el (St.rep (t := (Ty.sl Ty.f)) hS619 0 rfl) hx625
        obtain ⟨rfl, hr628⟩ := hr628
        refine WL.val (FV x622) _ (op_load one_67 rfl hc627) rfl ?_
        refine WL.val (FV x622) _ (op_assign rfl) rfl ?_
        refine WL.nil ?_
        show W _ _ _ _ _ _
        refine W.region ?_
        refine WL.val u612 _ (op_move hf614) rfl ?_
        refine WL.val (FV x622) _ (op_move rfl) rfl ?_
        refine WL.val u592 _ (op_move hf613) rfl ?_
        obtain ⟨x629, hx632, hb608⟩ := bs hb608
        obtain ⟨ha630, hb631, hx632⟩ := idx_some hx632
        refine WL.val (Value.pointer (some (elA u592 ((0 : Int)).toNat))) _ (op_idx sl_65 (St.rep (t := (Ty.sl Ty.f)) hS619 0 rfl) rfl rfl ha630 hb631) rfl ?_
        obtain ⟨u633, hc634, hr635⟩ := repSl.el (St.rep (t := (Ty.sl Ty.f)) hS619 0 rfl) hx632
        obtain ⟨rfl, hr635⟩ := hr635
        refine WL.val (FV x629) _ (op_load one_67 rfl hc634) rfl ?_
        obtain ⟨x636, hz637, hb608⟩ := bs hb608
        refine WL.val (FV x636) _ (op_fquo rfl rfl hz637) rfl ?_
        obtain ⟨x639, hx640, hb608⟩ := bs hb608
        refine WL.call _ (op_call fn_57 (args1 rfl)) (c_math_Round (fQuo_in hz637) hx640) rfl ?_
        rintro _ wd642 ⟨rfl, hr641, he643⟩
        have hS645 := St.extend hS619 he643
        replace hS645 : St wd11 wd642 [(Ty.sl Ty.f).at u592 x591, (Ty.sl (Ty.i .i64)).at u612 x603] := hS645
        obtain ⟨x646, hz647, hb608⟩ := bs hb608
        refine WL.val (Value.int .i64 x646) _ (op_fto rfl ft_67 it_2 hz647) rfl ?_
        refine WL.litFlat (t := (Ty.i .i64)) (flat_i .i64) [(Value.int .i64 x646)] [x646] hS645 sl_34 rfl rfl (fillL rfl ⟨rfl, rfl, rfl, trivial⟩) rfl rfl (litL ⟨⟨rfl, (fTo_in hz647)⟩, trivial⟩) rfl ?_
        intro u648 wd649 hS650 he651
        replace hS650 : St wd11 wd649 [(Ty.sl Ty.f).at u592 x591, (Ty.sl (Ty.i .i64)).at u612 x603, (Ty.sl (Ty.i .i64)).at u648 ([x646] : (List Int))] := hS650
        obtain ⟨x652, hx653, hb608⟩ := bs hb608
        refine WL.append (flat_i .i64) hS650 (k := 1) rfl sl_34 rfl rfl rfl rfl (St.rep (t := (Ty.sl (Ty.i .i64))) hS650 2 rfl) hx653 rfl ?_
        intro u654 wd655 hS656 hz657
        replace hS656 : St wd11 wd655 [(Ty.sl Ty.f).at u592 x591, (Ty.sl (Ty.i .i64)).at u654 x652, (Ty.sl (Ty.i .i64)).at u648 ([x646] : (List Int))] := hS656
        refine WL.val u654 _ (op_assign rfl) rfl ?_
        refine WL.nil ?_
        show W _ _ _ _ _ _
        refine W.region ?_
        refine WL.val (Value.int .i64 (w64 ((k602 : Int) + (1 : Int)))) _ (op_add hf617 rfl) rfl ?_
        refine WL.val (Value.int .i64 (w64 ((k602 : Int) + (1 : Int)))) _ (op_move rfl) rfl ?_
        refine WL.nil ?_
        obtain rfl := Option.some.inj hb608
        show ∃ s, _ = Ctl.next s ∧ _
        exact ⟨_, rfl, u654, hf613, rfl, hf615, hf616, (ctr_next hl620 hr599), (ctr_rng hl620 hr599), (St.pick hS656 [0, 1] rfl)⟩
      · intro x664 f659 wd660 hs661 hI662
        replace hI662 : ∃ (uu0 : Value), f659 4 = u592 ∧ f659 16 = uu0 ∧ f659 92 = u592 ∧ f659 93 = (Value.int .i64 ((x591).length : Int)) ∧ f659 94 = Value.int .i64 (((x591).length : Nat) : Int) ∧ InR .i64 (((x591).length : Nat) : Int) ∧ St wd11 wd660 [(Ty.sl Ty.f).at u592 x591, (Ty.sl (Ty.i .i64)).at uu0 x664] := hI662
        obtain ⟨u665, hf666, hf667, hf668, hf669, hf670, hr671, hS672⟩ := hI662
        refine W.seq (W.region ?_)
        refine WL.val (Value.bool (decide ((((x591).length : Nat) : Int) < ((x591).length : Int)))) _ (op_lss hf670 hf669) rfl ?_
        have hl673 : ¬ (((x591).length : Nat) : Int) < ((x591).length : Int) := by omega
        refine WL.nil ?_
        refine W.seq ?_
        refine W.condF (decide ((((x591).length : Nat) : Int) < ((x591).length : Int))) rfl (decide_eq_false hl673) ?_
        refine W.exit ?_
        show _ = _ ∧ _
        exact ⟨rfl, _, hs661, u665, hf667, (St.pick hS672 [1] rfl)⟩
    · rintro f674 wd675 ⟨x678, rfl, hq676⟩
      replace h := onRes_fin h
      replace hq676 : ∃ (uu0 : Value), f674 16 = uu0 ∧ St wd11 wd675 [(Ty.sl (Ty.i .i64)).at uu0 x678] := hq676
      obtain ⟨u679, hf680, hS681⟩ := hq676
      refine W.seq (W.region ?_)
      refine WL.val u679 _ (op_move hf680) rfl ?_
      refine WL.val u679 _ (op_assign rfl) rfl ?_
      refine WL.nil ?_
      refine W.ret ?_
      rcases Bool.eq_false_or_eq_true (x678).isEmpty with hc682 | hc682
      · exact (none_some (ip h hc682)).elim
      replace h := inegb h hc682
      obtain rfl := Option.some.inj h
      show FinP _ _ _ _ _ _ _
      exact FinP.ret _ (res1 rfl rfl) ⟨u679, rfl, (nil_of_ne hc682), (Ext.trans hE15 hS681.ext), (St.out (St.pick hS681 [0] rfl) (hE15))⟩

theorem c_slices_Min_Lint64_int64 {w : World} {x : (List Int)} {v_x : Value} (r_x : (Ty.sl (Ty.i .i64)).rep w v_x x) {res : Int} (h : p_slices_Min_Lint64_int64 x  = some res) :
    Ret Try.prog 58 #[v_x] w (fun v w' => v = Value.int .i64 res ∧ InR .i64 res ∧ Ext w w') := by
  unfold p_slices_Min_Lint64_int64 at h
  have hS0 : St w w [] := St.start w
  refine Ret.start (fn := Try.f58) Try.func58 rfl 25 rfl rfl ?_
  refine W.seq (W.region ?_)
  refine WL.val (Value.int .i64 (0 : Int)) _ (op_assign rfl) rfl ?_
  refine WL.nil ?_
  refine W.seq (W.seq (W.region ?_))
  refine WL.val v_x _ (op_move rfl) rfl ?_
  have hr1 := inR_len (Ty.lift _ hS0.ext r_x)
  refine WL.val (Value.int .i64 ((x).length : Int)) _ (op_lenL sl_34 (Ty.lift _ hS0.ext r_x) rfl) rfl ?_
  refine WL.val (Value.bool (decide (((x).length : Int) < (1 : Int)))) _ (op_lss rfl rfl) rfl ?_
  refine WL.nil ?_
  show W _ _ _ _ _ _
  obtain ⟨⟨⟩, hj2, h⟩ := bs h
  refine W.cutCode (fun fq wq => fq 0 = v_x ∧ St w wq []) ?_ ?_
  · refine W.cond (decide (((x).length : Int) < (1 : Int))) rfl (fun hc3 => ?_) (fun hc3 => ?_)
    · replace hj2 := ip hj2 hc3
      refine W.region ?_
      exact (none_some hj2).elim
    · replace hj2 := inegb hj2 hc3
      refine W.skip ?_
      exact ⟨rfl, hS0⟩
  · intro f4 wd5 hq6
    obtain ⟨hf7, hS8⟩ := hq6
    refine W.seq (W.region ?_)
    refine WL.val v_x _ (op_move hf7) rfl ?_
    obtain ⟨x9, hx12, h⟩ := bs h
    obtain ⟨ha10, hb11, hx12⟩ := idx_some hx12
    refine WL.val (Value.pointer (some (elA v_x ((0 : Int)).toNat))) _ (op_idx sl_34 (Ty.lift _ hS8.ext r_x) rfl rfl ha10 hb11) rfl ?_
    obtain ⟨u13, hc14, hr15⟩ := repSl.el r_x hx12
    obtain ⟨rfl, hr15⟩ := hr15
    refine WL.val (Value.int .i64 x9) _ (op_load one_2 rfl (Ext.cell hS8.ext hc14)) rfl ?_
    refine WL.val (Value.int .i64 x9) _ (op_assign rfl) rfl ?_
    refine WL.nil ?_
    refine W.seq (W.seq (W.region ?_))
    refine WL.val (Value.int .i64 (1 : Int)) _ (op_assign rfl) rfl ?_
    refine WL.nil ?_
    show W _ _ _ _ _ _
    obtain ⟨res16, hres17, h⟩ := bs h
    refine W.blockLoop (fun fq wq => ∃ s, res16 = Res.fin s ∧ fq 3 = Value.int .i64 s ∧ InR .i64 s ∧ St w wq []) ?_ ?_
    · refine W.forN (fun k (s : Int) fq wq => fq 0 = v_x ∧ fq 3 = Value.int .i64 s ∧ InR .i64 s ∧ fq 4 = Value.int .i64 ((1 : Int) + (k : Int)) ∧ InR .i64 ((1 : Int) + (k : Int)) ∧ St w wq []) hres17 ⟨hf7, rfl, hr15, rfl, (inL rfl), hS8⟩ ?_ ?_
      · intro k18 x19 ct20 f21 wd22 hk23 hb24 hI25 hbrk26 hret27
        replace hI25 : f21 0 = v_x ∧ f21 3 = Value.int .i64 x19 ∧ InR .i64 x19 ∧ f21 4 = Value.int .i64 ((1 : Int) + (k18 : Int)) ∧ InR .i64 ((1 : Int) + (k18 : Int)) ∧ St w wd22 [] := hI25
        replace hb24 : p_slices_Min_Lint64_int64_L1 x k18 x19 = some ct20 := hb24
        unfold p_slices_Min_Lint64_int64_L1 at hb24
        obtain ⟨hf28, hf29, hr30, hf31, hr32, hS33⟩ := hI25
        refine W.seq (W.seq (W.region ?_))
        refine WL.val (Value.int .i64 ((1 : Int) + (k18 : Int))) _ (op_move hf31) rfl ?_
        refine WL.val v_x _ (op_move hf28) rfl ?_
        have hr34 := inR_len (Ty.lift _ hS33.ext r_x)
        refine WL.val (Value.int .i64 ((x).length : Int)) _ (op_lenL sl_34 (Ty.lift _ hS33.ext r_x) rfl) rfl ?_
        refine WL.val (Value.bool (decide (((1 : Int) + (k18 : Int)) < ((x).length : Int)))) _ (op_lss rfl rfl) rfl ?_
        have hl35 : ((1 : Int) + (k18 : Int)) < ((x).length : Int) := by omega
        refine WL.nil ?_
        refine W.condT (decide (((1 : Int) + (k18 : Int)) < ((x).length : Int))) rfl (decide_eq_true hl35) ?_
        refine W.skip ?_
        refine W.seq ?_
        refine W.block ?_
        refine W.region ?_
        refine WL.val (Value.int .i64 x19) _ (op_move hf29) rfl ?_
        refine WL.val v_x _ (op_move hf28) rfl ?_
        refine WL.val (Value.int .i64 ((1 : Int) + (k18 : Int))) _ (op_move hf31) rfl ?_
        obtain ⟨x37, hx40, hb24⟩ := bs hb24
        obtain ⟨ha38, hb39, hx40⟩ := idx_some hx40
        refine WL.val (Value.pointer (some (elA v_x (((1 : Int) + (k18 : Int))).toNat))) _ (op_idx sl_34 (Ty.lift _ hS33.ext r_x) rfl rfl ha38 hb39) rfl ?_
        obtain ⟨u41, hc42, hr43⟩ := repSl.el r_x hx40
        obtain ⟨rfl, hr43⟩ := hr43
        refine WL.val (Value.int .i64 x37) _ (op_load one_2 rfl (Ext.cell hS33.ext hc42)) rfl ?_
        refine WL.val (Value.int .i64 (if x37 < x19 then x37 else x19)) _ (op_min2 rfl rfl) rfl ?_
        refine WL.val (Value.int .i64 (if x37 < x19 then x37 else x19)) _ (op_assign rfl) rfl ?_
        refine WL.nil ?_
        show W _ _ _ _ _ _
        refine W.region ?_
        refine WL.val (Value.int .i64 ((1 : Int) + (k18 : Int))) _ (op_move hf31) rfl ?_
        refine WL.val (Value.int .i64 (w64 (((1 : Int) + (k18 : Int)) + (1 : Int)))) _ (op_add rfl rfl) rfl ?_
        refine WL.val (Value.int .i64 (w64 (((1 : Int) + (k18 : Int)) + (1 : Int)))) _ (op_assign rfl) rfl ?_
        refine WL.nil ?_
        obtain rfl := Option.some.inj hb24
        show ∃ s, _ = Ctl.next s ∧ _
        exact ⟨_, rfl, hf28, rfl, (inR_ite hr43 hr30), (ctrS_next hl35 hr34 (inL rfl)), (ctrS_rng hl35 hr34 (inL rfl)), hS33⟩
      · intro x50 f45 wd46 hs47 hI48
        replace hI48 : f45 0 = v_x ∧ f45 3 = Value.int .i64 x50 ∧ InR .i64 x50 ∧ f45 4 = Value.int .i64 ((1 : Int) + (((((x).length : Int) - (1 : Int)).toNat : Nat) : Int)) ∧ InR .i64 ((1 : Int) + (((((x).length : Int) - (1 : Int)).toNat : Nat) : Int)) ∧ St w wd46 [] := hI48
        obtain ⟨hf51, hf52, hr53, hf54, hr55, hS56⟩ := hI48
        refine W.seq (W.seq (W.region ?_))
        refine WL.val (Value.int .i64 ((1 : Int) + (((((x).length : Int) - (1 : Int)).toNat : Nat) : Int))) _ (op_move hf54) rfl ?_
        refine WL.val v_x _ (op_move hf51) rfl ?_
        have hr57 := inR_len (Ty.lift _ hS56.ext r_x)
        refine WL.val (Value.int .i64 ((x).length : Int)) _ (op_lenL sl_34 (Ty.lift _ hS56.ext r_x) rfl) rfl ?_
        refine WL.val (Value.bool (decide (((1 : Int) + (((((x).length : Int) - (1 : Int)).toNat : Nat) : Int)) < ((x).length : Int)))) _ (op_lss rfl rfl) rfl ?_
        have hl58 : ¬ ((1 : Int) + (((((x).length : Int) - (1 : Int)).toNat : Nat) : Int)) < ((x).length : Int) := by omega
        refine WL.nil ?_
        refine W.condF (decide (((1 : Int) + (((((x).length : Int) - (1 : Int)).toNat : Nat) : Int)) < ((x).length : Int))) rfl (decide_eq_false hl58) ?_
        refine W.exit ?_
        show _ = _ ∧ _
        exact ⟨rfl, _, hs47, hf52, hr53, hS56⟩
    · rintro f59 wd60 ⟨x63, rfl, hq61⟩
      replace h := onRes_fin h
      replace hq61 : f59 3 = Value.int .i64 x63 ∧ InR .i64 x63 ∧ St w wd60 [] := hq61
      obtain ⟨hf64, hr65, hS66⟩ := hq61
      refine W.seq (W.region ?_)
      refine WL.val (Value.int .i64 x63) _ (op_move hf64) rfl ?_
      refine WL.val (Value.int .i64 x63) _ (op_assign rfl) rfl ?_
      refine WL.nil ?_
      refine W.ret ?_
      obtain rfl := Option.some.inj h
      show FinP _ _ _ _ _ _ _
      exact FinP.ret _ (res1 rfl rfl) ⟨rfl, hr65, hS66.ext⟩

theorem c_impl_Ring_isDimension {w : World} {r_Table : (List (List (List Int)))} {v_r_Table : Value} {d : (List Int)} {v_d : Value} (r_r_Table : (Ty.sl (Ty.sl (Ty.sl (Ty.i .i64)))).rep w v_r_Table r_Table) (r_d : (Ty.sl (Ty.i .i64)).rep w v_d d) {res : Bool} (h : p_impl_Ring_isDimension r_Table d  = some res) :
    Ret Try.prog 43 #[(Value.agg #[v_r_Table]), v_d] w (fun v w' => v = Value.bool res ∧ Ext w w') := by
  unfold p_impl_Ring_isDimension at h
  have hS0 : St w w [] := St.start w
  refine Ret.start (fn := Try.f43) Try.func43 rfl 59 rfl rfl ?_
  refine W.seq (W.region ?_)
  refine WL.box hS0 rfl (cs := [v_r_Table]) rfl rfl ?_
  intro b1 wd2 hS3 he4 hx5
  replace hS3 : St w wd2 [bx b1 [v_r_Table]] := hS3
  have hx6 := St.boxAt hS3 0 rfl
  have hE7 : Ext w wd2 := hS3.ext
  have hS8 : St wd2 wd2 [] := St.start wd2
  refine WL.val (Value.bool false) _ (op_assign rfl) rfl ?_
  refine WL.nil ?_
  refine W.seq (W.seq (W.region ?_))
  refine WL.val (Value.pointer (some ⟨b1, 0, none⟩)) _ (op_fieldAddr fd_28_0 rfl) rfl ?_
  refine WL.val v_r_Table _ (op_load one_22 rfl (BoxAt.cell (BoxAt.lift hS8.ext hx6) rfl)) rfl ?_
  have hr9 := inR_len (Ty.lift _ (Ext.trans hE7 hS8.ext) r_r_Table)
  refine WL.val (Value.int .i64 ((r_Table).length : Int)) _ (op_lenL sl_22 (Ty.lift _ (Ext.trans hE7 hS8.ext) r_r_Table) rfl) rfl ?_
  refine WL.val (Value.int .i64 (0 : Int)) _ (op_move rfl) rfl ?_
  refine WL.nil ?_
  show W _ _ _ _ _ _
  obtain ⟨res10, hres11, h⟩ := bs h
  refine W.blockLoop (fun fq wq => ∃ s, res10 = Res.fin s ∧ fq 1 = v_d ∧ St wd2 wq []) ?_ ?_
  · refine W.forN (fun k (s : Unit) fq wq => fq 1 = v_d ∧ fq 13 = v_r_Table ∧ fq 14 = (Value.int .i64 ((r_Table).length : Int)) ∧ fq 15 = Value.int .i64 (k : Int) ∧ InR .i64 (k : Int) ∧ St wd2 wq []) hres11 ⟨rfl, rfl, rfl, rfl, (inL rfl), hS8⟩ ?_ ?_
    · intro k12 s319 ct13 f14 wd15 hk16 hb17 hI18 hbrk19 hret20
      obtain ⟨⟩ := s319
      replace hI18 : f14 1 = v_d ∧ f14 13 = v_r_Table ∧ f14 14 = (Value.int .i64 ((r_Table).length : Int)) ∧ f14 15 = Value.int .i64 (k12 : Int) ∧ InR .i64 (k12 : Int) ∧ St wd2 wd15 [] := hI18
      replace hb17 : p_impl_Ring_isDimension_L1 r_Table d k12  = some ct13 := hb17
      unfold p_impl_Ring_isDimension_L1 at hb17
      obtain ⟨hf21, hf22, hf23, hf24, hr25, hS26⟩ := hI18
      refine W.seq (W.region ?_)
      refine WL.val (Value.bool (decide ((k12 : Int) < ((r_Table).length : Int)))) _ (op_lss hf24 hf23) rfl ?_
      have hl27 : (k12 : Int) < ((r_Table).length : Int) := by omega
      refine WL.nil ?_
      refine W.seq ?_
      refine W.condT (decide ((k12 : Int) < ((r_Table).length : Int))) rfl (decide_eq_true hl27) ?_
      refine W.skip ?_
      refine W.seq ?_
      refine W.block ?_
      refine W.seq (W.region ?_)
      refine WL.val (Value.int .i64 (k12 : Int)) _ (op_move hf24) rfl ?_
      obtain ⟨x29, hx32, hb17⟩ := bs hb17
      obtain ⟨ha30, hb31, hx32⟩ := idx_some hx32
      refine WL.val (Value.pointer (some (elA v_r_Table ((k12 : Int)).toNat))) _ (op_idx sl_22 (Ty.lift _ (Ext.trans hE7 hS26.ext) r_r_Table) hf22 hf24 ha30 hb31) rfl ?_
      obtain ⟨u33, hc34, hr35⟩ := repSl.el r_r_Table hx32
      refine WL.val u33 _ (op_load one_54 rfl (Ext.cell (Ext.trans hE7 hS26.ext) hc34)) rfl ?_
      refine WL.val (Value.int .i64 (k12 : Int)) _ (op_assign rfl) rfl ?_
      refine WL.val u33 _ (op_assign rfl) rfl ?_
      refine WL.nil ?_
      refine W.seq (W.region ?_)
      refine WL.val u33 _ (op_move rfl) rfl ?_
      have hr36 := inR_len (Ty.lift _ (Ext.trans hE7 hS26.ext) hr35)
      refine WL.val (Value.int .i64 ((x29).length : Int)) _ (op_lenL sl_54 (Ty.lift _ (Ext.trans hE7 hS26.ext) hr35) rfl) rfl ?_
      refine WL.val (Value.int .i64 (0 : Int)) _ (op_move rfl) rfl ?_
      refine WL.nil ?_
      show W _ _ _ _ _ _
      obtain ⟨res37, hres38, hb17⟩ := bs hb17
      refine W.blockLoop (fun fq wq => ∃ s, res37 = Res.fin s ∧ fq 1 = v_d ∧ fq 13 = v_r_Table ∧ fq 14 = (Value.int .i64 ((r_Table).length : Int)) ∧ fq 15 = (Value.int .i64 (k12 : Int)) ∧ St wd2 wq []) ?_ ?_
      · refine W.forN (fun k (s : Unit) fq wq => fq 1 = v_d ∧ fq 5 = (Value.int .i64 (k12 : Int)) ∧ fq 13 = v_r_Table ∧ fq 14 = (Value.int .i64 ((r_Table).length : Int)) ∧ fq 15 = (Value.int .i64 (k12 : Int)) ∧ fq 20 = u33 ∧ fq 21 = (Value.int .i64 ((x29).length : Int)) ∧ fq 22 = Value.int .i64 (k : Int) ∧ InR .i64 (k : Int) ∧ St wd2 wq []) hres38 ⟨hf21, rfl, hf22, hf23, hf24, rfl, rfl, rfl, (inL rfl), hS26⟩ ?_ ?_
        · intro k39 s292 ct40 f41 wd42 hk43 hb44 hI45 hbrk46 hret47
          obtain ⟨⟩ := s292
          replace hI45 : f41 1 = v_d ∧ f41 5 = (Value.int .i64 (k12 : Int)) ∧ f41 13 = v_r_Table ∧ f41 14 = (Value.int .i64 ((r_Table).length : Int)) ∧ f41 15 = (Value.int .i64 (k12 : Int)) ∧ f41 20 = u33 ∧ f41 21 = (Value.int .i64 ((x29).length : Int)) ∧ f41 22 = Value.int .i64 (k39 : Int) ∧ InR .i64 (k39 : Int) ∧ St wd2 wd42 [] := hI45
          replace hb44 : p_impl_Ring_isDimension_L2 x29 d k12 k39  = some ct40 := hb44
          unfold p_impl_Ring_isDimension_L2 at hb44
          obtain ⟨hf48, hf49, hf50, hf51, hf52, hf53, hf54, hf55, hr56, hS57⟩ := hI45
          refine W.seq (W.region ?_)
          refine WL.val (Value.bool (decide ((k39 : Int) < ((x29).length : Int)))) _ (op_lss hf55 hf54) rfl ?_
          have hl58 : (k39 : Int) < ((x29).length : Int) := by omega
          refine WL.nil ?_
          refine W.seq ?_
          refine W.condT (decide ((k39 : Int) < ((x29).length : Int))) rfl (decide_eq_true hl58) ?_
          refine W.skip ?_
          refine W.seq ?_
          refine W.block ?_
          refine W.seq (W.region ?_)
          refine WL.val (Value.int .i64 (k39 : Int)) _ (op_move hf55) rfl ?_
          obtain ⟨x60, hx63, hb44⟩ := bs hb44
          obtain ⟨ha61, hb62, hx63⟩ := idx_some hx63
          refine WL.val (Value.pointer (some (elA u33 ((k39 : Int)).toNat))) _ (op_idx sl_54 (Ty.lift _ (Ext.trans hE7 hS57.ext) hr35) hf53 hf55 ha61 hb62) rfl ?_
          obtain ⟨u64, hc65, hr66⟩ := repSl.el hr35 hx63
          refine WL.val u64 _ (op_load one_34 rfl (Ext.cell (Ext.trans hE7 hS57.ext) hc65)) rfl ?_
          refine WL.val (Value.int .i64 (k39 : Int)) _ (op_assign rfl) rfl ?_
          refine WL.val u64 _ (op_assign rfl) rfl ?_
          refine WL.nil ?_
          refine W.seq (W.region ?_)
          refine WL.val (Value.int .i64 (0 : Int)) _ (op_assign rfl) rfl ?_
          refine WL.nil ?_
          refine W.seq (W.seq (W.region ?_))
          refine WL.val u64 _ (op_move rfl) rfl ?_
          have hr67 := inR_len (Ty.lift _ (Ext.trans hE7 hS57.ext) hr66)
          refine WL.val (Value.int .i64 ((x60).length : Int)) _ (op_lenL sl_34 (Ty.lift _ (Ext.trans hE7 hS57.ext) hr66) rfl) rfl ?_
          refine WL.val (Value.int .i64 (0 : Int)) _ (op_move rfl) rfl ?_
          refine WL.nil ?_
          show W _ _ _ _ _ _
          obtain ⟨res68, hres69, hb44⟩ := bs hb44
          refine W.blockLoop (fun fq wq => ∃ s, res68 = Res.fin s ∧ fq 1 = v_d ∧ fq 5 = (Value.int .i64 (k12 : Int)) ∧ fq 7 = (Value.int .i64 (k39 : Int)) ∧ fq 9 = Value.int .i64 s ∧ InR .i64 s ∧ fq 13 = v_r_Table ∧ fq 14 = (Value.int .i64 ((r_Table).length : Int)) ∧ fq 15 = (Value.int .i64 (k12 : Int)) ∧ fq 20 = u33 ∧ fq 21 = (Value.int .i64 ((x29).length : Int)) ∧ fq 22 = (Value.int .i64 (k39 : Int)) ∧ St wd2 wq []) ?_ ?_
          · refine W.forN (fun k (s : Int) fq wq => fq 1 = v_d ∧ fq 5 = (Value.int .i64 (k12 : Int)) ∧ fq 7 = (Value.int .i64 (k39 : Int)) ∧ fq 9 = Value.int .i64 s ∧ InR .i64 s ∧ fq 13 = v_r_Table ∧ fq 14 = (Value.int .i64 ((r_Table).length : Int)) ∧ fq 15 = (Value.int .i64 (k12 : Int)) ∧ fq 20 = u33 ∧ fq 21 = (Value.int .i64 ((x29).length : Int)) ∧ fq 22 = (Value.int .i64 (k39 : Int)) ∧ fq 27 = u64 ∧ fq 28 = (Value.int .i64 ((x60).length : Int)) ∧ fq 29 = Value.int .i64 (k : Int) ∧ InR .i64 (k : Int) ∧ St wd2 wq []) hres69 ⟨hf48, hf49, rfl, rfl, (inL rfl), hf50, hf51, hf52, hf53, hf54, hf55, rfl, rfl, rfl, (inL rfl), hS57⟩ ?_ ?_
            · intro k70 x71 ct72 f73 wd74 hk75 hb76 hI77 hbrk78 hret79
              replace hI77 : f73 1 = v_d ∧ f73 5 = (Value.int .i64 (k12 : Int)) ∧ f73 7 = (Value.int .i64 (k39 : Int)) ∧ f73 9 = Value.int .i64 x71 ∧ InR .i64 x71 ∧ f73 13 = v_r_Table ∧ f73 14 = (Value.int .i64 ((r_Table).length : Int)) ∧ f73 15 = (Value.int .i64 (k12 : Int)) ∧ f73 20 = u33 ∧ f73 21 = (Value.int .i64 ((x29).length : Int)) ∧ f73 22 = (Value.int .i64 (k39 : Int)) ∧ f73 27 = u64 ∧ f73 28 = (Value.int .i64 ((x60).length : Int)) ∧ f73 29 = Value.int .i64 (k70 : Int) ∧ InR .i64 (k70 : Int) ∧ St wd2 wd74 [] := hI77
              replace hb76 : p_impl_Ring_isDimension_L3 x60 d k70 x71 = some ct72 := hb76
              unfold p_impl_Ring_isDimension_L3 at hb76
              obtain ⟨hf80, hf81, hf82, hf83, hr84, hf85, hf86, hf87, hf88, hf89, hf90, hf91, hf92, hf93, hr94, hS95⟩ := hI77
              refine W.seq (W.region ?_)
              refine WL.val (Value.bool (decide ((k70 : Int) < ((x60).length : Int)))) _ (op_lss hf93 hf92) rfl ?_
              have hl96 : (k70 : Int) < ((x60).length : Int) := by omega
              refine WL.nil ?_
              refine W.seq ?_
              refine W.condT (decide ((k70 : Int) < ((x60).length : Int))) rfl (decide_eq_true hl96) ?_
              refine W.skip ?_
              refine W.seq ?_
              refine W.block ?_
              refine W.seq (W.region ?_)
              refine WL.val (Value.int .i64 (k70 : Int)) _ (op_move hf93) rfl ?_
              obtain ⟨x98, hx101, hb76⟩ := bs hb76
              obtain ⟨ha99, hb100, hx101⟩ := idx_some hx101
              refine WL.val (Value.pointer (some (elA u64 ((k70 : Int)).toNat))) _ (op_idx sl_34 (Ty.lift _ (Ext.trans hE7 hS95.ext) hr66) hf91 hf93 ha99 hb100) rfl ?_
              obtain ⟨u102, hc103, hr104⟩ := repSl.el hr66 hx101
              obtain ⟨rfl, hr104⟩ := hr104
              refine WL.val (Value.int .i64 x98) _ (op_load one_2 rfl (Ext.cell (Ext.trans hE7 hS95.ext) hc103)) rfl ?_
              refine WL.val (Value.int .i64 (k70 : Int)) _ (op_assign rfl) rfl ?_
              refine WL.val (Value.int .i64 x98) _ (op_assign rfl) rfl ?_
              refine WL.nil ?_
              show W _ _ _ _ _ _
              refine W.region ?_
              refine WL.val (Value.int .i64 x71) _ (op_move hf83) rfl ?_
              refine WL.val (Value.int .i64 x98) _ (op_move rfl) rfl ?_
              refine WL.val v_d _ (op_move hf80) rfl ?_
              refine WL.val (Value.int .i64 (k70 : Int)) _ (op_move rfl) rfl ?_
              obtain ⟨x105, hx108, hb76⟩ := bs hb76
              obtain ⟨ha106, hb107, hx108⟩ := idx_some hx108
              refine WL.val (Value.pointer (some (elA v_d ((k70 : Int)).toNat))) _ (op_idx sl_34 (Ty.lift _ (Ext.trans hE7 hS95.ext) r_d) rfl rfl ha106 hb107) rfl ?_
              obtain ⟨u109, hc110, hr111⟩ := repSl.el r_d hx108
              obtain ⟨rfl, hr111⟩ := hr111
              refine WL.val (Value.int .i64 x105) _ (op_load one_2 rfl (Ext.cell (Ext.trans hE7 hS95.ext) hc110)) rfl ?_
              refine WL.val (Value.int .i64 (w64 (x98 * x105))) _ (op_mul rfl rfl) rfl ?_
              refine WL.val (Value.int .i64 (w64 (x71 + (w64 (x98 * x105))))) _ (op_add rfl rfl) rfl ?_
              refine WL.val (Value.int .i64 (w64 (x71 + (w64 (x98 * x105))))) _ (op_assign rfl) rfl ?_
              refine WL.nil ?_
              show W _ _ _ _ _ _
              refine W.region ?_
              refine WL.val (Value.int .i64 (w64 ((k70 : Int) + (1 : Int)))) _ (op_add hf93 rfl) rfl ?_
              refine WL.val (Value.int .i64 (w64 ((k70 : Int) + (1 : Int)))) _ (op_move rfl) rfl ?_
              refine WL.nil ?_
              obtain rfl := Option.some.inj hb76
              show ∃ s, _ = Ctl.next s ∧ _
              exact ⟨_, rfl, hf80, hf81, hf82, rfl, (inR_wrap _ _), hf85, hf86, hf87, hf88, hf89, hf90, hf91, hf92, (ctr_next hl96 hr67), (ctr_rng hl96 hr67), hS95⟩
            · intro x118 f113 wd114 hs115 hI116
              replace hI116 : f113 1 = v_d ∧ f113 5 = (Value.int .i64 (k12 : Int)) ∧ f113 7 = (Value.int .i64 (k39 : Int)) ∧ f113 9 = Value.int .i64 x118 ∧ InR .i64 x118 ∧ f113 13 = v_r_Table ∧ f113 14 = (Value.int .i64 ((r_Table).length : Int)) ∧ f113 15 = (Value.int .i64 (k12 : Int)) ∧ f113 20 = u33 ∧ f113 21 = (Value.int .i64 ((x29).length : Int)) ∧ f113 22 = (Value.int .i64 (k39 : Int)) ∧ f113 27 = u64 ∧ f113 28 = (Value.int .i64 ((x60).length : Int)) ∧ f113 29 = Value.int .i64 (((x60).length : Nat) : Int) ∧ InR .i64 (((x60).length : Nat) : Int) ∧ St wd2 wd114 [] := hI116
              obtain ⟨hf119, hf120, hf121, hf122, hr123, hf124, hf125, hf126, hf127, hf128, hf129, hf130, hf131, hf132, hr133, hS134⟩ := hI116
              refine W.seq (W.region ?_)
              refine WL.val (Value.bool (decide ((((x60).length : Nat) : Int) < ((x60).length : Int)))) _ (op_lss hf132 hf131) rfl ?_
              have hl135 : ¬ (((x60).length : Nat) : Int) < ((x60).length : Int) := by omega
              refine WL.nil ?_
              refine W.seq ?_
              refine W.condF (decide ((((x60).length : Nat) : Int) < ((x60).length : Int))) rfl (decide_eq_false hl135) ?_
              refine W.exit ?_
              show _ = _ ∧ _
              exact ⟨rfl, _, hs115, hf119, hf120, hf121, hf122, hr123, hf124, hf125, hf126, hf127, hf128, hf129, hS134⟩
          · rintro f136 wd137 ⟨x140, rfl, hq138⟩
            replace hb44 := onRes_fin hb44
            replace hq138 : f136 1 = v_d ∧ f136 5 = (Value.int .i64 (k12 : Int)) ∧ f136 7 = (Value.int .i64 (k39 : Int)) ∧ f136 9 = Value.int .i64 x140 ∧ InR .i64 x140 ∧ f136 13 = v_r_Table ∧ f136 14 = (Value.int .i64 ((r_Table).length : Int)) ∧ f136 15 = (Value.int .i64 (k12 : Int)) ∧ f136 20 = u33 ∧ f136 21 = (Value.int .i64 ((x29).length : Int)) ∧ f136 22 = (Value.int .i64 (k39 : Int)) ∧ St wd2 wd137 [] := hq138
            obtain ⟨hf141, hf142, hf143, hf144, hr145, hf146, hf147, hf148, hf149, hf150, hf151, hS152⟩ := hq138
            refine W.seq ?_
            obtain ⟨x189, hx192, hb44⟩ := bs hb44
            obtain ⟨ha190, hb191, hx192⟩ := idx_some hx192
            obtain ⟨u203, hc204, hr205⟩ := repSl.el r_d hx192
            obtain ⟨rfl, hr205⟩ := hr205
            obtain ⟨x235, hx238, hb44⟩ := bs hb44
            obtain ⟨ha236, hb237, hx238⟩ := idx_some hx238
            obtain ⟨u249, hc250, hr251⟩ := repSl.el r_d hx238
            obtain ⟨rfl, hr251⟩ := hr251
            refine W.drawR mixo 10 [] [fun _ v _ _ => v = (Value.int .i64 x140) ∧ InR .i64 x140, fun _ v _ _ => v = v_d, fun _ v _ _ => v = (Value.int .i64 (k12 : Int)) ∧ InR .i64 (k12 : Int), fun _ v _ _ => v = (Value.pointer (some (elA v_d ((k12 : Int)).toNat))), fun _ v _ _ => v = (Value.int .i64 x189) ∧ InR .i64 x189, fun _ v _ _ => v = v_d, fun _ v _ _ => v = (Value.int .i64 (k39 : Int)) ∧ InR .i64 (k39 : Int), fun _ v _ _ => v = (Value.pointer (some (elA v_d ((k39 : Int)).toNat))), fun _ v _ _ => v = (Value.int .i64 x235) ∧ InR .i64 x235, fun _ v _ _ => v = (Value.int .i64 (w64 (x189 * x235))) ∧ InR .i64 (w64 (x189 * x235))] (by kernel_rfl) (by kernel_rfl) ⟨pk, pk, pk, pk, pk, pk, pk, pk, pk, pk, trivial⟩ ⟨?_, ?_, ?_, ?_, ?_, ?_, ?_, ?_, ?_, ?_, trivial⟩ ?_
            · refine ObX.op rfl fun f153 wd154 he155 hout156 hphi157 => ?_
              have e159 : f153 9 = (Value.int .i64 x140) := (hout156 9 rfl).trans hf144
              exact OpX.val (Value.int .i64 x140) wd154 rfl (op_move e159) (Ext.refl _) ⟨rfl, hr145⟩
            · refine ObX.op rfl fun f160 wd161 he162 hout163 hphi164 => ?_
              have e166 : f160 1 = v_d := (hout163 1 rfl).trans hf141
              exact OpX.val v_d wd161 rfl (op_move e166) (Ext.refl _) rfl
            · refine ObX.op rfl fun f167 wd168 he169 hout170 hphi171 => ?_
              have e173 : f167 5 = (Value.int .i64 (k12 : Int)) := (hout170 5 rfl).trans hf142
              exact OpX.val (Value.int .i64 (k12 : Int)) wd168 rfl (op_move e173) (Ext.refl _) ⟨rfl, hr25⟩
            · refine ObX.op rfl fun f174 wd175 he176 hout177 hphi178 => ?_
              have hS179 := St.extend hS152 he176
              obtain ⟨S180, hS181, hf182⟩ := hphi178 1 44 _ rfl rfl rfl
              have e183 : f174 44 = v_d := hf182
              obtain ⟨S184, hS185, hf186⟩ := hphi178 2 45 _ rfl rfl rfl
              obtain ⟨e187, hr188⟩ := hf186
              exact OpX.val (Value.pointer (some (elA v_d ((k12 : Int)).toNat))) wd175 rfl (op_idx sl_34 (Ty.lift _ (Ext.trans hE7 hS179.ext) r_d) e183 e187 ha190 hb191) (Ext.refl _) rfl
            · refine ObX.op rfl fun f193 wd194 he195 hout196 hphi197 => ?_
              have hS198 := St.extend hS152 he195
              obtain ⟨S199, hS200, hf201⟩ := hphi197 3 46 _ rfl rfl rfl
              have e202 : f193 46 = (Value.pointer (some (elA v_d ((k12 : Int)).toNat))) := hf201
              exact OpX.val (Value.int .i64 x189) wd194 rfl (op_load one_2 e202 (Ext.cell (Ext.trans hE7 hS198.ext) hc204)) (Ext.refl _) ⟨rfl, hr205⟩
            · refine ObX.op rfl fun f206 wd207 he208 hout209 hphi210 => ?_
              have e212 : f206 1 = v_d := (hout209 1 rfl).trans hf141
              exact OpX.val v_d wd207 rfl (op_move e212) (Ext.refl _) rfl
            · refine ObX.op rfl fun f213 wd214 he215 hout216 hphi217 => ?_
              have e219 : f213 7 = (Value.int .i64 (k39 : Int)) := (hout216 7 rfl).trans hf143
              exact OpX.val (Value.int .i64 (k39 : Int)) wd214 rfl (op_move e219) (Ext.refl _) ⟨rfl, hr56⟩
            · refine ObX.op rfl fun f220 wd221 he222 hout223 hphi224 => ?_
              have hS225 := St.extend hS152 he222
              obtain ⟨S226, hS227, hf228⟩ := hphi224 5 48 _ rfl rfl rfl
              have e229 : f220 48 = v_d := hf228
              obtain ⟨S230, hS231, hf232⟩ := hphi224 6 49 _ rfl rfl rfl
              obtain ⟨e233, hr234⟩ := hf232
              exact OpX.val (Value.pointer (some (elA v_d ((k39 : Int)).toNat))) wd221 rfl (op_idx sl_34 (Ty.lift _ (Ext.trans hE7 hS225.ext) r_d) e229 e233 ha236 hb237) (Ext.refl _) rfl
            · refine ObX.op rfl fun f239 wd240 he241 hout242 hphi243 => ?_
              have hS244 := St.extend hS152 he241
              obtain ⟨S245, hS246, hf247⟩ := hphi243 7 50 _ rfl rfl rfl
              have e248 : f239 50 = (Value.pointer (some (elA v_d ((k39 : Int)).toNat))) := hf247
              exact OpX.val (Value.int .i64 x235) wd240 rfl (op_load one_2 e248 (Ext.cell (Ext.trans hE7 hS244.ext) hc250)) (Ext.refl _) ⟨rfl, hr251⟩
            · refine ObX.op rfl fun f252 wd253 he254 hout255 hphi256 => ?_
              obtain ⟨S258, hS259, hf260⟩ := hphi256 4 47 _ rfl rfl rfl
              obtain ⟨e261, hr262⟩ := hf260
              obtain ⟨S263, hS264, hf265⟩ := hphi256 8 51 _ rfl rfl rfl
              obtain ⟨e266, hr267⟩ := hf265
              exact OpX.val (Value.int .i64 (w64 (x189 * x235))) wd253 rfl (op_mul e261 e266) (Ext.refl _) ⟨rfl, (inR_wrap _ _)⟩
            · intro f268 wd269 Ss270 he271 hout272 hSn273 hSd274 hphi275
              show WL _ _ _ _ _ _ _
              have hS276 := St.extend hS152 he271
              obtain ⟨e277, hr278⟩ := hphi275 0 43 _ (by decide) rfl rfl
              obtain ⟨e279, hr280⟩ := hphi275 9 52 _ (by decide) rfl rfl
              have e281 : f268 1 = v_d := (hout272 1 rfl).trans hf141
              have e282 : f268 5 = (Value.int .i64 (k12 : Int)) := (hout272 5 rfl).trans hf142
              have e283 : f268 13 = v_r_Table := (hout272 13 rfl).trans hf146
              have e284 : f268 14 = (Value.int .i64 ((r_Table).length : Int)) := (hout272 14 rfl).trans hf147
              have e285 : f268 15 = (Value.int .i64 (k12 : Int)) := (hout272 15 rfl).trans hf148
              have e286 : f268 20 = u33 := (hout272 20 rfl).trans hf149
              have e287 : f268 21 = (Value.int .i64 ((x29).length : Int)) := (hout272 21 rfl).trans hf150
              have e288 : f268 22 = (Value.int .i64 (k39 : Int)) := (hout272 22 rfl).trans hf151
              refine WL.val (Value.bool (x140 != (w64 (x189 * x235)))) _ (op_neq e277 e279) rfl ?_
              refine WL.nil ?_
              refine W.cond (x140 != (w64 (x189 * x235))) rfl (fun hc289 => ?_) (fun hc289 => ?_)
              · replace hb44 := ip hb44 hc289
                refine W.seq (W.region ?_)
                refine WL.val (Value.bool false) _ (op_assign rfl) rfl ?_
                refine WL.nil ?_
                refine W.ret ?_
                obtain rfl := Option.some.inj hb44
                obtain rfl := hret47 _ rfl
                replace hb17 := onRes_ret hb17
                obtain rfl := Option.some.inj hb17
                obtain rfl := hret20 _ rfl
                replace h := onRes_ret h
                obtain rfl := Option.some.inj h
                show FinP _ _ _ _ _ _ _
                exact FinP.ret _ (res1 rfl rfl) ⟨rfl, (Ext.trans hE7 hS276.ext)⟩
              · replace hb44 := inegb hb44 hc289
                refine W.skip ?_
                show W _ _ _ _ _ _
                refine W.region ?_
                refine WL.val (Value.int .i64 (w64 ((k39 : Int) + (1 : Int)))) _ (op_add e288 rfl) rfl ?_
                refine WL.val (Value.int .i64 (w64 ((k39 : Int) + (1 : Int)))) _ (op_move rfl) rfl ?_
                refine WL.nil ?_
                obtain rfl := Option.some.inj hb44
                show ∃ s, _ = Ctl.next s ∧ _
                exact ⟨_, rfl, e281, e282, e283, e284, e285, e286, e287, (ctr_next hl58 hr36), (ctr_rng hl58 hr36), hS276⟩
        · intro s297 f293 wd294 hs295 hI296
          obtain ⟨⟩ := s297
          replace hI296 : f293 1 = v_d ∧ f293 5 = (Value.int .i64 (k12 : Int)) ∧ f293 13 = v_r_Table ∧ f293 14 = (Value.int .i64 ((r_Table).length : Int)) ∧ f293 15 = (Value.int .i64 (k12 : Int)) ∧ f293 20 = u33 ∧ f293 21 = (Value.int .i64 ((x29).length : Int)) ∧ f293 22 = Value.int .i64 (((x29).length : Nat) : Int) ∧ InR .i64 (((x29).length : Nat) : Int) ∧ St wd2 wd294 [] := hI296
          obtain ⟨hf298, hf299, hf300, hf301, hf302, hf303, hf304, hf305, hr306, hS307⟩ := hI296
          refine W.seq (W.region ?_)
          refine WL.val (Value.bool (decide ((((x29).length : Nat) : Int) < ((x29).length : Int)))) _ (op_lss hf305 hf304) rfl ?_
          have hl308 : ¬ (((x29).length : Nat) : Int) < ((x29).length : Int) := by omega
          refine WL.nil ?_
          refine W.seq ?_
          refine W.condF (decide ((((x29).length : Nat) : Int) < ((x29).length : Int))) rfl (decide_eq_false hl308) ?_
          refine W.exit ?_
          show _ = _ ∧ _
          exact ⟨rfl, _, hs295, hf298, hf300, hf301, hf302, hS307⟩
      · rintro f309 wd310 ⟨s312, rfl, hq311⟩
        replace hb17 := onRes_fin hb17
        obtain ⟨⟩ := s312
        replace hq311 : f309 1 = v_d ∧ f309 13 = v_r_Table ∧ f309 14 = (Value.int .i64 ((r_Table).length : Int)) ∧ f309 15 = (Value.int .i64 (k12 : Int)) ∧ St wd2 wd310 [] := hq311
        obtain ⟨hf313, hf314, hf315, hf316, hS317⟩ := hq311
        show W _ _ _ _ _ _
        refine W.region ?_
        refine WL.val (Value.int .i64 (w64 ((k12 : Int) + (1 : Int)))) _ (op_add hf316 rfl) rfl ?_
        refine WL.val (Value.int .i64 (w64 ((k12 : Int) + (1 : Int)))) _ (op_move rfl) rfl ?_
        refine WL.nil ?_
        obtain rfl := Option.some.inj hb17
        show ∃ s, _ = Ctl.next s ∧ _
        exact ⟨_, rfl, hf313, hf314, hf315, (ctr_next hl27 hr9), (ctr_rng hl27 hr9), hS317⟩
    · intro s324 f320 wd321 hs322 hI323
      obtain ⟨⟩ := s324
      replace hI323 : f320 1 = v_d ∧ f320 13 = v_r_Table ∧ f320 14 = (Value.int .i64 ((r_Table).length : Int)) ∧ f320 15 = Value.int .i64 (((r_Table).length : Nat) : Int) ∧ InR .i64 (((r_Table).length : Nat) : Int) ∧ St wd2 wd321 [] := hI323
      obtain ⟨hf325, hf326, hf327, hf328, hr329, hS330⟩ := hI323
      refine W.seq (W.region ?_)
      refine WL.val (Value.bool (decide ((((r_Table).length : Nat) : Int) < ((r_Table).length : Int)))) _ (op_lss hf328 hf327) rfl ?_
      have hl331 : ¬ (((r_Table).length : Nat) : Int) < ((r_Table).length : Int) := by omega
      refine WL.nil ?_
      refine W.seq ?_
      refine W.condF (decide ((((r_Table).length : Nat) : Int) < ((r_Table).length : Int))) rfl (decide_eq_false hl331) ?_
      refine W.exit ?_
      show _ = _ ∧ _
      exact ⟨rfl, _, hs322, hf325, hS330⟩
  · rintro f332 wd333 ⟨s335, rfl, hq334⟩
    replace h := onRes_fin h
    obtain ⟨⟩ := s335
    replace hq334 : f332 1 = v_d ∧ St wd2 wd333 [] := hq334
    obtain ⟨hf336, hS337⟩ := hq334
    refine W.seq (W.region ?_)
    refine WL.val v_d _ (op_move hf336) rfl ?_
    obtain ⟨x338, hx339, h⟩ := bs h
    refine WL.call _ (op_call fn_58 (args1 rfl)) (c_slices_Min_Lint64_int64 (Ty.lift _ (Ext.trans hE7 hS337.ext) r_d) hx339) rfl ?_
    rintro _ wd341 ⟨rfl, hr340, he342⟩
    have hS344 := St.extend hS337 he342
    replace hS344 : St wd2 wd341 [] := hS344
    refine WL.val (Value.bool (decide (x338 > (0 : Int)))) _ (op_gtr rfl rfl) rfl ?_
    refine WL.val (Value.bool (decide (x338 > (0 : Int)))) _ (op_assign rfl) rfl ?_
    refine WL.nil ?_
    refine W.ret ?_
    obtain rfl := Option.some.inj h
    show FinP _ _ _ _ _ _ _
    exact FinP.ret _ (res1 rfl rfl) ⟨rfl, (Ext.trans hE7 hS344.ext)⟩

theorem c_impl_Ring_integerDimensions {w : World} {r_Table : (List (List (List Int)))} {v_r_Table : Value} (r_r_Table : (Ty.sl (Ty.sl (Ty.sl (Ty.i .i64)))).rep w v_r_Table r_Table) {res : (List Int)} (h : p_impl_Ring_integerDimensions r_Table  = some res) :
    Ret Try.prog 28 #[(Value.agg #[v_r_Table])] w (fun v w' => ∃ (u0 : Value), v = u0 ∧ NilIff u0 res ∧ Ext w w' ∧ Sep w.heap.size w' [(Ty.sl (Ty.i .i64)).at u0 res]) := by
  unfold p_impl_Ring_integerDimensions at h
  have hS0 : St w w [] := St.start w
  refine Ret.start (fn := Try.f28) Try.func28 rfl 11 rfl rfl ?_
  refine W.seq (W.region ?_)
  refine WL.box hS0 rfl (cs := [v_r_Table]) rfl rfl ?_
  intro b1 wd2 hS3 he4 hx5
  replace hS3 : St w wd2 [bx b1 [v_r_Table]] := hS3
  have hx6 := St.boxAt hS3 0 rfl
  have hE7 : Ext w wd2 := hS3.ext
  have hS8 : St wd2 wd2 [] := St.start wd2
  refine WL.val (Value.slice none 0 0) _ (op_assign rfl) rfl ?_
  refine WL.nil ?_
  refine W.seq (W.region ?_)
  refine WL.val (Value.agg #[v_r_Table]) _ (op_loadBox st_28 rfl (BoxAt.lift hS8.ext hx6) rfl rfl) rfl ?_
  obtain ⟨x9, hx10, h⟩ := bs h
  refine WL.call _ (op_call fn_42 (args1 rfl)) (c_impl_Ring_nearDimensions (Ty.lift _ (Ext.trans hE7 hS8.ext) r_r_Table) hx10) rfl ?_
  rintro u11 wd13 ⟨_, rfl, hn12, he14, hs15⟩
  have hS16 := St.join hS8 he14 hs15
  replace hS16 : St wd2 wd13 [(Ty.sl (Ty.i .i64)).at u11 x9] := hS16
  refine WL.val u11 _ (op_assign rfl) rfl ?_
  refine WL.nil ?_
  refine W.seq (W.seq (W.region ?_))
  refine WL.val (Value.agg #[v_r_Table]) _ (op_loadBox st_28 rfl (BoxAt.lift hS16.ext hx6) rfl rfl) rfl ?_
  refine WL.val u11 _ (op_move rfl) rfl ?_
  obtain ⟨x17, hx18, h⟩ := bs h
  refine WL.call _ (op_call fn_43 (args2 rfl rfl)) (c_impl_Ring_isDimension (Ty.lift _ (Ext.trans hE7 hS16.ext) r_r_Table) (St.rep (t := (Ty.sl (Ty.i .i64))) hS16 0 rfl) hx18) rfl ?_
  rintro _ wd19 ⟨rfl, he20⟩
  have hS22 := St.extend hS16 he20
  replace hS22 : St wd2 wd19 [(Ty.sl (Ty.i .i64)).at u11 x9] := hS22
  refine WL.val (Value.bool (!x17)) _ (op_not rfl) rfl ?_
  refine WL.nil ?_
  refine W.cond (!x17) rfl (fun hc23 => ?_) (fun hc23 => ?_)
  · replace h := ip h hc23
    refine W.seq (W.region ?_)
    refine WL.val (Value.slice none 0 0) _ (op_assign rfl) rfl ?_
    refine WL.nil ?_
    refine W.ret ?_
    obtain rfl := Option.some.inj h
    show FinP _ _ _ _ _ _ _
    exact FinP.ret _ (res1 rfl rfl) ⟨(Value.slice none 0 0), rfl, (fun _ => ⟨0, 0, rfl⟩), (Ext.trans hE7 hS22.ext), (St.out (St.pick (St.addNil (Ty.i .i64) hS22) [1] rfl) (hE7))⟩
  · replace h := inegb h hc23
    refine W.skip ?_
    refine W.seq (W.region ?_)
    refine WL.val u11 _ (op_move rfl) rfl ?_
    refine WL.val u11 _ (op_assign rfl) rfl ?_
    refine WL.nil ?_
    refine W.ret ?_
    obtain rfl := Option.some.inj h
    show FinP _ _ _ _ _ _ _
    exact FinP.ret _ (res1 rfl rfl) ⟨u11, rfl, hn12, (Ext.trans hE7 hS22.ext), (St.out (St.pick hS22 [0] rfl) (hE7))⟩

theorem c_laws_eqInt64S {w : World} {a : (List Int)} {v_a : Value} {b : (List Int)} {v_b : Value} (r_a : (Ty.sl (Ty.i .i64)).rep w v_a a) (r_b : (Ty.sl (Ty.i .i64)).rep w v_b b) {res : Bool} (h : p_laws_eqInt64S a b  = some res) :
    Ret Try.prog 17 #[v_a, v_b] w (fun v w' => v = Value.bool res ∧ Ext w w') := by
  unfold p_laws_eqInt64S at h
  have hS0 : St w w [] := St.start w
  refine Ret.start (fn := Try.f17) Try.func17 rfl 26 rfl rfl ?_
  refine W.seq (W.region ?_)
  refine WL.val (Value.bool false) _ (op_assign rfl) rfl ?_
  refine WL.nil ?_
  refine W.seq (W.seq (W.region ?_))
  refine WL.val v_a _ (op_move rfl) rfl ?_
  have hr1 := inR_len (Ty.lift _ hS0.ext r_a)
  refine WL.val (Value.int .i64 ((a).length : Int)) _ (op_lenL sl_34 (Ty.lift _ hS0.ext r_a) rfl) rfl ?_
  refine WL.val v_b _ (op_move rfl) rfl ?_
  have hr2 := inR_len (Ty.lift _ hS0.ext r_b)
  refine WL.val (Value.int .i64 ((b).length : Int)) _ (op_lenL sl_34 (Ty.lift _ hS0.ext r_b) rfl) rfl ?_
  refine WL.val (Value.bool (((a).length : Int) != ((b).length : Int))) _ (op_neq rfl rfl) rfl ?_
  refine WL.nil ?_
  refine W.cond (((a).length : Int) != ((b).length : Int)) rfl (fun hc3 => ?_) (fun hc3 => ?_)
  · replace h := ip h hc3
    refine W.seq (W.region ?_)
    refine WL.val (Value.bool false) _ (op_assign rfl) rfl ?_
    refine WL.nil ?_
    refine W.ret ?_
    obtain rfl := Option.some.inj h
    show FinP _ _ _ _ _ _ _
    exact FinP.ret _ (res1 rfl rfl) ⟨rfl, hS0.ext⟩
  · replace h := inegb h hc3
    refine W.skip ?_
    refine W.seq (W.seq (W.region ?_))
    refine WL.val (Value.int .i64 (0 : Int)) _ (op_assign rfl) rfl ?_
    refine WL.nil ?_
    show W _ _ _ _ _ _
    obtain ⟨res5, hres6, h⟩ := bs h
    refine W.blockLoop (fun fq wq => ∃ s, res5 = Res.fin s ∧ St w wq []) ?_ ?_
    · refine W.forN (fun k (s : Unit) fq wq => fq 0 = v_a ∧ fq 1 = v_b ∧ fq 5 = Value.int .i64 (k : Int) ∧ InR .i64 (k : Int) ∧ St w wq []) hres6 ⟨rfl, rfl, rfl, (inL rfl), hS0⟩ ?_ ?_
      · intro k7 s134 ct8 f9 wd10 hk11 hb12 hI13 hbrk14 hret15
        obtain ⟨⟩ := s134
        replace hI13 : f9 0 = v_a ∧ f9 1 = v_b ∧ f9 5 = Value.int .i64 (k7 : Int) ∧ InR .i64 (k7 : Int) ∧ St w wd10 [] := hI13
        replace hb12 : p_laws_eqInt64S_L1 a b k7  = some ct8 := hb12
        unfold p_laws_eqInt64S_L1 at hb12
        obtain ⟨hf16, hf17, hf18, hr19, hS20⟩ := hI13
        refine W.seq (W.seq (W.region ?_))
        refine WL.val (Value.int .i64 (k7 : Int)) _ (op_move hf18) rfl ?_
        refine WL.val v_a _ (op_move hf16) rfl ?_
        have hr21 := inR_len (Ty.lift _ hS20.ext r_a)
        refine WL.val (Value.int .i64 ((a).length : Int)) _ (op_lenL sl_34 (Ty.lift _ hS20.ext r_a) rfl) rfl ?_
        refine WL.val (Value.bool (decide ((k7 : Int) < ((a).length : Int)))) _ (op_lss rfl rfl) rfl ?_
        have hl22 : (k7 : Int) < ((a).length : Int) := by omega
        refine WL.nil ?_
        refine W.condT (decide ((k7 : Int) < ((a).length : Int))) rfl (decide_eq_true hl22) ?_
        refine W.skip ?_
        refine W.seq ?_
        refine W.block ?_
        refine W.seq ?_
        obtain ⟨x53, hx56, hb12⟩ := bs hb12
        obtain ⟨ha54, hb55, hx56⟩ := idx_some hx56
        obtain ⟨u67, hc68, hr69⟩ := repSl.el r_a hx56
        obtain ⟨rfl, hr69⟩ := hr69
        obtain ⟨x99, hx102, hb12⟩ := bs hb12
        obtain ⟨ha100, hb101, hx102⟩ := idx_some hx102
        obtain ⟨u113, hc114, hr115⟩ := repSl.el r_b hx102
        obtain ⟨rfl, hr115⟩ := hr115
        refine W.drawR mixo 8 [] [fun _ v _ _ => v = v_a, fun _ v _ _ => v = (Value.int .i64 (k7 : Int)) ∧ InR .i64 (k7 : Int), fun _ v _ _ => v = (Value.pointer (some (elA v_a ((k7 : Int)).toNat))), fun _ v _ _ => v = (Value.int .i64 x53) ∧ InR .i64 x53, fun _ v _ _ => v = v_b, fun _ v _ _ => v = (Value.int .i64 (k7 : Int)) ∧ InR .i64 (k7 : Int), fun _ v _ _ => v = (Value.pointer (some (elA v_b ((k7 : Int)).toNat))), fun _ v _ _ => v = (Value.int .i64 x99) ∧ InR .i64 x99] (by kernel_rfl) (by kernel_rfl) ⟨pk, pk, pk, pk, pk, pk, pk, pk, trivial⟩ ⟨?_, ?_, ?_, ?_, ?_, ?_, ?_, ?_, trivial⟩ ?_
        · refine ObX.op rfl fun f24 wd25 he26 hout27 hphi28 => ?_
          have e30 : f24 0 = v_a := (hout27 0 rfl).trans hf16
          exact OpX.val v_a wd25 rfl (op_move e30) (Ext.refl _) rfl
        · refine ObX.op rfl fun f31 wd32 he33 hout34 hphi35 => ?_
          have e37 : f31 5 = (Value.int .i64 (k7 : Int)) := (hout34 5 rfl).trans hf18
          exact OpX.val (Value.int .i64 (k7 : Int)) wd32 rfl (op_move e37) (Ext.refl _) ⟨rfl, hr19⟩
        · refine ObX.op rfl fun f38 wd39 he40 hout41 hphi42 => ?_
          have hS43 := St.extend hS20 he40
          obtain ⟨S44, hS45, hf46⟩ := hphi42 0 17 _ rfl rfl rfl
          have e47 : f38 17 = v_a := hf46
          obtain ⟨S48, hS49, hf50⟩ := hphi42 1 18 _ rfl rfl rfl
          obtain ⟨e51, hr52⟩ := hf50
          exact OpX.val (Value.pointer (some (elA v_a ((k7 : Int)).toNat))) wd39 rfl (op_idx sl_34 (Ty.lift _ hS43.ext r_a) e47 e51 ha54 hb55) (Ext.refl _) rfl
        · refine ObX.op rfl fun f57 wd58 he59 hout60 hphi61 => ?_
          have hS62 := St.extend hS20 he59
          obtain ⟨S63, hS64, hf65⟩ := hphi61 2 19 _ rfl rfl rfl
          have e66 : f57 19 = (Value.pointer (some (elA v_a ((k7 : Int)).toNat))) := hf65
          exact OpX.val (Value.int .i64 x53) wd58 rfl (op_load one_2 e66 (Ext.cell hS62.ext hc68)) (Ext.refl _) ⟨rfl, hr69⟩
        · refine ObX.op rfl fun f70 wd71 he72 hout73 hphi74 => ?_
          have e76 : f70 1 = v_b := (hout73 1 rfl).trans hf17
          exact OpX.val v_b wd71 rfl (op_move e76) (Ext.refl _) rfl
        · refine ObX.op rfl fun f77 wd78 he79 hout80 hphi81 => ?_
          have e83 : f77 5 = (Value.int .i64 (k7 : Int)) := (hout80 5 rfl).trans hf18
          exact OpX.val (Value.int .i64 (k7 : Int)) wd78 rfl (op_move e83) (Ext.refl _) ⟨rfl, hr19⟩
        · refine ObX.op rfl fun f84 wd85 he86 hout87 hphi88 => ?_
          have hS89 := St.extend hS20 he86
          obtain ⟨S90, hS91, hf92⟩ := hphi88 4 21 _ rfl rfl rfl
          have e93 : f84 21 = v_b := hf92
          obtain ⟨S94, hS95, hf96⟩ := hphi88 5 22 _ rfl rfl rfl
          obtain ⟨e97, hr98⟩ := hf96
          exact OpX.val (Value.pointer (some (elA v_b ((k7 : Int)).toNat))) wd85 rfl (op_idx sl_34 (Ty.lift _ hS89.ext r_b) e93 e97 ha100 hb101) (Ext.refl _) rfl
        · refine ObX.op rfl fun f103 wd104 he105 hout106 hphi107 => ?_
          have hS108 := St.extend hS20 he105
          obtain ⟨S109, hS110, hf111⟩ := hphi107 6 23 _ rfl rfl rfl
          have e112 : f103 23 = (Value.pointer (some (elA v_b ((k7 : Int)).toNat))) := hf111
          exact OpX.val (Value.int .i64 x99) wd104 rfl (op_load one_2 e112 (Ext.cell hS108.ext hc114)) (Ext.refl _) ⟨rfl, hr115⟩
        · intro f116 wd117 Ss118 he119 hout120 hSn121 hSd122 hphi123
          show WL _ _ _ _ _ _ _
          have hS124 := St.extend hS20 he119
          obtain ⟨e125, hr126⟩ := hphi123 3 20 _ (by decide) rfl rfl
          obtain ⟨e127, hr128⟩ := hphi123 7 24 _ (by decide) rfl rfl
          have e129 : f116 0 = v_a := (hout120 0 rfl).trans hf16
          have e130 : f116 1 = v_b := (hout120 1 rfl).trans hf17
          have e131 : f116 5 = (Value.int .i64 (k7 : Int)) := (hout120 5 rfl).trans hf18
          refine WL.val (Value.bool (x53 != x99)) _ (op_neq e125 e127) rfl ?_
          refine WL.nil ?_
          refine W.cond (x53 != x99) rfl (fun hc132 => ?_) (fun hc132 => ?_)
          · replace hb12 := ip hb12 hc132
            refine W.seq (W.region ?_)
            refine WL.val (Value.bool false) _ (op_assign rfl) rfl ?_
            refine WL.nil ?_
            refine W.ret ?_
            obtain rfl := Option.some.inj hb12
            obtain rfl := hret15 _ rfl
            replace h := onRes_ret h
            obtain rfl := Option.some.inj h
            show FinP _ _ _ _ _ _ _
            exact FinP.ret _ (res1 rfl rfl) ⟨rfl, hS124.ext⟩
          · replace hb12 := inegb hb12 hc132
            refine W.skip ?_
            show W _ _ _ _ _ _
            refine W.region ?_
            refine WL.val (Value.int .i64 (k7 : Int)) _ (op_move e131) rfl ?_
            refine WL.val (Value.int .i64 (w64 ((k7 : Int) + (1 : Int)))) _ (op_add rfl rfl) rfl ?_
            refine WL.val (Value.int .i64 (w64 ((k7 : Int) + (1 : Int)))) _ (op_assign rfl) rfl ?_
            refine WL.nil ?_
            obtain rfl := Option.some.inj hb12
            show ∃ s, _ = Ctl.next s ∧ _
            exact ⟨_, rfl, e129, e130, (ctr_next hl22 hr21), (ctr_rng hl22 hr21), hS124⟩
      · intro s139 f135 wd136 hs137 hI138
        obtain ⟨⟩ := s139
        replace hI138 : f135 0 = v_a ∧ f135 1 = v_b ∧ f135 5 = Value.int .i64 (((a).length : Nat) : Int) ∧ InR .i64 (((a).length : Nat) : Int) ∧ St w wd136 [] := hI138
        obtain ⟨hf140, hf141, hf142, hr143, hS144⟩ := hI138
        refine W.seq (W.seq (W.region ?_))
        refine WL.val (Value.int .i64 (((a).length : Nat) : Int)) _ (op_move hf142) rfl ?_
        refine WL.val v_a _ (op_move hf140) rfl ?_
        have hr145 := inR_len (Ty.lift _ hS144.ext r_a)
        refine WL.val (Value.int .i64 ((a).length : Int)) _ (op_lenL sl_34 (Ty.lift _ hS144.ext r_a) rfl) rfl ?_
        refine WL.val (Value.bool (decide ((((a).length : Nat) : Int) < ((a).length : Int)))) _ (op_lss rfl rfl) rfl ?_
        have hl146 : ¬ (((a).length : Nat) : Int) < ((a).length : Int) := by omega
        refine WL.nil ?_
        refine W.condF (decide ((((a).length : Nat) : Int) < ((a).length : Int))) rfl (decide_eq_false hl146) ?_
        refine W.exit ?_
        show _ = _ ∧ _
        exact ⟨rfl, _, hs137, hS144⟩
    · rintro f147 wd148 ⟨s150, rfl, hq149⟩
      replace h := onRes_fin h
      obtain ⟨⟩ := s150
      replace hq149 : St w wd148 [] := hq149
      have hS151 := hq149
      refine W.seq (W.region ?_)
      refine WL.val (Value.bool true) _ (op_assign rfl) rfl ?_
      refine WL.nil ?_
      refine W.ret ?_
      obtain rfl := Option.some.inj h
      show FinP _ _ _ _ _ _ _
      exact FinP.ret _ (res1 rfl rfl) ⟨rfl, hS151.ext⟩

theorem c_laws_eqInt64SS {w : World} {a : (List (List Int))} {v_a : Value} {b : (List (List Int))} {v_b : Value} (r_a : (Ty.sl (Ty.sl (Ty.i .i64))).rep w v_a a) (r_b : (Ty.sl (Ty.sl (Ty.i .i64))).rep w v_b b) {res : Bool} (h : p_laws_eqInt64SS a b  = some res) :
    Ret Try.prog 44 #[v_a, v_b] w (fun v w' => v = Value.bool res ∧ Ext w w') := by
  unfold p_laws_eqInt64SS at h
  have hS0 : St w w [] := St.start w
  refine Ret.start (fn := Try.f44) Try.func44 rfl 27 rfl rfl ?_
  refine W.seq (W.region ?_)
  refine WL.val (Value.bool false) _ (op_assign rfl) rfl ?_
  refine WL.nil ?_
  refine W.seq (W.seq (W.region ?_))
  refine WL.val v_a _ (op_move rfl) rfl ?_
  have hr1 := inR_len (Ty.lift _ hS0.ext r_a)
  refine WL.val (Value.int .i64 ((a).length : Int)) _ (op_lenL sl_54 (Ty.lift _ hS0.ext r_a) rfl) rfl ?_
  refine WL.val v_b _ (op_move rfl) rfl ?_
  have hr2 := inR_len (Ty.lift _ hS0.ext r_b)
  refine WL.val (Value.int .i64 ((b).length : Int)) _ (op_lenL sl_54 (Ty.lift _ hS0.ext r_b) rfl) rfl ?_
  refine WL.val (Value.bool (((a).length : Int) != ((b).length : Int))) _ (op_neq rfl rfl) rfl ?_
  refine WL.nil ?_
  refine W.cond (((a).length : Int) != ((b).length : Int)) rfl (fun hc3 => ?_) (fun hc3 => ?_)
  · replace h := ip h hc3
    refine W.seq (W.region ?_)
    refine WL.val (Value.bool false) _ (op_assign rfl) rfl ?_
    refine WL.nil ?_
    refine W.ret ?_
    obtain rfl := Option.some.inj h
    show FinP _ _ _ _ _ _ _
    exact FinP.ret _ (res1 rfl rfl) ⟨rfl, hS0.ext⟩
  · replace h := inegb h hc3
    refine W.skip ?_
    refine W.seq (W.seq (W.region ?_))
    refine WL.val (Value.int .i64 (0 : Int)) _ (op_assign rfl) rfl ?_
    refine WL.nil ?_
    show W _ _ _ _ _ _
    obtain ⟨res5, hres6, h⟩ := bs h
    refine W.blockLoop (fun fq wq => ∃ s, res5 = Res.fin s ∧ St w wq []) ?_ ?_
    · refine W.forN (fun k (s : Unit) fq wq => fq 0 = v_a ∧ fq 1 = v_b ∧ fq 5 = Value.int .i64 (k : Int) ∧ InR .i64 (k : Int) ∧ St w wq []) hres6 ⟨rfl, rfl, rfl, (inL rfl), hS0⟩ ?_ ?_
      · intro k7 s138 ct8 f9 wd10 hk11 hb12 hI13 hbrk14 hret15
        obtain ⟨⟩ := s138
        replace hI13 : f9 0 = v_a ∧ f9 1 = v_b ∧ f9 5 = Value.int .i64 (k7 : Int) ∧ InR .i64 (k7 : Int) ∧ St w wd10 [] := hI13
        replace hb12 : p_laws_eqInt64SS_L1 a b k7  = some ct8 := hb12
        unfold p_laws_eqInt64SS_L1 at hb12
        obtain ⟨hf16, hf17, hf18, hr19, hS20⟩ := hI13
        refine W.seq (W.seq (W.region ?_))
        refine WL.val (Value.int .i64 (k7 : Int)) _ (op_move hf18) rfl ?_
        refine WL.val v_a _ (op_move hf16) rfl ?_
        have hr21 := inR_len (Ty.lift _ hS20.ext r_a)
        refine WL.val (Value.int .i64 ((a).length : Int)) _ (op_lenL sl_54 (Ty.lift _ hS20.ext r_a) rfl) rfl ?_
        refine WL.val (Value.bool (decide ((k7 : Int) < ((a).length : Int)))) _ (op_lss rfl rfl) rfl ?_
        have hl22 : (k7 : Int) < ((a).length : Int) := by omega
        refine WL.nil ?_
        refine W.condT (decide ((k7 : Int) < ((a).length : Int))) rfl (decide_eq_true hl22) ?_
        refine W.skip ?_
        refine W.seq ?_
        refine W.block ?_
        refine W.seq ?_
        obtain ⟨x53, hx56, hb12⟩ := bs hb12
        obtain ⟨ha54, hb55, hx56⟩ := idx_some hx56
        obtain ⟨u67, hc68, hr69⟩ := repSl.el r_a hx56
        obtain ⟨x99, hx102, hb12⟩ := bs hb12
        obtain ⟨ha100, hb101, hx102⟩ := idx_some hx102
        obtain ⟨u113, hc114, hr115⟩ := repSl.el r_b hx102
        refine W.drawR mixo 8 [] [fun _ v _ _ => v = v_a, fun _ v _ _ => v = (Value.int .i64 (k7 : Int)) ∧ InR .i64 (k7 : Int), fun _ v _ _ => v = (Value.pointer (some (elA v_a ((k7 : Int)).toNat))), fun _ v _ _ => v = u67, fun _ v _ _ => v = v_b, fun _ v _ _ => v = (Value.int .i64 (k7 : Int)) ∧ InR .i64 (k7 : Int), fun _ v _ _ => v = (Value.pointer (some (elA v_b ((k7 : Int)).toNat))), fun _ v _ _ => v = u113] (by kernel_rfl) (by kernel_rfl) ⟨pk, pk, pk, pk, pk, pk, pk, pk, trivial⟩ ⟨?_, ?_, ?_, ?_, ?_, ?_, ?_, ?_, trivial⟩ ?_
        · refine ObX.op rfl fun f24 wd25 he26 hout27 hphi28 => ?_
          have e30 : f24 0 = v_a := (hout27 0 rfl).trans hf16
          exact OpX.val v_a wd25 rfl (op_move e30) (Ext.refl _) rfl
        · refine ObX.op rfl fun f31 wd32 he33 hout34 hphi35 => ?_
          have e37 : f31 5 = (Value.int .i64 (k7 : Int)) := (hout34 5 rfl).trans hf18
          exact OpX.val (Value.int .i64 (k7 : Int)) wd32 rfl (op_move e37) (Ext.refl _) ⟨rfl, hr19⟩
        · refine ObX.op rfl fun f38 wd39 he40 hout41 hphi42 => ?_
          have hS43 := St.extend hS20 he40
          obtain ⟨S44, hS45, hf46⟩ := hphi42 0 17 _ rfl rfl rfl
          have e47 : f38 17 = v_a := hf46
          obtain ⟨S48, hS49, hf50⟩ := hphi42 1 18 _ rfl rfl rfl
          obtain ⟨e51, hr52⟩ := hf50
          exact OpX.val (Value.pointer (some (elA v_a ((k7 : Int)).toNat))) wd39 rfl (op_idx sl_54 (Ty.lift _ hS43.ext r_a) e47 e51 ha54 hb55) (Ext.refl _) rfl
        · refine ObX.op rfl fun f57 wd58 he59 hout60 hphi61 => ?_
          have hS62 := St.extend hS20 he59
          obtain ⟨S63, hS64, hf65⟩ := hphi61 2 19 _ rfl rfl rfl
          have e66 : f57 19 = (Value.pointer (some (elA v_a ((k7 : Int)).toNat))) := hf65
          exact OpX.val u67 wd58 rfl (op_load one_34 e66 (Ext.cell hS62.ext hc68)) (Ext.refl _) rfl
        · refine ObX.op rfl fun f70 wd71 he72 hout73 hphi74 => ?_
          have e76 : f70 1 = v_b := (hout73 1 rfl).trans hf17
          exact OpX.val v_b wd71 rfl (op_move e76) (Ext.refl _) rfl
        · refine ObX.op rfl fun f77 wd78 he79 hout80 hphi81 => ?_
          have e83 : f77 5 = (Value.int .i64 (k7 : Int)) := (hout80 5 rfl).trans hf18
          exact OpX.val (Value.int .i64 (k7 : Int)) wd78 rfl (op_move e83) (Ext.refl _) ⟨rfl, hr19⟩
        · refine ObX.op rfl fun f84 wd85 he86 hout87 hphi88 => ?_
          have hS89 := St.extend hS20 he86
          obtain ⟨S90, hS91, hf92⟩ := hphi88 4 21 _ rfl rfl rfl
          have e93 : f84 21 = v_b := hf92
          obtain ⟨S94, hS95, hf96⟩ := hphi88 5 22 _ rfl rfl rfl
          obtain ⟨e97, hr98⟩ := hf96
          exact OpX.val (Value.pointer (some (elA v_b ((k7 : Int)).toNat))) wd85 rfl (op_idx sl_54 (Ty.lift _ hS89.ext r_b) e93 e97 ha100 hb101) (Ext.refl _) rfl
        · refine ObX.op rfl fun f103 wd104 he105 hout106 hphi107 => ?_
          have hS108 := St.extend hS20 he105
          obtain ⟨S109, hS110, hf111⟩ := hphi107 6 23 _ rfl rfl rfl
          have e112 : f103 23 = (Value.pointer (some (elA v_b ((k7 : Int)).toNat))) := hf111
          exact OpX.val u113 wd104 rfl (op_load one_34 e112 (Ext.cell hS108.ext hc114)) (Ext.refl _) rfl
        · intro f116 wd117 Ss118 he119 hout120 hSn121 hSd122 hphi123
          show WL _ _ _ _ _ _ _
          have hS124 := St.extend hS20 he119
          have e125 : f116 20 = u67 := hphi123 3 20 _ (by decide) rfl rfl
          have e126 : f116 24 = u113 := hphi123 7 24 _ (by decide) rfl rfl
          have e127 : f116 0 = v_a := (hout120 0 rfl).trans hf16
          have e128 : f116 1 = v_b := (hout120 1 rfl).trans hf17
          have e129 : f116 5 = (Value.int .i64 (k7 : Int)) := (hout120 5 rfl).trans hf18
          obtain ⟨x130, hx131, hb12⟩ := bs hb12
          refine WL.call _ (op_call fn_17 (args2 e125 e126)) (c_laws_eqInt64S (Ty.lift _ hS124.ext hr69) (Ty.lift _ hS124.ext hr115) hx131) rfl ?_
          rintro _ wd132 ⟨rfl, he133⟩
          have hS135 := St.extend hS124 he133
          replace hS135 : St w wd132 [] := hS135
          refine WL.val (Value.bool (!x130)) _ (op_not rfl) rfl ?_
          refine WL.nil ?_
          refine W.cond (!x130) rfl (fun hc136 => ?_) (fun hc136 => ?_)
          · replace hb12 := ip hb12 hc136
            refine W.seq (W.region ?_)
            refine WL.val (Value.bool false) _ (op_assign rfl) rfl ?_
            refine WL.nil ?_
            refine W.ret ?_
            obtain rfl := Option.some.inj hb12
            obtain rfl := hret15 _ rfl
            replace h := onRes_ret h
            obtain rfl := Option.some.inj h
            show FinP _ _ _ _ _ _ _
            exact FinP.ret _ (res1 rfl rfl) ⟨rfl, hS135.ext⟩
          · replace hb12 := inegb hb12 hc136
            refine W.skip ?_
            show W _ _ _ _ _ _
            refine W.region ?_
            refine WL.val (Value.int .i64 (k7 : Int)) _ (op_move e129) rfl ?_
            refine WL.val (Value.int .i64 (w64 ((k7 : Int) + (1 : Int)))) _ (op_add rfl rfl) rfl ?_
            refine WL.val (Value.int .i64 (w64 ((k7 : Int) + (1 : Int)))) _ (op_assign rfl) rfl ?_
            refine WL.nil ?_
            obtain rfl := Option.some.inj hb12
            show ∃ s, _ = Ctl.next s ∧ _
            exact ⟨_, rfl, e127, e128, (ctr_next hl22 hr21), (ctr_rng hl22 hr21), hS135⟩
      · intro s143 f139 wd140 hs141 hI142
        obtain ⟨⟩ := s143
        replace hI142 : f139 0 = v_a ∧ f139 1 = v_b ∧ f139 5 = Value.int .i64 (((a).length : Nat) : Int) ∧ InR .i64 (((a).length : Nat) : Int) ∧ St w wd140 [] := hI142
        obtain ⟨hf144, hf145, hf146, hr147, hS148⟩ := hI142
        refine W.seq (W.seq (W.region ?_))
        refine WL.val (Value.int .i64 (((a).length : Nat) : Int)) _ (op_move hf146) rfl ?_
        refine WL.val v_a _ (op_move hf144) rfl ?_
        have hr149 := inR_len (Ty.lift _ hS148.ext r_a)
        refine WL.val (Value.int .i64 ((a).length : Int)) _ (op_lenL sl_54 (Ty.lift _ hS148.ext r_a) rfl) rfl ?_
        refine WL.val (Value.bool (decide ((((a).length : Nat) : Int) < ((a).length : Int)))) _ (op_lss rfl rfl) rfl ?_
        have hl150 : ¬ (((a).length : Nat) : Int) < ((a).length : Int) := by omega
        refine WL.nil ?_
        refine W.condF (decide ((((a).length : Nat) : Int) < ((a).length : Int))) rfl (decide_eq_false hl150) ?_
        refine W.exit ?_
        show _ = _ ∧ _
        exact ⟨rfl, _, hs141, hS148⟩
    · rintro f151 wd152 ⟨s154, rfl, hq153⟩
      replace h := onRes_fin h
      obtain ⟨⟩ := s154
      replace hq153 : St w wd152 [] := hq153
      have hS155 := hq153
      refine W.seq (W.region ?_)
      refine WL.val (Value.bool true) _ (op_assign rfl) rfl ?_
      refine WL.nil ?_
      refine W.ret ?_
      obtain rfl := Option.some.inj h
      show FinP _ _ _ _ _ _ _
      exact FinP.ret _ (res1 rfl rfl) ⟨rfl, hS155.ext⟩

theorem c_laws_eqInt64SSS {w : World} {a : (List (List (List Int)))} {v_a : Value} {b : (List (List (List Int)))} {v_b : Value} (r_a : (Ty.sl (Ty.sl (Ty.sl (Ty.i .i64)))).rep w v_a a) (r_b : (Ty.sl (Ty.sl (Ty.sl (Ty.i .i64)))).rep w v_b b) {res : Bool} (h : p_laws_eqInt64SSS a b  = some res) :
    Ret Try.prog 29 #[v_a, v_b] w (fun v w' => v = Value.bool res ∧ Ext w w') := by
  unfold p_laws_eqInt64SSS at h
  have hS0 : St w w [] := St.start w
  refine Ret.start (fn := Try.f29) Try.func29 rfl 27 rfl rfl ?_
  refine W.seq (W.region ?_)
  refine WL.val (Value.bool false) _ (op_assign rfl) rfl ?_
  refine WL.nil ?_
  refine W.seq (W.seq (W.region ?_))
  refine WL.val v_a _ (op_move rfl) rfl ?_
  have hr1 := inR_len (Ty.lift _ hS0.ext r_a)
  refine WL.val (Value.int .i64 ((a).length : Int)) _ (op_lenL sl_22 (Ty.lift _ hS0.ext r_a) rfl) rfl ?_
  refine WL.val v_b _ (op_move rfl) rfl ?_
  have hr2 := inR_len (Ty.lift _ hS0.ext r_b)
  refine WL.val (Value.int .i64 ((b).length : Int)) _ (op_lenL sl_22 (Ty.lift _ hS0.ext r_b) rfl) rfl ?_
  refine WL.val (Value.bool (((a).length : Int) != ((b).length : Int))) _ (op_neq rfl rfl) rfl ?_
  refine WL.nil ?_
  refine W.cond (((a).length : Int) != ((b).length : Int)) rfl (fun hc3 => ?_) (fun hc3 => ?_)
  · replace h := ip h hc3
    refine W.seq (W.region ?_)
    refine WL.val (Value.bool false) _ (op_assign rfl) rfl ?_
    refine WL.nil ?_
    refine W.ret ?_
    obtain rfl := Option.some.inj h
    show FinP _ _ _ _ _ _ _
    exact FinP.ret _ (res1 rfl rfl) ⟨rfl, hS0.ext⟩
  · replace h := inegb h hc3
    refine W.skip ?_
    refine W.seq (W.seq (W.region ?_))
    refine WL.val (Value.int .i64 (0 : Int)) _ (op_assign rfl) rfl ?_
    refine WL.nil ?_
    show W _ _ _ _ _ _
    obtain ⟨res5, hres6, h⟩ := bs h
    refine W.blockLoop (fun fq wq => ∃ s, res5 = Res.fin s ∧ St w wq []) ?_ ?_
    · refine W.forN (fun k (s : Unit) fq wq => fq 0 = v_a ∧ fq 1 = v_b ∧ fq 5 = Value.int .i64 (k : Int) ∧ InR .i64 (k : Int) ∧ St w wq []) hres6 ⟨rfl, rfl, rfl, (inL rfl), hS0⟩ ?_ ?_
      · intro k7 s138 ct8 f9 wd10 hk11 hb12 hI13 hbrk14 hret15
        obtain ⟨⟩ := s138
        replace hI13 : f9 0 = v_a ∧ f9 1 = v_b ∧ f9 5 = Value.int .i64 (k7 : Int) ∧ InR .i64 (k7 : Int) ∧ St w wd10 [] := hI13
        replace hb12 : p_laws_eqInt64SSS_L1 a b k7  = some ct8 := hb12
        unfold p_laws_eqInt64SSS_L1 at hb12
        obtain ⟨hf16, hf17, hf18, hr19, hS20⟩ := hI13
        refine W.seq (W.seq (W.region ?_))
        refine WL.val (Value.int .i64 (k7 : Int)) _ (op_move hf18) rfl ?_
        refine WL.val v_a _ (op_move hf16) rfl ?_
        have hr21 := inR_len (Ty.lift _ hS20.ext r_a)
        refine WL.val (Value.int .i64 ((a).length : Int)) _ (op_lenL sl_22 (Ty.lift _ hS20.ext r_a) rfl) rfl ?_
        refine WL.val (Value.bool (decide ((k7 : Int) < ((a).length : Int)))) _ (op_lss rfl rfl) rfl ?_
        have hl22 : (k7 : Int) < ((a).length : Int) := by omega
        refine WL.nil ?_
        refine W.condT (decide ((k7 : Int) < ((a).length : Int))) rfl (decide_eq_true hl22) ?_
        refine W.skip ?_
        refine W.seq ?_
        refine W.block ?_
        refine W.seq ?_
        obtain ⟨x53, hx56, hb12⟩ := bs hb12
        obtain ⟨ha54, hb55, hx56⟩ := idx_some hx56
        obtain ⟨u67, hc68, hr69⟩ := repSl.el r_a hx56
        obtain ⟨x99, hx102, hb12⟩ := bs hb12
        obtain ⟨ha100, hb101, hx102⟩ := idx_some hx102
        obtain ⟨u113, hc114, hr115⟩ := repSl.el r_b hx102
        refine W.drawR mixo 8 [] [fun _ v _ _ => v = v_a, fun _ v _ _ => v = (Value.int .i64 (k7 : Int)) ∧ InR .i64 (k7 : Int), fun _ v _ _ => v = (Value.pointer (some (elA v_a ((k7 : Int)).toNat))), fun _ v _ _ => v = u67, fun _ v _ _ => v = v_b, fun _ v _ _ => v = (Value.int .i64 (k7 : Int)) ∧ InR .i64 (k7 : Int), fun _ v _ _ => v = (Value.pointer (some (elA v_b ((k7 : Int)).toNat))), fun _ v _ _ => v = u113] (by kernel_rfl) (by kernel_rfl) ⟨pk, pk, pk, pk, pk, pk, pk, pk, trivial⟩ ⟨?_, ?_, ?_, ?_, ?_, ?_, ?_, ?_, trivial⟩ ?_
        · refine ObX.op rfl fun f24 wd25 he26 hout27 hphi28 => ?_
          have e30 : f24 0 = v_a := (hout27 0 rfl).trans hf16
          exact OpX.val v_a wd25 rfl (op_move e30) (Ext.refl _) rfl
        · refine ObX.op rfl fun f31 wd32 he33 hout34 hphi35 => ?_
          have e37 : f31 5 = (Value.int .i64 (k7 : Int)) := (hout34 5 rfl).trans hf18
          exact OpX.val (Value.int .i64 (k7 : Int)) wd32 rfl (op_move e37) (Ext.refl _) ⟨rfl, hr19⟩
        · refine ObX.op rfl fun f38 wd39 he40 hout41 hphi42 => ?_
          have hS43 := St.extend hS20 he40
          obtain ⟨S44, hS45, hf46⟩ := hphi42 0 17 _ rfl rfl rfl
          have e47 : f38 17 = v_a := hf46
          obtain ⟨S48, hS49, hf50⟩ := hphi42 1 18 _ rfl rfl rfl
          obtain ⟨e51, hr52⟩ := hf50
          exact OpX.val (Value.pointer (some (elA v_a ((k7 : Int)).toNat))) wd39 rfl (op_idx sl_22 (Ty.lift _ hS43.ext r_a) e47 e51 ha54 hb55) (Ext.refl _) rfl
        · refine ObX.op rfl fun f57 wd58 he59 hout60 hphi61 => ?_
          have hS62 := St.extend hS20 he59
          obtain ⟨S63, hS64, hf65⟩ := hphi61 2 19 _ rfl rfl rfl
          have e66 : f57 19 = (Value.pointer (some (elA v_a ((k7 : Int)).toNat))) := hf65
          exact OpX.val u67 wd58 rfl (op_load one_54 e66 (Ext.cell hS62.ext hc68)) (Ext.refl _) rfl
        · refine ObX.op rfl fun f70 wd71 he72 hout73 hphi74 => ?_
          have e76 : f70 1 = v_b := (hout73 1 rfl).trans hf17
          exact OpX.val v_b wd71 rfl (op_move e76) (Ext.refl _) rfl
        · refine ObX.op rfl fun f77 wd78 he79 hout80 hphi81 => ?_
          have e83 : f77 5 = (Value.int .i64 (k7 : Int)) := (hout80 5 rfl).trans hf18
          exact OpX.val (Value.int .i64 (k7 : Int)) wd78 rfl (op_move e83) (Ext.refl _) ⟨rfl, hr19⟩
        · refine ObX.op rfl fun f84 wd85 he86 hout87 hphi88 => ?_
          have hS89 := St.extend hS20 he86
          obtain ⟨S90, hS91, hf92⟩ := hphi88 4 21 _ rfl rfl rfl
          have e93 : f84 21 = v_b := hf92
          obtain ⟨S94, hS95, hf96⟩ := hphi88 5 22 _ rfl rfl rfl
          obtain ⟨e97, hr98⟩ := hf96
          exact OpX.val (Value.pointer (some (elA v_b ((k7 : Int)).toNat))) wd85 rfl (op_idx sl_22 (Ty.lift _ hS89.ext r_b) e93 e97 ha100 hb101) (Ext.refl _) rfl
        · refine ObX.op rfl fun f103 wd104 he105 hout106 hphi107 => ?_
          have hS108 := St.extend hS20 he105
          obtain ⟨S109, hS110, hf111⟩ := hphi107 6 23 _ rfl rfl rfl
          have e112 : f103 23 = (Value.pointer (some (elA v_b ((k7 : Int)).toNat))) := hf111
          exact OpX.val u113 wd104 rfl (op_load one_54 e112 (Ext.cell hS108.ext hc114)) (Ext.refl _) rfl
        · intro f116 wd117 Ss118 he119 hout120 hSn121 hSd122 hphi123
          show WL _ _ _ _ _ _ _
          have hS124 := St.extend hS20 he119
          have e125 : f116 20 = u67 := hphi123 3 20 _ (by decide) rfl rfl
          have e126 : f116 24 = u113 := hphi123 7 24 _ (by decide) rfl rfl
          have e127 : f116 0 = v_a := (hout120 0 rfl).trans hf16
          have e128 : f116 1 = v_b := (hout120 1 rfl).trans hf17
          have e129 : f116 5 = (Value.int .i64 (k7 : Int)) := (hout120 5 rfl).trans hf18
          obtain ⟨x130, hx131, hb12⟩ := bs hb12
          refine WL.call _ (op_call fn_44 (args2 e125 e126)) (c_laws_eqInt64SS (Ty.lift _ hS124.ext hr69) (Ty.lift _ hS124.ext hr115) hx131) rfl ?_
          rintro _ wd132 ⟨rfl, he133⟩
          have hS135 := St.extend hS124 he133
          replace hS135 : St w wd132 [] := hS135
          refine WL.val (Value.bool (!x130)) _ (op_not rfl) rfl ?_
          refine WL.nil ?_
          refine W.cond (!x130) rfl (fun hc136 => ?_) (fun hc136 => ?_)
          · replace hb12 := ip hb12 hc136
            refine W.seq (W.region ?_)
            refine WL.val (Value.bool false) _ (op_assign rfl) rfl ?_
            refine WL.nil ?_
            refine W.ret ?_
            obtain rfl := Option.some.inj hb12
            obtain rfl := hret15 _ rfl
            replace h := onRes_ret h
            obtain rfl := Option.some.inj h
            show FinP _ _ _ _ _ _ _
            exact FinP.ret _ (res1 rfl rfl) ⟨rfl, hS135.ext⟩
          · replace hb12 := inegb hb12 hc136
            refine W.skip ?_
            show W _ _ _ _ _ _
            refine W.region ?_
            refine WL.val (Value.int .i64 (k7 : Int)) _ (op_move e129) rfl ?_
            refine WL.val (Value.int .i64 (w64 ((k7 : Int) + (1 : Int)))) _ (op_add rfl rfl) rfl ?_
            refine WL.val (Value.int .i64 (w64 ((k7 : Int) + (1 : Int)))) _ (op_assign rfl) rfl ?_
            refine WL.nil ?_
            obtain rfl := Option.some.inj hb12
            show ∃ s, _ = Ctl.next s ∧ _
            exact ⟨_, rfl, e127, e128, (ctr_next hl22 hr21), (ctr_rng hl22 hr21), hS135⟩
      · intro s143 f139 wd140 hs141 hI142
        obtain ⟨⟩ := s143
        replace hI142 : f139 0 = v_a ∧ f139 1 = v_b ∧ f139 5 = Value.int .i64 (((a).length : Nat) : Int) ∧ InR .i64 (((a).length : Nat) : Int) ∧ St w wd140 [] := hI142
        obtain ⟨hf144, hf145, hf146, hr147, hS148⟩ := hI142
        refine W.seq (W.seq (W.region ?_))
        refine WL.val (Value.int .i64 (((a).length : Nat) : Int)) _ (op_move hf146) rfl ?_
        refine WL.val v_a _ (op_move hf144) rfl ?_
        have hr149 := inR_len (Ty.lift _ hS148.ext r_a)
        refine WL.val (Value.int .i64 ((a).length : Int)) _ (op_lenL sl_22 (Ty.lift _ hS148.ext r_a) rfl) rfl ?_
        refine WL.val (Value.bool (decide ((((a).length : Nat) : Int) < ((a).length : Int)))) _ (op_lss rfl rfl) rfl ?_
        have hl150 : ¬ (((a).length : Nat) : Int) < ((a).length : Int) := by omega
        refine WL.nil ?_
        refine W.condF (decide ((((a).length : Nat) : Int) < ((a).length : Int))) rfl (decide_eq_false hl150) ?_
        refine W.exit ?_
        show _ = _ ∧ _
        exact ⟨rfl, _, hs141, hS148⟩
    · rintro f151 wd152 ⟨s154, rfl, hq153⟩
      replace h := onRes_fin h
      obtain ⟨⟩ := s154
      replace hq153 : St w wd152 [] := hq153
      have hS155 := hq153
      refine W.seq (W.region ?_)
      refine WL.val (Value.bool true) _ (op_assign rfl) rfl ?_
      refine WL.nil ?_
      refine W.ret ?_
      obtain rfl := Option.some.inj h
      show FinP _ _ _ _ _ _ _
      exact FinP.ret _ (res1 rfl rfl) ⟨rfl, hS155.ext⟩

theorem c_laws_eqRing {w : World} {a_Table : (List (List (List Int)))} {v_a_Table : Value} {b_Table : (List (List (List Int)))} {v_b_Table : Value} (r_a_Table : (Ty.sl (Ty.sl (Ty.sl (Ty.i .i64)))).rep w v_a_Table a_Table) (r_b_Table : (Ty.sl (Ty.sl (Ty.sl (Ty.i .i64)))).rep w v_b_Table b_Table) {res : Bool} (h : p_laws_eqRing a_Table b_Table  = some res) :
    Ret Try.prog 11 #[(Value.agg #[v_a_Table]), (Value.agg #[v_b_Table])] w (fun v w' => v = Value.bool res ∧ Ext w w') := by
  unfold p_laws_eqRing at h
  have hS0 : St w w [] := St.start w
  refine Ret.start (fn := Try.f11) Try.func11 rfl 11 rfl rfl ?_
  refine W.seq (W.region ?_)
  refine WL.box hS0 rfl (cs := [v_a_Table]) rfl rfl ?_
  intro b1 wd2 hS3 he4 hx5
  replace hS3 : St w wd2 [bx b1 [v_a_Table]] := hS3
  have hx6 := St.boxAt hS3 0 rfl
  have hE7 : Ext w wd2 := hS3.ext
  have hS8 : St wd2 wd2 [] := St.start wd2
  refine WL.box hS8 rfl (cs := [v_b_Table]) rfl rfl ?_
  intro b9 wd10 hS11 he12 hx13
  replace hS11 : St wd2 wd10 [bx b9 [v_b_Table]] := hS11
  have hx14 := St.boxAt hS11 0 rfl
  have hE15 : Ext w wd10 := (Ext.trans hE7 hS11.ext)
  have hE16 : Ext wd2 wd10 := hS11.ext
  have hS17 : St wd10 wd10 [] := St.start wd10
  refine WL.val (Value.bool false) _ (op_assign rfl) rfl ?_
  refine WL.nil ?_
  refine W.seq (W.seq (W.region ?_))
  refine WL.val (Value.pointer (some ⟨b1, 0, none⟩)) _ (op_fieldAddr fd_28_0 rfl) rfl ?_
  refine WL.val v_a_Table _ (op_load one_22 rfl (BoxAt.cell (BoxAt.lift (Ext.trans hE16 hS17.ext) hx6) rfl)) rfl ?_
  refine WL.val (Value.pointer (some ⟨b9, 0, none⟩)) _ (op_fieldAddr fd_28_0 rfl) rfl ?_
  refine WL.val v_b_Table _ (op_load one_22 rfl (BoxAt.cell (BoxAt.lift hS17.ext hx14) rfl)) rfl ?_
  obtain ⟨x18, hx19, h⟩ := bs h
  refine WL.call _ (op_call fn_29 (args2 rfl rfl)) (c_laws_eqInt64SSS (Ty.lift _ (Ext.trans hE15 hS17.ext) r_a_Table) (Ty.lift _ (Ext.trans hE15 hS17.ext) r_b_Table) hx19) rfl ?_
  rintro _ wd20 ⟨rfl, he21⟩
  have hS23 := St.extend hS17 he21
  replace hS23 : St wd10 wd20 [] := hS23
  refine WL.val (Value.bool (!x18)) _ (op_not rfl) rfl ?_
  refine WL.nil ?_
  refine W.cond (!x18) rfl (fun hc24 => ?_) (fun hc24 => ?_)
  · replace h := ip h hc24
    refine W.seq (W.region ?_)
    refine WL.val (Value.bool false) _ (op_assign rfl) rfl ?_
    refine WL.nil ?_
    refine W.ret ?_
    obtain rfl := Option.some.inj h
    show FinP _ _ _ _ _ _ _
    exact FinP.ret _ (res1 rfl rfl) ⟨rfl, (Ext.trans hE15 hS23.ext)⟩
  · replace h := inegb h hc24
    refine W.skip ?_
    refine W.seq (W.region ?_)
    refine WL.val (Value.bool true) _ (op_assign rfl) rfl ?_
    refine WL.nil ?_
    refine W.ret ?_
    obtain rfl := Option.some.inj h
    show FinP _ _ _ _ _ _ _
    exact FinP.ret _ (res1 rfl rfl) ⟨rfl, (Ext.trans hE15 hS23.ext)⟩

theorem c_impl_sumOfProducts {w : World} {a : (List Int)} {v_a : Value} {b : (List Int)} {v_b : Value} (r_a : (Ty.sl (Ty.i .i64)).rep w v_a a) (r_b : (Ty.sl (Ty.i .i64)).rep w v_b b) {res : Int} (h : p_impl_sumOfProducts a b  = some res) :
    Ret Try.prog 30 #[v_a, v_b] w (fun v w' => v = Value.int .i64 res ∧ InR .i64 res ∧ Ext w w') := by
  unfold p_impl_sumOfProducts at h
  have hS0 : St w w [] := St.start w
  refine Ret.start (fn := Try.f30) Try.func30 rfl 25 rfl rfl ?_
  refine W.seq (W.region ?_)
  refine WL.val (Value.int .i64 (0 : Int)) _ (op_assign rfl) rfl ?_
  refine WL.nil ?_
  refine W.seq (W.region ?_)
  refine WL.val (Value.int .i64 (0 : Int)) _ (op_assign rfl) rfl ?_
  refine WL.nil ?_
  refine W.seq (W.seq (W.region ?_))
  refine WL.val v_a _ (op_move rfl) rfl ?_
  have hr1 := inR_len (Ty.lift _ hS0.ext r_a)
  refine WL.val (Value.int .i64 ((a).length : Int)) _ (op_lenL sl_34 (Ty.lift _ hS0.ext r_a) rfl) rfl ?_
  refine WL.val (Value.int .i64 (0 : Int)) _ (op_move rfl) rfl ?_
  refine WL.nil ?_
  show W _ _ _ _ _ _
  obtain ⟨res2, hres3, h⟩ := bs h
  refine W.blockLoop (fun fq wq => ∃ s, res2 = Res.fin s ∧ fq 5 = Value.int .i64 s ∧ InR .i64 s ∧ St w wq []) ?_ ?_
  · refine W.forN (fun k (s : Int) fq wq => fq 0 = v_a ∧ fq 1 = v_b ∧ fq 5 = Value.int .i64 s ∧ InR .i64 s ∧ fq 8 = (Value.int .i64 ((a).length : Int)) ∧ fq 9 = Value.int .i64 (k : Int) ∧ InR .i64 (k : Int) ∧ St w wq []) hres3 ⟨rfl, rfl, rfl, (inL rfl), rfl, rfl, (inL rfl), hS0⟩ ?_ ?_
    · intro k4 x5 ct6 f7 wd8 hk9 hb10 hI11 hbrk12 hret13
      replace hI11 : f7 0 = v_a ∧ f7 1 = v_b ∧ f7 5 = Value.int .i64 x5 ∧ InR .i64 x5 ∧ f7 8 = (Value.int .i64 ((a).length : Int)) ∧ f7 9 = Value.int .i64 (k4 : Int) ∧ InR .i64 (k4 : Int) ∧ St w wd8 [] := hI11
      replace hb10 : p_impl_sumOfProducts_L1 a b k4 x5 = some ct6 := hb10
      unfold p_impl_sumOfProducts_L1 at hb10
      obtain ⟨hf14, hf15, hf16, hr17, hf18, hf19, hr20, hS21⟩ := hI11
      refine W.seq (W.region ?_)
      refine WL.val (Value.bool (decide ((k4 : Int) < ((a).length : Int)))) _ (op_lss hf19 hf18) rfl ?_
      have hl22 : (k4 : Int) < ((a).length : Int) := by omega
      refine WL.nil ?_
      refine W.seq ?_
      refine W.condT (decide ((k4 : Int) < ((a).length : Int))) rfl (decide_eq_true hl22) ?_
      refine W.skip ?_
      refine W.seq ?_
      refine W.block ?_
      refine W.seq (W.region ?_)
      refine WL.val (Value.int .i64 (k4 : Int)) _ (op_move hf19) rfl ?_
      refine WL.val (Value.int .i64 (k4 : Int)) _ (op_assign rfl) rfl ?_
      refine WL.nil ?_
      show W _ _ _ _ _ _
      obtain ⟨x60, hx63, hb10⟩ := bs hb10
      obtain ⟨ha61, hb62, hx63⟩ := idx_some hx63
      obtain ⟨u74, hc75, hr76⟩ := repSl.el r_a hx63
      obtain ⟨rfl, hr76⟩ := hr76
      obtain ⟨x106, hx109, hb10⟩ := bs hb10
      obtain ⟨ha107, hb108, hx109⟩ := idx_some hx109
      obtain ⟨u120, hc121, hr122⟩ := repSl.el r_b hx109
      obtain ⟨rfl, hr122⟩ := hr122
      refine W.drawR mixo 10 [] [fun _ v _ _ => v = (Value.int .i64 x5) ∧ InR .i64 x5, fun _ v _ _ => v = v_a, fun _ v _ _ => v = (Value.int .i64 (k4 : Int)) ∧ InR .i64 (k4 : Int), fun _ v _ _ => v = (Value.pointer (some (elA v_a ((k4 : Int)).toNat))), fun _ v _ _ => v = (Value.int .i64 x60) ∧ InR .i64 x60, fun _ v _ _ => v = v_b, fun _ v _ _ => v = (Value.int .i64 (k4 : Int)) ∧ InR .i64 (k4 : Int), fun _ v _ _ => v = (Value.pointer (some (elA v_b ((k4 : Int)).toNat))), fun _ v _ _ => v = (Value.int .i64 x106) ∧ InR .i64 x106, fun _ v _ _ => v = (Value.int .i64 (w64 (x60 * x106))) ∧ InR .i64 (w64 (x60 * x106))] (by kernel_rfl) (by kernel_rfl) ⟨pk, pk, pk, pk, pk, pk, pk, pk, pk, pk, trivial⟩ ⟨?_, ?_, ?_, ?_, ?_, ?_, ?_, ?_, ?_, ?_, trivial⟩ ?_
      · refine ObX.op rfl fun f24 wd25 he26 hout27 hphi28 => ?_
        have e30 : f24 5 = (Value.int .i64 x5) := (hout27 5 rfl).trans hf16
        exact OpX.val (Value.int .i64 x5) wd25 rfl (op_move e30) (Ext.refl _) ⟨rfl, hr17⟩
      · refine ObX.op rfl fun f31 wd32 he33 hout34 hphi35 => ?_
        have e37 : f31 0 = v_a := (hout34 0 rfl).trans hf14
        exact OpX.val v_a wd32 rfl (op_move e37) (Ext.refl _) rfl
      · refine ObX.op rfl fun f38 wd39 he40 hout41 hphi42 => ?_
        have e44 : f38 6 = (Value.int .i64 (k4 : Int)) := (hout41 6 rfl).trans rfl
        exact OpX.val (Value.int .i64 (k4 : Int)) wd39 rfl (op_move e44) (Ext.refl _) ⟨rfl, hr20⟩
      · refine ObX.op rfl fun f45 wd46 he47 hout48 hphi49 => ?_
        have hS50 := St.extend hS21 he47
        obtain ⟨S51, hS52, hf53⟩ := hphi49 1 13 _ rfl rfl rfl
        have e54 : f45 13 = v_a := hf53
        obtain ⟨S55, hS56, hf57⟩ := hphi49 2 14 _ rfl rfl rfl
        obtain ⟨e58, hr59⟩ := hf57
        exact OpX.val (Value.pointer (some (elA v_a ((k4 : Int)).toNat))) wd46 rfl (op_idx sl_34 (Ty.lift _ hS50.ext r_a) e54 e58 ha61 hb62) (Ext.refl _) rfl
      · refine ObX.op rfl fun f64 wd65 he66 hout67 hphi68 => ?_
        have hS69 := St.extend hS21 he66
        obtain ⟨S70, hS71, hf72⟩ := hphi68 3 15 _ rfl rfl rfl
        have e73 : f64 15 = (Value.pointer (some (elA v_a ((k4 : Int)).toNat))) := hf72
        exact OpX.val (Value.int .i64 x60) wd65 rfl (op_load one_2 e73 (Ext.cell hS69.ext hc75)) (Ext.refl _) ⟨rfl, hr76⟩
      · refine ObX.op rfl fun f77 wd78 he79 hout80 hphi81 => ?_
        have e83 : f77 1 = v_b := (hout80 1 rfl).trans hf15
        exact OpX.val v_b wd78 rfl (op_move e83) (Ext.refl _) rfl
      · refine ObX.op rfl fun f84 wd85 he86 hout87 hphi88 => ?_
        have e90 : f84 6 = (Value.int .i64 (k4 : Int)) := (hout87 6 rfl).trans rfl
        exact OpX.val (Value.int .i64 (k4 : Int)) wd85 rfl (op_move e90) (Ext.refl _) ⟨rfl, hr20⟩
      · refine ObX.op rfl fun f91 wd92 he93 hout94 hphi95 => ?_
        have hS96 := St.extend hS21 he93
        obtain ⟨S97, hS98, hf99⟩ := hphi95 5 17 _ rfl rfl rfl
        have e100 : f91 17 = v_b := hf99
        obtain ⟨S101, hS102, hf103⟩ := hphi95 6 18 _ rfl rfl rfl
        obtain ⟨e104, hr105⟩ := hf103
        exact OpX.val (Value.pointer (some (elA v_b ((k4 : Int)).toNat))) wd92 rfl (op_idx sl_34 (Ty.lift _ hS96.ext r_b) e100 e104 ha107 hb108) (Ext.refl _) rfl
      · refine ObX.op rfl fun f110 wd111 he112 hout113 hphi114 => ?_
        have hS115 := St.extend hS21 he112
        obtain ⟨S116, hS117, hf118⟩ := hphi114 7 19 _ rfl rfl rfl
        have e119 : f110 19 = (Value.pointer (some (elA v_b ((k4 : Int)).toNat))) := hf118
        exact OpX.val (Value.int .i64 x106) wd111 rfl (op_load one_2 e119 (Ext.cell hS115.ext hc121)) (Ext.refl _) ⟨rfl, hr122⟩
      · refine ObX.op rfl fun f123 wd124 he125 hout126 hphi127 => ?_
        obtain ⟨S129, hS130, hf131⟩ := hphi127 4 16 _ rfl rfl rfl
        obtain ⟨e132, hr133⟩ := hf131
        obtain ⟨S134, hS135, hf136⟩ := hphi127 8 20 _ rfl rfl rfl
        obtain ⟨e137, hr138⟩ := hf136
        exact OpX.val (Value.int .i64 (w64 (x60 * x106))) wd124 rfl (op_mul e132 e137) (Ext.refl _) ⟨rfl, (inR_wrap _ _)⟩
      · intro f139 wd140 Ss141 he142 hout143 hSn144 hSd145 hphi146
        show WL _ _ _ _ _ _ _
        have hS147 := St.extend hS21 he142
        obtain ⟨e148, hr149⟩ := hphi146 0 12 _ (by decide) rfl rfl
        obtain ⟨e150, hr151⟩ := hphi146 9 21 _ (by decide) rfl rfl
        have e152 : f139 0 = v_a := (hout143 0 rfl).trans hf14
        have e153 : f139 1 = v_b := (hout143 1 rfl).trans hf15
        have e154 : f139 8 = (Value.int .i64 ((a).length : Int)) := (hout143 8 rfl).trans hf18
        have e155 : f139 9 = (Value.int .i64 (k4 : Int)) := (hout143 9 rfl).trans hf19
        refine WL.val (Value.int .i64 (w64 (x5 + (w64 (x60 * x106))))) _ (op_add e148 e150) rfl ?_
        refine WL.val (Value.int .i64 (w64 (x5 + (w64 (x60 * x106))))) _ (op_assign rfl) rfl ?_
        refine WL.nil ?_
        show W _ _ _ _ _ _
        refine W.region ?_
        refine WL.val (Value.int .i64 (w64 ((k4 : Int) + (1 : Int)))) _ (op_add e155 rfl) rfl ?_
        refine WL.val (Value.int .i64 (w64 ((k4 : Int) + (1 : Int)))) _ (op_move rfl) rfl ?_
        refine WL.nil ?_
        obtain rfl := Option.some.inj hb10
        show ∃ s, _ = Ctl.next s ∧ _
        exact ⟨_, rfl, e152, e153, rfl, (inR_wrap _ _), e154, (ctr_next hl22 hr1), (ctr_rng hl22 hr1), hS147⟩
    · intro x162 f157 wd158 hs159 hI160
      replace hI160 : f157 0 = v_a ∧ f157 1 = v_b ∧ f157 5 = Value.int .i64 x162 ∧ InR .i64 x162 ∧ f157 8 = (Value.int .i64 ((a).length : Int)) ∧ f157 9 = Value.int .i64 (((a).length : Nat) : Int) ∧ InR .i64 (((a).length : Nat) : Int) ∧ St w wd158 [] := hI160
      obtain ⟨hf163, hf164, hf165, hr166, hf167, hf168, hr169, hS170⟩ := hI160
      refine W.seq (W.region ?_)
      refine WL.val (Value.bool (decide ((((a).length : Nat) : Int) < ((a).length : Int)))) _ (op_lss hf168 hf167) rfl ?_
      have hl171 : ¬ (((a).length : Nat) : Int) < ((a).length : Int) := by omega
      refine WL.nil ?_
      refine W.seq ?_
      refine W.condF (decide ((((a).length : Nat) : Int) < ((a).length : Int))) rfl (decide_eq_false hl171) ?_
      refine W.exit ?_
      show _ = _ ∧ _
      exact ⟨rfl, _, hs159, hf165, hr166, hS170⟩
  · rintro f172 wd173 ⟨x176, rfl, hq174⟩
    replace h := onRes_fin h
    replace hq174 : f172 5 = Value.int .i64 x176 ∧ InR .i64 x176 ∧ St w wd173 [] := hq174
    obtain ⟨hf177, hr178, hS179⟩ := hq174
    refine W.seq (W.region ?_)
    refine WL.val (Value.int .i64 x176) _ (op_move hf177) rfl ?_
    refine WL.val (Value.int .i64 x176) _ (op_assign rfl) rfl ?_
    refine WL.nil ?_
    refine W.ret ?_
    obtain rfl := Option.some.inj h
    show FinP _ _ _ _ _ _ _
    exact FinP.ret _ (res1 rfl rfl) ⟨rfl, hr178, hS179.ext⟩

theorem c_spec_l03Vector {w : World} {r_Table : (List (List (List Int)))} {v_r_Table : Value} {x : (List Int)} {v_x : Value} (r_r_Table : (Ty.sl (Ty.sl (Ty.sl (Ty.i .i64)))).rep w v_r_Table r_Table) (r_x : (Ty.sl (Ty.i .i64)).rep w v_x x) {res : Bool} (h : p_spec_l03Vector r_Table x  = some res) :
    Ret Try.prog 31 #[(Value.agg #[v_r_Table]), v_x] w (fun v w' => v = Value.bool res ∧ Ext w w') := by
  unfold p_spec_l03Vector at h
  have hS0 : St w w [] := St.start w
  refine Ret.start (fn := Try.f31) Try.func31 rfl 24 rfl rfl ?_
  refine W.seq (W.region ?_)
  refine WL.box hS0 rfl (cs := [v_r_Table]) rfl rfl ?_
  intro b1 wd2 hS3 he4 hx5
  replace hS3 : St w wd2 [bx b1 [v_r_Table]] := hS3
  have hx6 := St.boxAt hS3 0 rfl
  have hE7 : Ext w wd2 := hS3.ext
  have hS8 : St wd2 wd2 [] := St.start wd2
  refine WL.val (Value.bool false) _ (op_assign rfl) rfl ?_
  refine WL.nil ?_
  refine W.seq (W.seq (W.region ?_))
  refine WL.val (Value.int .i64 (0 : Int)) _ (op_assign rfl) rfl ?_
  refine WL.nil ?_
  show W _ _ _ _ _ _
  obtain ⟨res9, hres10, h⟩ := bs h
  refine W.blockLoop (fun fq wq => ∃ s, res9 = Res.fin s ∧ fq 1 = v_x ∧ fq 2 = (Value.pointer (some ⟨b1, 0, none⟩)) ∧ St wd2 wq []) ?_ ?_
  · refine W.forN (fun k (s : Unit) fq wq => fq 1 = v_x ∧ fq 2 = (Value.pointer (some ⟨b1, 0, none⟩)) ∧ fq 5 = Value.int .i64 (k : Int) ∧ InR .i64 (k : Int) ∧ St wd2 wq []) hres10 ⟨rfl, rfl, rfl, (inL rfl), hS8⟩ ?_ ?_
    · intro k11 s43 ct12 f13 wd14 hk15 hb16 hI17 hbrk18 hret19
      obtain ⟨⟩ := s43
      replace hI17 : f13 1 = v_x ∧ f13 2 = (Value.pointer (some ⟨b1, 0, none⟩)) ∧ f13 5 = Value.int .i64 (k11 : Int) ∧ InR .i64 (k11 : Int) ∧ St wd2 wd14 [] := hI17
      replace hb16 : p_spec_l03Vector_L1 x k11  = some ct12 := hb16
      unfold p_spec_l03Vector_L1 at hb16
      obtain ⟨hf20, hf21, hf22, hr23, hS24⟩ := hI17
      refine W.seq (W.seq (W.region ?_))
      refine WL.val (Value.int .i64 (k11 : Int)) _ (op_move hf22) rfl ?_
      refine WL.val v_x _ (op_move hf20) rfl ?_
      have hr25 := inR_len (Ty.lift _ (Ext.trans hE7 hS24.ext) r_x)
      refine WL.val (Value.int .i64 ((x).length : Int)) _ (op_lenL sl_34 (Ty.lift _ (Ext.trans hE7 hS24.ext) r_x) rfl) rfl ?_
      refine WL.val (Value.bool (decide ((k11 : Int) < ((x).length : Int)))) _ (op_lss rfl rfl) rfl ?_
      have hl26 : (k11 : Int) < ((x).length : Int) := by omega
      refine WL.nil ?_
      refine W.condT (decide ((k11 : Int) < ((x).length : Int))) rfl (decide_eq_true hl26) ?_
      refine W.skip ?_
      refine W.seq ?_
      refine W.block ?_
      refine W.seq (W.region ?_)
      refine WL.val v_x _ (op_move hf20) rfl ?_
      refine WL.val (Value.int .i64 (k11 : Int)) _ (op_move hf22) rfl ?_
      obtain ⟨x28, hx31, hb16⟩ := bs hb16
      obtain ⟨ha29, hb30, hx31⟩ := idx_some hx31
      refine WL.val (Value.pointer (some (elA v_x ((k11 : Int)).toNat))) _ (op_idx sl_34 (Ty.lift _ (Ext.trans hE7 hS24.ext) r_x) rfl rfl ha29 hb30) rfl ?_
      obtain ⟨u32, hc33, hr34⟩ := repSl.el r_x hx31
      obtain ⟨rfl, hr34⟩ := hr34
      refine WL.val (Value.int .i64 x28) _ (op_load one_2 rfl (Ext.cell (Ext.trans hE7 hS24.ext) hc33)) rfl ?_
      obtain ⟨x35, hx36, hb16⟩ := bs hb16
      refine WL.call _ (op_call fn_45 (args3 rfl rfl rfl)) (c_spec_l01In hr34 (inL rfl) (inL rfl) hx36) rfl ?_
      rintro _ wd37 ⟨rfl, he38⟩
      have hS40 := St.extend hS24 he38
      replace hS40 : St wd2 wd37 [] := hS40
      refine WL.val (Value.bool (!x35)) _ (op_not rfl) rfl ?_
      refine WL.nil ?_
      refine W.cond (!x35) rfl (fun hc41 => ?_) (fun hc41 => ?_)
      · replace hb16 := ip hb16 hc41
        refine W.seq (W.region ?_)
        refine WL.val (Value.bool false) _ (op_assign rfl) rfl ?_
        refine WL.nil ?_
        refine W.ret ?_
        obtain rfl := Option.some.inj hb16
        obtain rfl := hret19 _ rfl
        replace h := onRes_ret h
        obtain rfl := Option.some.inj h
        show FinP _ _ _ _ _ _ _
        exact FinP.ret _ (res1 rfl rfl) ⟨rfl, (Ext.trans hE7 hS40.ext)⟩
      · replace hb16 := inegb hb16 hc41
        refine W.skip ?_
        show W _ _ _ _ _ _
        refine W.region ?_
        refine WL.val (Value.int .i64 (k11 : Int)) _ (op_move hf22) rfl ?_
        refine WL.val (Value.int .i64 (w64 ((k11 : Int) + (1 : Int)))) _ (op_add rfl rfl) rfl ?_
        refine WL.val (Value.int .i64 (w64 ((k11 : Int) + (1 : Int)))) _ (op_assign rfl) rfl ?_
        refine WL.nil ?_
        obtain rfl := Option.some.inj hb16
        show ∃ s, _ = Ctl.next s ∧ _
        exact ⟨_, rfl, hf20, hf21, (ctr_next hl26 hr25), (ctr_rng hl26 hr25), hS40⟩
    · intro s48 f44 wd45 hs46 hI47
      obtain ⟨⟩ := s48
      replace hI47 : f44 1 = v_x ∧ f44 2 = (Value.pointer (some ⟨b1, 0, none⟩)) ∧ f44 5 = Value.int .i64 (((x).length : Nat) : Int) ∧ InR .i64 (((x).length : Nat) : Int) ∧ St wd2 wd45 [] := hI47
      obtain ⟨hf49, hf50, hf51, hr52, hS53⟩ := hI47
      refine W.seq (W.seq (W.region ?_))
      refine WL.val (Value.int .i64 (((x).length : Nat) : Int)) _ (op_move hf51) rfl ?_
      refine WL.val v_x _ (op_move hf49) rfl ?_
      have hr54 := inR_len (Ty.lift _ (Ext.trans hE7 hS53.ext) r_x)
      refine WL.val (Value.int .i64 ((x).length : Int)) _ (op_lenL sl_34 (Ty.lift _ (Ext.trans hE7 hS53.ext) r_x) rfl) rfl ?_
      refine WL.val (Value.bool (decide ((((x).length : Nat) : Int) < ((x).length : Int)))) _ (op_lss rfl rfl) rfl ?_
      have hl55 : ¬ (((x).length : Nat) : Int) < ((x).length : Int) := by omega
      refine WL.nil ?_
      refine W.condF (decide ((((x).length : Nat) : Int) < ((x).length : Int))) rfl (decide_eq_false hl55) ?_
      refine W.exit ?_
      show _ = _ ∧ _
      exact ⟨rfl, _, hs46, hf49, hf50, hS53⟩
  · rintro f56 wd57 ⟨s59, rfl, hq58⟩
    replace h := onRes_fin h
    obtain ⟨⟩ := s59
    replace hq58 : f56 1 = v_x ∧ f56 2 = (Value.pointer (some ⟨b1, 0, none⟩)) ∧ St wd2 wd57 [] := hq58
    obtain ⟨hf60, hf61, hS62⟩ := hq58
    refine W.seq (W.region ?_)
    refine WL.val v_x _ (op_move hf60) rfl ?_
    have hr63 := inR_len (Ty.lift _ (Ext.trans hE7 hS62.ext) r_x)
    refine WL.val (Value.int .i64 ((x).length : Int)) _ (op_lenL sl_34 (Ty.lift _ (Ext.trans hE7 hS62.ext) r_x) rfl) rfl ?_
    refine WL.val (Value.pointer (some ⟨b1, 0, none⟩)) _ (op_fieldAddr fd_28_0 hf61) rfl ?_
    refine WL.val v_r_Table _ (op_load one_22 rfl (BoxAt.cell (BoxAt.lift hS62.ext hx6) rfl)) rfl ?_
    have hr64 := inR_len (Ty.lift _ (Ext.trans hE7 hS62.ext) r_r_Table)
    refine WL.val (Value.int .i64 ((r_Table).length : Int)) _ (op_lenL sl_22 (Ty.lift _ (Ext.trans hE7 hS62.ext) r_r_Table) rfl) rfl ?_
    refine WL.val (Value.bool (((x).length : Int) == ((r_Table).length : Int))) _ (op_eql rfl rfl) rfl ?_
    refine WL.val (Value.bool (((x).length : Int) == ((r_Table).length : Int))) _ (op_assign rfl) rfl ?_
    refine WL.nil ?_
    refine W.ret ?_
    obtain rfl := Option.some.inj h
    show FinP _ _ _ _ _ _ _
    exact FinP.ret _ (res1 rfl rfl) ⟨rfl, (Ext.trans hE7 hS62.ext)⟩

theorem c_spec_DimensionOfVector {w : World} {r_Table : (List (List (List Int)))} {v_r_Table : Value} {x : (List Int)} {v_x : Value} (r_r_Table : (Ty.sl (Ty.sl (Ty.sl (Ty.i .i64)))).rep w v_r_Table r_Table) (r_x : (Ty.sl (Ty.i .i64)).rep w v_x x) {res : Int × Int} (h : p_spec_DimensionOfVector r_Table x  = some res) :
    Ret Try.prog 14 #[(Value.agg #[v_r_Table]), v_x] w (fun v w' => v = (Value.tuple #[Value.int .i64 res.1, Value.int .i64 res.2]) ∧ InR .i64 res.1 ∧ InR .i64 res.2 ∧ Ext w w') := by
  unfold p_spec_DimensionOfVector at h
  have hS0 : St w w [] := St.start w
  refine Ret.start (fn := Try.f14) Try.func14 rfl 44 rfl rfl ?_
  refine W.seq (W.region ?_)
  refine WL.box hS0 rfl (cs := [v_r_Table]) rfl rfl ?_
  intro b1 wd2 hS3 he4 hx5
  replace hS3 : St w wd2 [bx b1 [v_r_Table]] := hS3
  have hx6 := St.boxAt hS3 0 rfl
  have hE7 : Ext w wd2 := hS3.ext
  have hS8 : St wd2 wd2 [] := St.start wd2
  refine WL.val (Value.int .i64 (0 : Int)) _ (op_assign rfl) rfl ?_
  refine WL.val (Value.int .i64 (0 : Int)) _ (op_assign rfl) rfl ?_
  refine WL.nil ?_
  refine W.seq ?_
  refine W.block ?_
  refine W.seq (W.region ?_)
  refine WL.val (Value.agg #[v_r_Table]) _ (op_loadBox st_28 rfl (BoxAt.lift hS8.ext hx6) rfl rfl) rfl ?_
  obtain ⟨x9, hx10, h⟩ := bs h
  refine WL.call _ (op_call fn_24 (args1 rfl)) (c_spec_l03Is (Ty.lift _ (Ext.trans hE7 hS8.ext) r_r_Table) hx10) rfl ?_
  rintro _ wd11 ⟨rfl, he12⟩
  have hS14 := St.extend hS8 he12
  replace hS14 : St wd2 wd11 [] := hS14
  refine WL.val (Value.bool (!x9)) _ (op_not rfl) rfl ?_
  refine WL.val (Value.bool (!x9)) _ (op_assign rfl) rfl ?_
  refine WL.nil ?_
  refine W.cond (!x9) rfl (fun hc15 => ?_) (fun hc15 => ?_)
  · replace h := ip h hc15
    refine W.seq (W.region ?_)
    refine WL.val (Value.int .i64 (0 : Int)) _ (op_assign rfl) rfl ?_
    refine WL.val (Value.int .i64 (1 : Int)) _ (op_assign rfl) rfl ?_
    refine WL.nil ?_
    refine W.ret ?_
    obtain rfl := Option.some.inj h
    show FinP _ _ _ _ _ _ _
    exact FinP.ret _ (res2 rfl rfl rfl) ⟨rfl, (inL rfl), (inL rfl), (Ext.trans hE7 hS14.ext)⟩
  · replace h := inegb h hc15
    refine W.seq (W.region ?_)
    refine WL.val (Value.agg #[v_r_Table]) _ (op_loadBox st_28 rfl (BoxAt.lift hS14.ext hx6) rfl rfl) rfl ?_
    refine WL.val v_x _ (op_move rfl) rfl ?_
    obtain ⟨x17, hx18, h⟩ := bs h
    refine WL.call _ (op_call fn_31 (args2 rfl rfl)) (c_spec_l03Vector (Ty.lift _ (Ext.trans hE7 hS14.ext) r_r_Table) (Ty.lift _ (Ext.trans hE7 hS14.ext) r_x) hx18) rfl ?_
    rintro _ wd19 ⟨rfl, he20⟩
    have hS22 := St.extend hS14 he20
    replace hS22 : St wd2 wd19 [] := hS22
    refine WL.val (Value.bool (!x17)) _ (op_not rfl) rfl ?_
    refine WL.val (Value.bool (!x17)) _ (op_assign rfl) rfl ?_
    refine WL.nil ?_
    refine W.cond (!x17) rfl (fun hc23 => ?_) (fun hc23 => ?_)
    · replace h := ip h hc23
      refine W.seq (W.region ?_)
      refine WL.val (Value.int .i64 (0 : Int)) _ (op_assign rfl) rfl ?_
      refine WL.val (Value.int .i64 (2 : Int)) _ (op_assign rfl) rfl ?_
      refine WL.nil ?_
      refine W.ret ?_
      obtain rfl := Option.some.inj h
      show FinP _ _ _ _ _ _ _
      exact FinP.ret _ (res2 rfl rfl rfl) ⟨rfl, (inL rfl), (inL rfl), (Ext.trans hE7 hS22.ext)⟩
    · replace h := inegb h hc23
      refine W.skip ?_
      refine W.seq (W.region ?_)
      refine WL.val (Value.agg #[v_r_Table]) _ (op_loadBox st_28 rfl (BoxAt.lift hS22.ext hx6) rfl rfl) rfl ?_
      obtain ⟨x25, hx26, h⟩ := bs h
      refine WL.call _ (op_call fn_25 (args1 rfl)) (c_spec_l04Integers (Ty.lift _ (Ext.trans hE7 hS22.ext) r_r_Table) hx26) rfl ?_
      rintro _ wd28 ⟨u27, rfl, he29, hs30⟩
      have hS31 := St.join hS22 he29 hs30
      replace hS31 : St wd2 wd28 [(Ty.sl (Ty.i .i64)).at u27 x25.1] := hS31
      have hb32 := St.rep (t := (Ty.sl (Ty.i .i64))) hS31 0 rfl
      have hE33 : Ext w wd28 := (Ext.trans hE7 hS31.ext)
      have hE34 : Ext wd2 wd28 := hS31.ext
      have hS35 : St wd28 wd28 [] := St.start wd28
      refine WL.val (Value.tuple #[u27, (Value.bool x25.2)]) _ (op_move rfl) rfl ?_
      refine WL.val u27 _ (op_extract rfl rfl) rfl ?_
      refine WL.val (Value.bool x25.2) _ (op_extract rfl rfl) rfl ?_
      refine WL.val u27 _ (op_assign rfl) rfl ?_
      refine WL.val (Value.bool x25.2) _ (op_assign rfl) rfl ?_
      refine WL.nil ?_
      refine W.seq (W.seq (W.region ?_))
      refine WL.val (Value.bool x25.2) _ (op_move rfl) rfl ?_
      refine WL.val (Value.bool (!x25.2)) _ (op_not rfl) rfl ?_
      refine WL.nil ?_
      refine W.cond (!x25.2) rfl (fun hc36 => ?_) (fun hc36 => ?_)
      · replace h := ip h hc36
        refine W.seq (W.region ?_)
        refine WL.val (Value.int .i64 (0 : Int)) _ (op_assign rfl) rfl ?_
        refine WL.val (Value.int .i64 (4 : Int)) _ (op_assign rfl) rfl ?_
        refine WL.nil ?_
        refine W.ret ?_
        obtain rfl := Option.some.inj h
        show FinP _ _ _ _ _ _ _
        exact FinP.ret _ (res2 rfl rfl rfl) ⟨rfl, (inL rfl), (inL rfl), (Ext.trans hE33 hS35.ext)⟩
      · replace h := inegb h hc36
        refine W.skip ?_
        refine W.seq (W.region ?_)
        refine WL.val (Value.int .i64 (0 : Int)) _ (op_assign rfl) rfl ?_
        refine WL.nil ?_
        refine W.seq (W.seq (W.region ?_))
        refine WL.val (Value.int .i64 (0 : Int)) _ (op_assign rfl) rfl ?_
        refine WL.nil ?_
        show W _ _ _ _ _ _
        obtain ⟨res38, hres39, h⟩ := bs h
        refine W.blockLoop (fun fq wq => ∃ s, res38 = Res.fin s ∧ fq 8 = Value.int .i64 s ∧ InR .i64 s ∧ St wd28 wq []) ?_ ?_
        · refine W.forN (fun k (s : Int) fq wq => fq 1 = v_x ∧ fq 6 = u27 ∧ fq 8 = Value.int .i64 s ∧ InR .i64 s ∧ fq 9 = Value.int .i64 (k : Int) ∧ InR .i64 (k : Int) ∧ St wd28 wq []) hres39 ⟨rfl, rfl, rfl, (inL rfl), rfl, (inL rfl), hS35⟩ ?_ ?_
          · intro k40 x41 ct42 f43 wd44 hk45 hb46 hI47 hbrk48 hret49
            replace hI47 : f43 1 = v_x ∧ f43 6 = u27 ∧ f43 8 = Value.int .i64 x41 ∧ InR .i64 x41 ∧ f43 9 = Value.int .i64 (k40 : Int) ∧ InR .i64 (k40 : Int) ∧ St wd28 wd44 [] := hI47
            replace hb46 : p_spec_DimensionOfVector_L1 x25 x k40 x41 = some ct42 := hb46
            unfold p_spec_DimensionOfVector_L1 at hb46
            obtain ⟨hf50, hf51, hf52, hr53, hf54, hr55, hS56⟩ := hI47
            refine W.seq (W.seq (W.region ?_))
            refine WL.val (Value.int .i64 (k40 : Int)) _ (op_move hf54) rfl ?_
            refine WL.val u27 _ (op_move hf51) rfl ?_
            have hr57 := inR_len (Ty.lift _ hS56.ext hb32)
            refine WL.val (Value.int .i64 ((x25.1).length : Int)) _ (op_lenL sl_34 (Ty.lift _ hS56.ext hb32) rfl) rfl ?_
            refine WL.val (Value.bool (decide ((k40 : Int) < ((x25.1).length : Int)))) _ (op_lss rfl rfl) rfl ?_
            have hl58 : (k40 : Int) < ((x25.1).length : Int) := by omega
            refine WL.nil ?_
            refine W.condT (decide ((k40 : Int) < ((x25.1).length : Int))) rfl (decide_eq_true hl58) ?_
            refine W.skip ?_
            refine W.seq ?_
            refine W.block ?_
            obtain ⟨x96, hx99, hb46⟩ := bs hb46
            obtain ⟨ha97, hb98, hx99⟩ := idx_some hx99
            obtain ⟨u110, hc111, hr112⟩ := repSl.el hb32 hx99
            obtain ⟨rfl, hr112⟩ := hr112
            obtain ⟨x142, hx145, hb46⟩ := bs hb46
            obtain ⟨ha143, hb144, hx145⟩ := idx_some hx145
            obtain ⟨u156, hc157, hr158⟩ := repSl.el r_x hx145
            obtain ⟨rfl, hr158⟩ := hr158
            refine W.drawR mixo 10 [] [fun _ v _ _ => v = (Value.int .i64 x41) ∧ InR .i64 x41, fun _ v _ _ => v = u27, fun _ v _ _ => v = (Value.int .i64 (k40 : Int)) ∧ InR .i64 (k40 : Int), fun _ v _ _ => v = (Value.pointer (some (elA u27 ((k40 : Int)).toNat))), fun _ v _ _ => v = (Value.int .i64 x96) ∧ InR .i64 x96, fun _ v _ _ => v = v_x, fun _ v _ _ => v = (Value.int .i64 (k40 : Int)) ∧ InR .i64 (k40 : Int), fun _ v _ _ => v = (Value.pointer (some (elA v_x ((k40 : Int)).toNat))), fun _ v _ _ => v = (Value.int .i64 x142) ∧ InR .i64 x142, fun _ v _ _ => v = (Value.int .i64 (w64 (x96 * x142))) ∧ InR .i64 (w64 (x96 * x142))] (by kernel_rfl) (by kernel_rfl) ⟨pk, pk, pk, pk, pk, pk, pk, pk, pk, pk, trivial⟩ ⟨?_, ?_, ?_, ?_, ?_, ?_, ?_, ?_, ?_, ?_, trivial⟩ ?_
            · refine ObX.op rfl fun f60 wd61 he62 hout63 hphi64 => ?_
              have e66 : f60 8 = (Value.int .i64 x41) := (hout63 8 rfl).trans hf52
              exact OpX.val (Value.int .i64 x41) wd61 rfl (op_move e66) (Ext.refl _) ⟨rfl, hr53⟩
            · refine ObX.op rfl fun f67 wd68 he69 hout70 hphi71 => ?_
              have e73 : f67 6 = u27 := (hout70 6 rfl).trans hf51
              exact OpX.val u27 wd68 rfl (op_move e73) (Ext.refl _) rfl
            · refine ObX.op rfl fun f74 wd75 he76 hout77 hphi78 => ?_
              have e80 : f74 9 = (Value.int .i64 (k40 : Int)) := (hout77 9 rfl).trans hf54
              exact OpX.val (Value.int .i64 (k40 : Int)) wd75 rfl (op_move e80) (Ext.refl _) ⟨rfl, hr55⟩
            · refine ObX.op rfl fun f81 wd82 he83 hout84 hphi85 => ?_
              have hS86 := St.extend hS56 he83
              obtain ⟨S87, hS88, hf89⟩ := hphi85 1 33 _ rfl rfl rfl
              have e90 : f81 33 = u27 := hf89
              obtain ⟨S91, hS92, hf93⟩ := hphi85 2 34 _ rfl rfl rfl
              obtain ⟨e94, hr95⟩ := hf93
              exact OpX.val (Value.pointer (some (elA u27 ((k40 : Int)).toNat))) wd82 rfl (op_idx sl_34 (Ty.lift _ hS86.ext hb32) e90 e94 ha97 hb98) (Ext.refl _) rfl
            · refine ObX.op rfl fun f100 wd101 he102 hout103 hphi104 => ?_
              have hS105 := St.extend hS56 he102
              obtain ⟨S106, hS107, hf108⟩ := hphi104 3 35 _ rfl rfl rfl
              have e109 : f100 35 = (Value.pointer (some (elA u27 ((k40 : Int)).toNat))) := hf108
              exact OpX.val (Value.int .i64 x96) wd101 rfl (op_load one_2 e109 (Ext.cell hS105.ext hc111)) (Ext.refl _) ⟨rfl, hr112⟩
            · refine ObX.op rfl fun f113 wd114 he115 hout116 hphi117 => ?_
              have e119 : f113 1 = v_x := (hout116 1 rfl).trans hf50
              exact OpX.val v_x wd114 rfl (op_move e119) (Ext.refl _) rfl
            · refine ObX.op rfl fun f120 wd121 he122 hout123 hphi124 => ?_
              have e126 : f120 9 = (Value.int .i64 (k40 : Int)) := (hout123 9 rfl).trans hf54
              exact OpX.val (Value.int .i64 (k40 : Int)) wd121 rfl (op_move e126) (Ext.refl _) ⟨rfl, hr55⟩
            · refine ObX.op rfl fun f127 wd128 he129 hout130 hphi131 => ?_
              have hS132 := St.extend hS56 he129
              obtain ⟨S133, hS134, hf135⟩ := hphi131 5 37 _ rfl rfl rfl
              have e136 : f127 37 = v_x := hf135
              obtain ⟨S137, hS138, hf139⟩ := hphi131 6 38 _ rfl rfl rfl
              obtain ⟨e140, hr141⟩ := hf139
              exact OpX.val (Value.pointer (some (elA v_x ((k40 : Int)).toNat))) wd128 rfl (op_idx sl_34 (Ty.lift _ (Ext.trans hE33 hS132.ext) r_x) e136 e140 ha143 hb144) (Ext.refl _) rfl
            · refine ObX.op rfl fun f146 wd147 he148 hout149 hphi150 => ?_
              have hS151 := St.extend hS56 he148
              obtain ⟨S152, hS153, hf154⟩ := hphi150 7 39 _ rfl rfl rfl
              have e155 : f146 39 = (Value.pointer (some (elA v_x ((k40 : Int)).toNat))) := hf154
              exact OpX.val (Value.int .i64 x142) wd147 rfl (op_load one_2 e155 (Ext.cell (Ext.trans hE33 hS151.ext) hc157)) (Ext.refl _) ⟨rfl, hr158⟩
            · refine ObX.op rfl fun f159 wd160 he161 hout162 hphi163 => ?_
              obtain ⟨S165, hS166, hf167⟩ := hphi163 4 36 _ rfl rfl rfl
              obtain ⟨e168, hr169⟩ := hf167
              obtain ⟨S170, hS171, hf172⟩ := hphi163 8 40 _ rfl rfl rfl
              obtain ⟨e173, hr174⟩ := hf172
              exact OpX.val (Value.int .i64 (w64 (x96 * x142))) wd160 rfl (op_mul e168 e173) (Ext.refl _) ⟨rfl, (inR_wrap _ _)⟩
            · intro f175 wd176 Ss177 he178 hout179 hSn180 hSd181 hphi182
              show WL _ _ _ _ _ _ _
              have hS183 := St.extend hS56 he178
              obtain ⟨e184, hr185⟩ := hphi182 0 32 _ (by decide) rfl rfl
              obtain ⟨e186, hr187⟩ := hphi182 9 41 _ (by decide) rfl rfl
              have e188 : f175 1 = v_x := (hout179 1 rfl).trans hf50
              have e189 : f175 6 = u27 := (hout179 6 rfl).trans hf51
              have e190 : f175 9 = (Value.int .i64 (k40 : Int)) := (hout179 9 rfl).trans hf54
              refine WL.val (Value.int .i64 (w64 (x41 + (w64 (x96 * x142))))) _ (op_add e184 e186) rfl ?_
              refine WL.val (Value.int .i64 (w64 (x41 + (w64 (x96 * x142))))) _ (op_assign rfl) rfl ?_
              refine WL.nil ?_
              show W _ _ _ _ _ _
              refine W.region ?_
              refine WL.val (Value.int .i64 (k40 : Int)) _ (op_move e190) rfl ?_
              refine WL.val (Value.int .i64 (w64 ((k40 : Int) + (1 : Int)))) _ (op_add rfl rfl) rfl ?_
              refine WL.val (Value.int .i64 (w64 ((k40 : Int) + (1 : Int)))) _ (op_assign rfl) rfl ?_
              refine WL.nil ?_
              obtain rfl := Option.some.inj hb46
              show ∃ s, _ = Ctl.next s ∧ _
              exact ⟨_, rfl, e188, e189, rfl, (inR_wrap _ _), (ctr_next hl58 hr57), (ctr_rng hl58 hr57), hS183⟩
          · intro x197 f192 wd193 hs194 hI195
            replace hI195 : f192 1 = v_x ∧ f192 6 = u27 ∧ f192 8 = Value.int .i64 x197 ∧ InR .i64 x197 ∧ f192 9 = Value.int .i64 (((x25.1).length : Nat) : Int) ∧ InR .i64 (((x25.1).length : Nat) : Int) ∧ St wd28 wd193 [] := hI195
            obtain ⟨hf198, hf199, hf200, hr201, hf202, hr203, hS204⟩ := hI195
            refine W.seq (W.seq (W.region ?_))
            refine WL.val (Value.int .i64 (((x25.1).length : Nat) : Int)) _ (op_move hf202) rfl ?_
            refine WL.val u27 _ (op_move hf199) rfl ?_
            have hr205 := inR_len (Ty.lift _ hS204.ext hb32)
            refine WL.val (Value.int .i64 ((x25.1).length : Int)) _ (op_lenL sl_34 (Ty.lift _ hS204.ext hb32) rfl) rfl ?_
            refine WL.val (Value.bool (decide ((((x25.1).length : Nat) : Int) < ((x25.1).length : Int)))) _ (op_lss rfl rfl) rfl ?_
            have hl206 : ¬ (((x25.1).length : Nat) : Int) < ((x25.1).length : Int) := by omega
            refine WL.nil ?_
            refine W.condF (decide ((((x25.1).length : Nat) : Int) < ((x25.1).length : Int))) rfl (decide_eq_false hl206) ?_
            refine W.exit ?_
            show _ = _ ∧ _
            exact ⟨rfl, _, hs194, hf200, hr201, hS204⟩
        · rintro f207 wd208 ⟨x211, rfl, hq209⟩
          replace h := onRes_fin h
          replace hq209 : f207 8 = Value.int .i64 x211 ∧ InR .i64 x211 ∧ St wd28 wd208 [] := hq209
          obtain ⟨hf212, hr213, hS214⟩ := hq209
          refine W.seq (W.region ?_)
          refine WL.val (Value.int .i64 x211) _ (op_move hf212) rfl ?_
          refine WL.val (Value.int .i64 x211) _ (op_assign rfl) rfl ?_
          refine WL.val (Value.int .i64 (0 : Int)) _ (op_assign rfl) rfl ?_
          refine WL.nil ?_
          refine W.ret ?_
          obtain rfl := Option.some.inj h
          show FinP _ _ _ _ _ _ _
          exact FinP.ret _ (res2 rfl rfl rfl) ⟨rfl, hr213, (inL rfl), (Ext.trans hE33 hS214.ext)⟩

theorem c_impl_Ring_isVector {w : World} {r_Table : (List (List (List Int)))} {v_r_Table : Value} {x : (List Int)} {v_x : Value} (r_r_Table : (Ty.sl (Ty.sl (Ty.sl (Ty.i .i64)))).rep w v_r_Table r_Table) (r_x : (Ty.sl (Ty.i .i64)).rep w v_x x) {res : Bool} (h : p_impl_Ring_isVector r_Table x  = some res) :
    Ret Try.prog 32 #[(Value.agg #[v_r_Table]), v_x] w (fun v w' => v = Value.bool res ∧ Ext w w') := by
  unfold p_impl_Ring_isVector at h
  have hS0 : St w w [] := St.start w
  refine Ret.start (fn := Try.f32) Try.func32 rfl 15 rfl rfl ?_
  refine W.seq (W.region ?_)
  refine WL.box hS0 rfl (cs := [v_r_Table]) rfl rfl ?_
  intro b1 wd2 hS3 he4 hx5
  replace hS3 : St w wd2 [bx b1 [v_r_Table]] := hS3
  have hx6 := St.boxAt hS3 0 rfl
  have hE7 : Ext w wd2 := hS3.ext
  have hS8 : St wd2 wd2 [] := St.start wd2
  refine WL.val (Value.bool false) _ (op_assign rfl) rfl ?_
  refine WL.nil ?_
  refine W.seq (W.region ?_)
  refine WL.val v_x _ (op_move rfl) rfl ?_
  have hr9 := inR_len (Ty.lift _ (Ext.trans hE7 hS8.ext) r_x)
  refine WL.val (Value.int .i64 ((x).length : Int)) _ (op_lenL sl_34 (Ty.lift _ (Ext.trans hE7 hS8.ext) r_x) rfl) rfl ?_
  refine WL.val (Value.pointer (some ⟨b1, 0, none⟩)) _ (op_fieldAddr fd_28_0 rfl) rfl ?_
  refine WL.val v_r_Table _ (op_load one_22 rfl (BoxAt.cell (BoxAt.lift hS8.ext hx6) rfl)) rfl ?_
  have hr10 := inR_len (Ty.lift _ (Ext.trans hE7 hS8.ext) r_r_Table)
  refine WL.val (Value.int .i64 ((r_Table).length : Int)) _ (op_lenL sl_22 (Ty.lift _ (Ext.trans hE7 hS8.ext) r_r_Table) rfl) rfl ?_
  refine WL.val (Value.bool (((x).length : Int) == ((r_Table).length : Int))) _ (op_eql rfl rfl) rfl ?_
  refine WL.val (Value.bool (((x).length : Int) == ((r_Table).length : Int))) _ (op_move rfl) rfl ?_
  obtain ⟨x12, hj13, h⟩ := bs h
  refine WL.cut 3 (fun fq wq => fq 14 = Value.bool x12 ∧ St wd2 wq []) ?_ ?_
  · rcases Bool.eq_false_or_eq_true (((x).length : Int) == ((r_Table).length : Int)) with hc11 | hc11
    · replace hj13 := ip hj13 hc11
      refine WL.grun rfl (bool_of rfl hc11) ?_
      refine WL.val v_x _ (op_move rfl) rfl ?_
      refine WL.grun rfl (bool_of rfl hc11) ?_
      obtain ⟨x17, hx18, hj13⟩ := bs hj13
      refine WL.call _ (op_call fn_46 (args3 rfl rfl rfl)) (c_impl_allWithin (Ty.lift _ (Ext.trans hE7 hS8.ext) r_x) (inL rfl) (inL rfl) hx18) rfl ?_
      rintro _ wd19 ⟨rfl, he20⟩
      have hS22 := St.extend hS8 he20
      replace hS22 : St wd2 wd19 [] := hS22
      refine WL.val (Value.bool x17) _ (op_pick_t (evb_of rfl hc11) rfl) rfl ?_
      refine WL.nil ?_
      obtain rfl := Option.some.inj hj13
      exact ⟨rfl, rfl, hS22⟩
    · replace hj13 := inegb hj13 hc11
      refine WL.gskip rfl (bool_of rfl hc11) rfl ?_
      refine WL.gskip rfl (bool_of rfl hc11) rfl ?_
      refine WL.val (Value.bool false) _ (op_pick_f (evb_of rfl hc11) rfl) rfl ?_
      refine WL.nil ?_
      obtain rfl := Option.some.inj hj13
      exact ⟨rfl, rfl, hS8⟩
  · intro f14 wd15 hq16
    obtain ⟨hf23, hS24⟩ := hq16
    refine WL.val (Value.bool x12) _ (op_assign hf23) rfl ?_
    refine WL.nil ?_
    refine W.ret ?_
    obtain rfl := Option.some.inj h
    show FinP _ _ _ _ _ _ _
    exact FinP.ret _ (res1 rfl rfl) ⟨rfl, (Ext.trans hE7 hS24.ext)⟩

theorem c_impl_DimensionOfVector {w : World} {r_Table : (List (List (List Int)))} {v_r_Table : Value} {x : (List Int)} {v_x : Value} (r_r_Table : (Ty.sl (Ty.sl (Ty.sl (Ty.i .i64)))).rep w v_r_Table r_Table) (r_x : (Ty.sl (Ty.i .i64)).rep w v_x x) {res : Int × Int} (h : p_impl_DimensionOfVector r_Table x  = some res) :
    Ret Try.prog 16 #[(Value.agg #[v_r_Table]), v_x] w (fun v w' => v = (Value.tuple #[Value.int .i64 res.1, Value.int .i64 res.2]) ∧ InR .i64 res.1 ∧ InR .i64 res.2 ∧ Ext w w') := by
  unfold p_impl_DimensionOfVector at h
  have hS0 : St w w [] := St.start w
  refine Ret.start (fn := Try.f16) Try.func16 rfl 21 rfl rfl ?_
  refine W.seq (W.region ?_)
  refine WL.box hS0 rfl (cs := [v_r_Table]) rfl rfl ?_
  intro b1 wd2 hS3 he4 hx5
  replace hS3 : St w wd2 [bx b1 [v_r_Table]] := hS3
  have hx6 := St.boxAt hS3 0 rfl
  have hE7 : Ext w wd2 := hS3.ext
  have hS8 : St wd2 wd2 [] := St.start wd2
  refine WL.val (Value.int .i64 (0 : Int)) _ (op_assign rfl) rfl ?_
  refine WL.val (Value.int .i64 (0 : Int)) _ (op_assign rfl) rfl ?_
  refine WL.nil ?_
  refine W.seq (W.seq (W.region ?_))
  refine WL.val (Value.agg #[v_r_Table]) _ (op_loadBox st_28 rfl (BoxAt.lift hS8.ext hx6) rfl rfl) rfl ?_
  obtain ⟨x9, hx10, h⟩ := bs h
  refine WL.call _ (op_call fn_27 (args1 rfl)) (c_impl_IsRing (Ty.lift _ (Ext.trans hE7 hS8.ext) r_r_Table) hx10) rfl ?_
  rintro _ wd11 ⟨rfl, he12⟩
  have hS14 := St.extend hS8 he12
  replace hS14 : St wd2 wd11 [] := hS14
  refine WL.val (Value.bool (!x9)) _ (op_not rfl) rfl ?_
  refine WL.nil ?_
  refine W.cond (!x9) rfl (fun hc15 => ?_) (fun hc15 => ?_)
  · replace h := ip h hc15
    refine W.seq (W.region ?_)
    refine WL.val (Value.int .i64 (0 : Int)) _ (op_assign rfl) rfl ?_
    refine WL.val (Value.int .i64 (1 : Int)) _ (op_assign rfl) rfl ?_
    refine WL.nil ?_
    refine W.ret ?_
    obtain rfl := Option.some.inj h
    show FinP _ _ _ _ _ _ _
    exact FinP.ret _ (res2 rfl rfl rfl) ⟨rfl, (inL rfl), (inL rfl), (Ext.trans hE7 hS14.ext)⟩
  · replace h := inegb h hc15
    refine W.skip ?_
    refine W.seq (W.seq (W.region ?_))
    refine WL.val (Value.agg #[v_r_Table]) _ (op_loadBox st_28 rfl (BoxAt.lift hS14.ext hx6) rfl rfl) rfl ?_
    refine WL.val v_x _ (op_move rfl) rfl ?_
    obtain ⟨x17, hx18, h⟩ := bs h
    refine WL.call _ (op_call fn_32 (args2 rfl rfl)) (c_impl_Ring_isVector (Ty.lift _ (Ext.trans hE7 hS14.ext) r_r_Table) (Ty.lift _ (Ext.trans hE7 hS14.ext) r_x) hx18) rfl ?_
    rintro _ wd19 ⟨rfl, he20⟩
    have hS22 := St.extend hS14 he20
    replace hS22 : St wd2 wd19 [] := hS22
    refine WL.val (Value.bool (!x17)) _ (op_not rfl) rfl ?_
    refine WL.nil ?_
    refine W.cond (!x17) rfl (fun hc23 => ?_) (fun hc23 => ?_)
    · replace h := ip h hc23
      refine W.seq (W.region ?_)
      refine WL.val (Value.int .i64 (0 : Int)) _ (op_assign rfl) rfl ?_
      refine WL.val (Value.int .i64 (2 : Int)) _ (op_assign rfl) rfl ?_
      refine WL.nil ?_
      refine W.ret ?_
      obtain rfl := Option.some.inj h
      show FinP _ _ _ _ _ _ _
      exact FinP.ret _ (res2 rfl rfl rfl) ⟨rfl, (inL rfl), (inL rfl), (Ext.trans hE7 hS22.ext)⟩
    · replace h := inegb h hc23
      refine W.skip ?_
      refine W.seq (W.region ?_)
      refine WL.val (Value.agg #[v_r_Table]) _ (op_loadBox st_28 rfl (BoxAt.lift hS22.ext hx6) rfl rfl) rfl ?_
      obtain ⟨x25, hx26, h⟩ := bs h
      refine WL.call _ (op_call fn_28 (args1 rfl)) (c_impl_Ring_integerDimensions (Ty.lift _ (Ext.trans hE7 hS22.ext) r_r_Table) hx26) rfl ?_
      rintro u27 wd29 ⟨_, rfl, hn28, he30, hs31⟩
      have hS32 := St.join hS22 he30 hs31
      replace hS32 : St wd2 wd29 [(Ty.sl (Ty.i .i64)).at u27 x25] := hS32
      have hb33 := St.rep (t := (Ty.sl (Ty.i .i64))) hS32 0 rfl
      have hE34 : Ext w wd29 := (Ext.trans hE7 hS32.ext)
      have hE35 : Ext wd2 wd29 := hS32.ext
      have hS36 : St wd29 wd29 [] := St.start wd29
      refine WL.val u27 _ (op_assign rfl) rfl ?_
      refine WL.nil ?_
      refine W.seq (W.seq (W.region ?_))
      refine WL.val u27 _ (op_move rfl) rfl ?_
      refine WL.val (Value.bool (x25).isEmpty) _ (op_eqlNilL sl_34 (Ty.lift _ hS36.ext hb33) hn28 rfl rfl) rfl ?_
      refine WL.nil ?_
      refine W.cond (x25).isEmpty rfl (fun hc37 => ?_) (fun hc37 => ?_)
      · replace h := ip h hc37
        refine W.seq (W.region ?_)
        refine WL.val (Value.int .i64 (0 : Int)) _ (op_assign rfl) rfl ?_
        refine WL.val (Value.int .i64 (4 : Int)) _ (op_assign rfl) rfl ?_
        refine WL.nil ?_
        refine W.ret ?_
        obtain rfl := Option.some.inj h
        show FinP _ _ _ _ _ _ _
        exact FinP.ret _ (res2 rfl rfl rfl) ⟨rfl, (inL rfl), (inL rfl), (Ext.trans hE34 hS36.ext)⟩
      · replace h := inegb h hc37
        refine W.skip ?_
        refine W.seq (W.region ?_)
        refine WL.val v_x _ (op_move rfl) rfl ?_
        refine WL.val u27 _ (op_move rfl) rfl ?_
        obtain ⟨x39, hx40, h⟩ := bs h
        refine WL.call _ (op_call fn_30 (args2 rfl rfl)) (c_impl_sumOfProducts (Ty.lift _ (Ext.trans hE34 hS36.ext) r_x) (Ty.lift _ hS36.ext hb33) hx40) rfl ?_
        rintro _ wd42 ⟨rfl, hr41, he43⟩
        have hS45 := St.extend hS36 he43
        replace hS45 : St wd29 wd42 [] := hS45
        refine WL.val (Value.int .i64 x39) _ (op_assign rfl) rfl ?_
        refine WL.val (Value.int .i64 (0 : Int)) _ (op_assign rfl) rfl ?_
        refine WL.nil ?_
        refine W.ret ?_
        obtain rfl := Option.some.inj h
        show FinP _ _ _ _ _ _ _
        exact FinP.ret _ (res2 rfl rfl rfl) ⟨rfl, hr41, (inL rfl), (Ext.trans hE34 hS45.ext)⟩

end Go.VG
